/- NetSt: lemmas on the way to the law (no condition of their own beyond what each states). -/
import Derived.Test.YtcjcccmlpilbbaaRows
import Derived.Test.YtcjcccmlpilbbaaMaps
import Derived.DeepKeys4
namespace Go.Proofs.Ytcjcccmlpilbbaa
open Go.RowKit Go.K55 Go.Maps
set_option linter.unusedVariables false
set_option linter.unusedSimpArgs false

structure Msg where
  fr : Int
  to : Int
  s : ByteArray

/-- A net, as one tells of it. -/
structure NS where
  nodes : Nat
  msgs : List Msg
  side : Nat → Bool
  ticks : Nat → Int
  draws : Nat → Int

def NS.link (S : NS) (a b : Int) : List ByteArray := (S.msgs.filter fun m => m.fr == a && m.to == b).map (·.s)
def strs (l : List ByteArray) : List Value := l.map Value.string
def key (a b : Int) : Value := .agg #[.int .i64 a, .int .i64 b]

theorem key_inj {a b c d : Int} (h : key a b = key c d) : a = c ∧ b = d := by
  unfold key at h
  simp at h
  exact h

theorem Try.laidOut : laidOutB Try.prog = true := by kernel_rfl
theorem Try.row51 : 51 < Try.prog.types.size := by decide +kernel
theorem Try.wide51 : (match Try.prog.underlying 51 with | some (.array _ _) | some (.struct _) => true | _ => false) = true := by kernel_rfl
theorem Try.keyed51 : Keyed Try.prog 51 := Keyed.of_law (deep_law_laid Try.laidOut (m := 2) (by omega) Try.row51 (by kernel_rfl) Try.wide51)

theorem keyOf_key {a b : Int} (wa : (Lit.int .i64 a).wf = true) (wb : (Lit.int .i64 b).wf = true) : ∃ l, keyOf Try.prog 51 (key a b) = some l := by
  have hu := Try.underlying51
  have hkt : Try.prog.keyType 51 = true := by kernel_rfl
  have hcs : Try.prog.cellsOf 51 = 2 := by kernel_rfl
  have hc3 : Try.prog.cellsOf 3 = 1 := by kernel_rfl
  have hu3 := Try.underlying3
  obtain ⟨m, hm⟩ : ∃ m, Try.prog.types.size = m + 1 := ⟨Try.prog.types.size - 1, by have := Try.row51; omega⟩
  unfold keyOf key
  simp only [hu]
  rw [if_pos (by simp [hkt, Value.formed, hu, hcs]), hm]
  refine ⟨.string (keyBytes [.int .i64 a, .int .i64 b]), ?_⟩
  unfold Program.keyLits
  simp only [hu, Value.cells, hcs]
  simp [Program.keyLits, hu3, hc3, wa, wb]

def nilS : Value := .slice none 0 0

/-- The net at p, as S tells of it; lb: its map; mb: its machines; M: what the map holds; G: the blocks that are its own. -/
structure NetW (w : World) (p : Nat) (S : NS) (G : Nat → Prop) (lb mb mcap : Nat) (M : Value → Option Value) : Prop where
  c0 : w.cell? ⟨p, 0, none⟩ = some (.map (some lb))
  c1 : w.cell? ⟨p, 1, none⟩ = some (.slice (some ⟨mb, 0, none⟩) S.nodes mcap)
  c2 : w.cell? ⟨p, 2, none⟩ = some (.int .i64 (S.msgs.length : Int))
  f2 : w.frozen? ⟨p, 2, none⟩ = false
  ep : elemAt w p = some 46
  em : elemAt w mb = some 48
  tk : ∀ i, i < S.nodes → w.cell? ⟨mb, i * 3, none⟩ = some (.int .i64 (S.ticks (i + 1)))
  dr : ∀ i, i < S.nodes → w.cell? ⟨mb, i * 3 + 1, none⟩ = some (.int .u64 (S.draws (i + 1)))
  sd : ∀ i, i < S.nodes → w.cell? ⟨mb, i * 3 + 2, none⟩ = some (.bool (S.side (i + 1)))
  mf : ∀ o, o < S.nodes * 3 → w.frozen? ⟨mb, o, none⟩ = false
  map : MapAt Try.prog 51 w lb M
  dom : ∀ k v, M k = some v → ∃ a b : Int, k = key a b ∧ 1 ≤ a ∧ a ≤ S.nodes ∧ 1 ≤ b ∧ b ≤ S.nodes
  row : ∀ a b, ∃ ao cap, (M (key a b)).getD nilS = .slice ao (S.link a b).length cap ∧ Row w 9 1 ao (S.link a b).length cap (strs (S.link a b)) ∧ Spare (fun _ _ => True) w 1 ao (S.link a b).length cap ∧ (∀ x, ao = some x → 0 < cap → G x.block)
  apart : ∀ k1 k2 a1 a2 n1 n2 c1 c2, k1 ≠ k2 → M k1 = some (.slice (some a1) n1 c1) → M k2 = some (.slice (some a2) n2 c2) → 0 < c1 → 0 < c2 → a1.block ≠ a2.block
  gp : G p
  gm : G mb
  gl : G lb
  glt : ∀ b, G b → b < w.heap.size
  gty : ∀ b, G b → elemAt w b = some 46 ∨ elemAt w b = some 48 ∨ elemAt w b = some 9 ∨ elemAt w b = none

theorem strs_get {l : List ByteArray} {j : Nat} {u : Value} (h : (strs l)[j]? = some u) : ∃ s, l[j]? = some s ∧ u = .string s := by
  unfold strs at h
  simp at h
  obtain ⟨s, h1, h2⟩ := h
  exact ⟨s, h1, h2.symm⟩

theorem strs_one (l : List ByteArray) : ∀ u ∈ strs l, u.oneCell' = true := by
  intro u hu
  obtain ⟨s, _, rfl⟩ := List.mem_map.1 hu
  rfl

/-- What is not the net's may turn. -/
theorem NetW.kept {w w' : World} {p : Nat} {S : NS} {G : Nat → Prop} {lb mb mcap : Nat} {M : Value → Option Value} (h : NetW w p S G lb mb mcap M) {F : Nat → Nat → Prop} (hf : Frm F w w') (hF : ∀ b o, G b → ¬ F b o) :
    NetW w' p S G lb mb mcap M where
  c0 := (hf.cel _ _ (h.glt _ h.gp) (hF _ _ h.gp)).trans h.c0
  c1 := (hf.cel _ _ (h.glt _ h.gp) (hF _ _ h.gp)).trans h.c1
  c2 := (hf.cel _ _ (h.glt _ h.gp) (hF _ _ h.gp)).trans h.c2
  f2 := (hf.frz _ _ (h.glt _ h.gp)).trans h.f2
  ep := (hf.elm _ (h.glt _ h.gp)).trans h.ep
  em := (hf.elm _ (h.glt _ h.gm)).trans h.em
  tk i hi := (hf.cel _ _ (h.glt _ h.gm) (hF _ _ h.gm)).trans (h.tk i hi)
  dr i hi := (hf.cel _ _ (h.glt _ h.gm) (hF _ _ h.gm)).trans (h.dr i hi)
  sd i hi := (hf.cel _ _ (h.glt _ h.gm) (hF _ _ h.gm)).trans (h.sd i hi)
  mf o ho := (hf.frz _ _ (h.glt _ h.gm)).trans (h.mf o ho)
  map := h.map.of_heap (hf.blk _ (h.glt _ h.gl) (fun o => hF _ o h.gl))
  dom := h.dom
  row a b := by
    obtain ⟨ao, cap, h1, h2, h3, h4⟩ := h.row a b
    refine ⟨ao, cap, h1, h2.kept hf (fun b' o ha hc j _ => hF _ _ (h4 _ ha hc)), ?_, h4⟩
    intro x hx j hj1 hj2
    have hcap : 0 < cap := by
      rcases Nat.eq_zero_or_pos cap with h0 | h0
      · subst h0; omega
      · exact h0
    obtain ⟨k1, k2, k3⟩ := h3 x hx j hj1 hj2
    have hG := h4 x hx hcap
    rw [hf.cel _ _ (h.glt _ hG) (hF _ _ hG), hf.frz _ _ (h.glt _ hG)]
    exact ⟨k1, k2, k3⟩
  apart := h.apart
  gp := h.gp
  gm := h.gm
  gl := h.gl
  glt b hb := Nat.lt_of_lt_of_le (h.glt b hb) hf.size
  gty b hb := by rw [hf.elm b (h.glt b hb)]; exact h.gty b hb

theorem NetW.blocks {w : World} {p : Nat} {S : NS} {G : Nat → Prop} {lb mb mcap : Nat} {M : Value → Option Value} (h : NetW w p S G lb mb mcap M) : p ≠ mb ∧ p ≠ lb ∧ mb ≠ lb := by
  refine ⟨fun e => ?_, fun e => ?_, fun e => ?_⟩
  · have h1 := h.ep; rw [e, h.em] at h1; cases h1
  · have h1 := h.ep; rw [e, h.map.elem] at h1; cases h1
  · have h1 := h.em; rw [e, h.map.elem] at h1; cases h1

/-- One link has turned. -/
theorem NetW.put {w w2 : World} {p : Nat} {S S' : NS} {G : Nat → Prop} {lb mb mcap : Nat} {M : Value → Option Value} (h : NetW w p S G lb mb mcap M) {a b : Int} {ao ao' : Option Addr} {n cap cap' : Nat} {l' : List ByteArray}
    (hold : (M (key a b)).getD nilS = .slice ao n cap) {F : Nat → Nat → Prop} (hf : Frm F w w2) (hF : ∀ x o, F x o → x = lb ∨ ∃ y, ao = some y ∧ 0 < cap ∧ x = y.block)
    (hm : MapAt Try.prog 51 w2 lb (putM M (key a b) (.slice ao' l'.length cap'))) (hrow : Row w2 9 1 ao' l'.length cap' (strs l')) (hsp : Spare (fun _ _ => True) w2 1 ao' l'.length cap')
    (hloc : ∀ x, ao' = some x → 0 < cap' → (∃ y, ao = some y ∧ 0 < cap ∧ x.block = y.block) ∨ w.heap.size ≤ x.block)
    (ha : 1 ≤ a ∧ a ≤ S.nodes) (hb : 1 ≤ b ∧ b ≤ S.nodes) (hS1 : S'.nodes = S.nodes) (hS2 : S'.ticks = S.ticks) (hS3 : S'.draws = S.draws) (hS4 : S'.side = S.side)
    (hl' : S'.link a b = l') (hlo : ∀ c d, ¬ (c = a ∧ d = b) → S'.link c d = S.link c d) :
    ∃ G', NetW (w2.setCell ⟨p, 2, none⟩ (.int .i64 (S'.msgs.length : Int))) p S' G' lb mb mcap (putM M (key a b) (.slice ao' l'.length cap')) ∧ (∀ x, G' x → G x ∨ w.heap.size ≤ x) := by
  obtain ⟨hpm, hpl, hml⟩ := h.blocks
  have hap : ∀ y, ao = some y → 0 < cap → G y.block ∧ elemAt w y.block = some 9 := by
    intro y hy hc
    obtain ⟨ao2, cap2, g1, g2, g3, g4⟩ := h.row a b
    rw [g1] at hold
    simp only [Value.slice.injEq] at hold
    obtain ⟨rfl, rfl, rfl⟩ := hold
    exact ⟨g4 y hy hc, ((g2.2.2.2 y hy).2.1 hc).2⟩
  have hFp : ∀ o, ¬ F p o := fun o hf' => by
    rcases hF _ _ hf' with e | ⟨y, hy, hc, e⟩
    · exact hpl e
    · have := (hap y hy hc).2; rw [← e, h.ep] at this; cases this
  have hFm : ∀ o, ¬ F mb o := fun o hf' => by
    rcases hF _ _ hf' with e | ⟨y, hy, hc, e⟩
    · exact hml e
    · have := (hap y hy hc).2; rw [← e, h.em] at this; cases this
  have hpc : (w2.cell? ⟨p, 2, none⟩).isSome = true := by rw [hf.cel _ _ (h.glt _ h.gp) (hFp _), h.c2]; rfl
  -- the rest is as before the last store
  have key2 : ∀ (P' : World), P' = w2.setCell ⟨p, 2, none⟩ (.int .i64 (S'.msgs.length : Int)) → ∀ x o, ¬ (x = p ∧ o = 2) → P'.cell? ⟨x, o, none⟩ = w2.cell? ⟨x, o, none⟩ := by
    rintro P' rfl x o hne
    exact World.cell?_setCell_other _ _ _ _ (fun e => hne (by cases e; exact ⟨rfl, rfl⟩))
  have k2 := key2 _ rfl
  refine ⟨fun x => G x ∨ (w.heap.size ≤ x ∧ ∃ y, ao' = some y ∧ 0 < cap' ∧ x = y.block), ?_, fun x hx => hx.imp id (fun h => h.1)⟩
  have hel : ∀ x, elemAt (w2.setCell ⟨p, 2, none⟩ (.int .i64 (S'.msgs.length : Int))) x = elemAt w2 x := fun x => elemAt_setCell _ _ _ _
  refine { c0 := ?_, c1 := ?_, c2 := ?_, f2 := ?_, ep := ?_, em := ?_, tk := ?_, dr := ?_, sd := ?_, mf := ?_, map := ?_, dom := ?_, row := ?_, apart := ?_, gp := Or.inl h.gp, gm := Or.inl h.gm, gl := Or.inl h.gl, glt := ?_, gty := ?_ }
  · rw [k2 _ _ (by simp)]; exact (hf.cel _ _ (h.glt _ h.gp) (hFp _)).trans h.c0
  · rw [k2 _ _ (by simp), hS1]; exact (hf.cel _ _ (h.glt _ h.gp) (hFp _)).trans h.c1
  · obtain ⟨u, hu⟩ := Option.isSome_iff_exists.1 hpc
    exact World.cell?_setCell_same _ _ _ hu
  · rw [World.frozen?_setCell]; exact (hf.frz _ _ (h.glt _ h.gp)).trans h.f2
  · rw [hel]; exact (hf.elm _ (h.glt _ h.gp)).trans h.ep
  · rw [hel]; exact (hf.elm _ (h.glt _ h.gm)).trans h.em
  · intro i hi
    rw [k2 _ _ (fun e => hpm e.1.symm), hS2]; exact (hf.cel _ _ (h.glt _ h.gm) (hFm _)).trans (h.tk i (hS1 ▸ hi))
  · intro i hi
    rw [k2 _ _ (fun e => hpm e.1.symm), hS3]; exact (hf.cel _ _ (h.glt _ h.gm) (hFm _)).trans (h.dr i (hS1 ▸ hi))
  · intro i hi
    rw [k2 _ _ (fun e => hpm e.1.symm), hS4]; exact (hf.cel _ _ (h.glt _ h.gm) (hFm _)).trans (h.sd i (hS1 ▸ hi))
  · intro o ho; rw [World.frozen?_setCell]; exact (hf.frz _ _ (h.glt _ h.gm)).trans (h.mf o (hS1 ▸ ho))
  · exact hm.of_heap (Below.heap_setCell _ _ _ _ (fun e => hpl e.symm))
  · intro k v hk
    by_cases e : k = key a b
    · exact ⟨a, b, e, ha.1, hS1 ▸ ha.2, hb.1, hS1 ▸ hb.2⟩
    · rw [putM_other _ _ e] at hk
      obtain ⟨c, d, h1, h2, h3, h4, h5⟩ := h.dom k v hk
      exact ⟨c, d, h1, h2, hS1 ▸ h3, h4, hS1 ▸ h5⟩
  · intro c d
    by_cases e : c = a ∧ d = b
    · obtain ⟨rfl, rfl⟩ := e
      rw [putM_same, hl']
      refine ⟨ao', cap', rfl, ?_, ?_, ?_⟩
      · refine hrow.kept (F := fun x o => x = p ∧ o = 2) (Frm.setCell1 _ _ (Or.inl ⟨rfl, rfl⟩)) ?_
        rintro x o hx hc j _ ⟨rfl, _⟩
        have h1 := ((hrow.2.2.2 _ hx).2.1 hc).2
        dsimp only at h1
        rw [hf.elm _ (h.glt _ h.gp), h.ep] at h1
        cases h1
      · intro x hx j h1 h2
        have hc : 0 < cap' := by rcases Nat.eq_zero_or_pos cap' with h0 | h0; subst h0; omega; exact h0
        obtain ⟨u1, u2, u3⟩ := hsp x hx j h1 h2
        rw [World.frozen?_setCell, k2 _ _ ?_]
        · exact ⟨u1, u2, u3⟩
        · rintro ⟨e1, _⟩
          have h1 := ((hrow.2.2.2 _ hx).2.1 hc).2
          rw [e1, hf.elm _ (h.glt _ h.gp), h.ep] at h1
          cases h1
      · intro x hx hc
        rcases hloc x hx hc with ⟨y, hy, hyc, e⟩ | hge
        · exact Or.inl (e ▸ (hap y hy hyc).1)
        · exact Or.inr ⟨hge, x, hx, hc, rfl⟩
    · have hkne : key c d ≠ key a b := fun e' => e (key_inj e')
      rw [putM_other _ _ hkne, hlo c d e]
      obtain ⟨ao2, cap2, g1, g2, g3, g4⟩ := h.row c d
      have hdis : ∀ y o, ao2 = some y → 0 < cap2 → ¬ F y.block o := by
        intro y o hy hc hf'
        have hy9 := ((g2.2.2.2 y hy).2.1 hc).2
        rcases hF _ _ hf' with e1 | ⟨y', hy', hc', e1⟩
        · rw [e1, h.map.elem] at hy9; cases hy9
        · subst hy; subst hy'
          cases hMc : M (key c d) with
          | none => rw [hMc] at g1; simp [nilS] at g1
          | some v1 =>
            cases hMa : M (key a b) with
            | none => rw [hMa] at hold; simp [nilS] at hold
            | some v2 =>
              rw [hMc] at g1; rw [hMa] at hold
              simp only [Option.getD_some] at g1 hold
              exact h.apart _ _ _ _ _ _ _ _ hkne (g1 ▸ hMc) (hold ▸ hMa) hc hc' e1
      refine ⟨ao2, cap2, g1, ?_, ?_, fun y hy hc => Or.inl (g4 y hy hc)⟩
      · have r1 := g2.kept hf (fun x o hx hc j _ => hdis _ _ hx hc)
        refine r1.kept (F := fun x o => x = p ∧ o = 2) (Frm.setCell1 _ _ (Or.inl ⟨rfl, rfl⟩)) ?_
        rintro x o hx hc j _ ⟨rfl, _⟩
        have h1 := ((g2.2.2.2 _ hx).2.1 hc).2
        dsimp only at h1
        rw [h.ep] at h1
        cases h1
      · intro y hy j h1 h2
        have hc : 0 < cap2 := by rcases Nat.eq_zero_or_pos cap2 with h0 | h0; subst h0; omega; exact h0
        obtain ⟨u1, u2, u3⟩ := g3 y hy j h1 h2
        have hlt := h.glt _ (g4 y hy hc)
        have hne : ¬ (y.block = p ∧ y.off + j = 2) := by
          rintro ⟨e1, _⟩
          have h1 := ((g2.2.2.2 _ hy).2.1 hc).2
          rw [e1, h.ep] at h1
          cases h1
        rw [World.frozen?_setCell, k2 _ _ hne, hf.cel _ _ hlt (hdis _ _ hy hc), hf.frz _ _ hlt]
        exact ⟨u1, u2, u3⟩
  · have hnew : ∀ k2 a2 n2 c2, k2 ≠ key a b → M k2 = some (.slice (some a2) n2 c2) → 0 < c2 → ∀ x, ao' = some x → 0 < cap' → x.block ≠ a2.block := by
      intro k2 a2 n2 c2 hk hM hc x hx hcx e
      obtain ⟨c, d, rfl, _⟩ := h.dom _ _ hM
      rcases hloc x hx hcx with ⟨y, hy, hyc, e1⟩ | hge
      · subst hy
        cases hMa : M (key a b) with
        | none => rw [hMa] at hold; simp [nilS] at hold
        | some v2 =>
          rw [hMa] at hold
          simp only [Option.getD_some] at hold
          exact h.apart _ _ _ _ _ _ _ _ hk hM (hold ▸ hMa) hc hyc (by rw [← e, e1])
      · obtain ⟨ao2, cap2, g1, g2, g3, g4⟩ := h.row c d
        rw [hM] at g1
        simp only [Option.getD_some, Value.slice.injEq] at g1
        obtain ⟨rfl, rfl, rfl⟩ := g1
        have := h.glt _ (g4 a2 rfl hc)
        omega
    intro k1 k2 a1 a2 n1 n2 c1 c2 hne h1 h2 hc1 hc2
    by_cases e1 : k1 = key a b
    · have e2 : k2 ≠ key a b := fun e2 => hne (e1.trans e2.symm)
      rw [putM_other _ _ e2] at h2
      subst e1
      rw [putM_same] at h1
      simp only [Option.some.injEq, Value.slice.injEq] at h1
      obtain ⟨rfl, rfl, rfl⟩ := h1
      exact hnew _ _ _ _ e2 h2 hc2 _ rfl hc1
    · rw [putM_other _ _ e1] at h1
      by_cases e2 : k2 = key a b
      · subst e2
        rw [putM_same] at h2
        simp only [Option.some.injEq, Value.slice.injEq] at h2
        obtain ⟨rfl, rfl, rfl⟩ := h2
        exact (hnew _ _ _ _ e1 h1 hc1 _ rfl hc2).symm
      · rw [putM_other _ _ e2] at h2
        exact h.apart _ _ _ _ _ _ _ _ hne h1 h2 hc1 hc2
  · rintro x (hx | ⟨hge, y, hy, hc, rfl⟩)
    · simp only [World.size_setCell]; exact Nat.lt_of_lt_of_le (h.glt x hx) hf.size
    · simp only [World.size_setCell]; exact ((hrow.2.2.2 _ hy).2.1 hc).1
  · rintro x (hx | ⟨hge, y, hy, hc, rfl⟩)
    · rw [hel, hf.elm _ (h.glt x hx)]; exact h.gty x hx
    · rw [hel]; exact Or.inr (Or.inr (Or.inl ((hrow.2.2.2 _ hy).2.1 hc).2))

end Go.Proofs.Ytcjcccmlpilbbaa
