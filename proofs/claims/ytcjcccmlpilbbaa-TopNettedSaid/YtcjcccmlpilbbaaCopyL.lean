/- CopyL: lemmas on the way to the law (no condition of their own beyond what each states). -/
import Derived.Test.YtcjcccmlpilbbaaCopy0
import Derived.Test.YtcjcccmlpilbbaaRangeM
namespace Go.Proofs.Ytcjcccmlpilbbaa
open Go.RowKit Go.K55 Go.Maps
set_option linter.unusedVariables false
set_option linter.unusedSimpArgs false

/-- The link at k has been copied into v. -/
def Copied (w wr : World) (S : NS) (M' : Value → Option Value) (a b : Int) : Prop :=
  ∃ ao cap, M' (key a b) = some (.slice ao (S.link a b).length cap) ∧ Row wr 9 1 ao (S.link a b).length cap (strs (S.link a b)) ∧ Spare (fun _ _ => True) wr 1 ao (S.link a b).length cap ∧ (∀ x, ao = some x → 0 < cap → w.heap.size ≤ x.block)

/-- A copied net, while its links are laid: w the world ahead, c the net, cl its map, mb its machines, lb the old map, r the iterator, T: which links have come. -/
structure CopyL (w wr : World) (S : NS) (lb r c cl mb cap' : Nat) (M : Value → Option Value) (T : Value → Prop) : Prop where
  bel : Below w.heap.size w wr
  c0 : wr.cell? ⟨c, 0, none⟩ = some (.map (some cl))
  c1 : wr.cell? ⟨c, 1, none⟩ = some (.slice (some ⟨mb, 0, none⟩) S.nodes cap')
  c2 : wr.cell? ⟨c, 2, none⟩ = some (.int .i64 (S.msgs.length : Int))
  f2 : wr.frozen? ⟨c, 2, none⟩ = false
  ep : elemAt wr c = some 46
  row : Row wr 48 3 (some ⟨mb, 0, none⟩) S.nodes cap' (machV S S.nodes)
  mf : ∀ j, j < S.nodes * 3 → wr.frozen? ⟨mb, j, none⟩ = false
  hc : w.heap.size ≤ c
  hcl : w.heap.size ≤ cl
  hb : w.heap.size ≤ mb
  hr : w.heap.size ≤ r
  hlr : cl ≠ r
  ran : RangeAt Try.prog 51 wr lb r M T
  hT : ∀ k, T k → ∃ v, M k = some v
  map : ∃ M', MapAt Try.prog 51 wr cl M' ∧ (∀ k v, M' k = some v → T k) ∧ (∀ a b, T (key a b) → Copied w wr S M' a b) ∧
    (∀ k1 k2 a1 a2 n1 n2 c1 c2, k1 ≠ k2 → M' k1 = some (.slice (some a1) n1 c1) → M' k2 = some (.slice (some a2) n2 c2) → 0 < c1 → 0 < c2 → a1.block ≠ a2.block)

theorem CopyL.start {w wx wr : World} {S : NS} {lb r c cl mb cap' : Nat} {M : Value → Option Value} (h : CopyM w wx S c cl mb cap') (ran : RangeAt Try.prog 51 wr lb r M (fun _ => False)) (hb : Below wx.heap.size wx wr) (hrs : r = wx.heap.size) :
    CopyL w wr S lb r c cl mb cap' M (fun _ => False) := by
  have hcl := h.map.lt
  have hc := World.block_lt_of_cell? _ _ h.c0
  have frm : Frm (fun _ _ => False) wx wr := Frm.of_below hb
  refine { bel := h.bel.trans (hb.mono h.bel.size), c0 := (frm.cel _ _ hc (fun h => h)).trans h.c0, c1 := (frm.cel _ _ hc (fun h => h)).trans h.c1, c2 := (frm.cel _ _ hc (fun h => h)).trans h.c2, f2 := (frm.frz _ _ hc).trans h.f2, ep := (frm.elm _ hc).trans h.ep, row := h.row.kept frm (fun _ _ _ _ _ _ h => h), mf := ?_, hc := h.hc, hcl := h.hcl, hb := h.hb, hr := by have := h.bel.size; omega, hlr := by omega, ran := ran, hT := fun _ h => h.elim, map := ⟨fun _ => none, h.map.of_heap (hb.block _ hcl), fun _ _ h => (by cases h), fun _ _ h => h.elim, fun _ _ _ _ _ _ _ _ _ h => (by cases h)⟩ }
  intro j hj
  have hl := h.row.2.2.2 _ rfl
  have : mb < wx.heap.size := (hl.2.1 (by have := h.row.1; omega)).1
  rw [frm.frz _ _ this]; exact h.mf j hj

theorem Copied.kept {w wr w' : World} {S : NS} {M' : Value → Option Value} {a b : Int} (h : Copied w wr S M' a b) {F : Nat → Nat → Prop} (hf : Frm F wr w') (hF : ∀ x o, elemAt wr x = some 9 → ¬ F x o) : Copied w w' S M' a b := by
  obtain ⟨ao, cap, h1, h2, h3, h4⟩ := h
  refine ⟨ao, cap, h1, h2.kept hf (fun x o hx hc j _ => hF _ _ ((h2.2.2.2 _ hx).2.1 hc).2), ?_, h4⟩
  intro y hy j g1 g2
  have hc : 0 < cap := by rcases Nat.eq_zero_or_pos cap with h0 | h0; subst h0; omega; exact h0
  have hl := (h2.2.2.2 _ hy).2.1 hc
  obtain ⟨k1, k2, k3⟩ := h3 y hy j g1 g2
  rw [hf.cel _ _ hl.1 (hF _ _ hl.2), hf.frz _ _ hl.1]
  exact ⟨k1, k2, k3⟩

/-- One link more: w2 is the world behind the clone, w3 behind the map's store. -/
theorem CopyL.next {w wr w1 w2 w3 : World} {S : NS} {lb r c cl mb cap' : Nat} {M : Value → Option Value} {T : Value → Prop} (h : CopyL w wr S lb r c cl mb cap' M T) (hlb : lb < w.heap.size) (hdom : ∀ k v, M k = some v → ∃ a b : Int, k = key a b) {a b : Int} {v : Value} (hv : M (key a b) = some v) (hnT : ¬ T (key a b))
    (ran : RangeAt Try.prog 51 w1 lb r M (fun x => x = key a b ∨ T x)) (frm1 : Frm (fun x _ => x = r) wr w1) (b12 : Below w1.heap.size w1 w2)
    {ao : Option Addr} {n cap : Nat} (hn : n = (S.link a b).length) (row2 : Row w2 9 1 ao n cap (strs (S.link a b))) (sp2 : Spare (fun _ _ => True) w2 1 ao n cap) (lo2 : ∀ y, ao = some y → 0 < cap → w1.heap.size ≤ y.block)
    (hupd : ∀ M', MapAt Try.prog 51 w2 cl M' → MapAt Try.prog 51 w3 cl (putM M' (key a b) (.slice ao n cap))) (frm3 : Frm (fun x _ => x = cl) w2 w3) :
    CopyL w w3 S lb r c cl mb cap' M (fun x => x = key a b ∨ T x) := by
  subst hn
  obtain ⟨M', hm, hd, hcp, hap⟩ := h.map
  have hcll := hm.lt
  have hcle := hm.elem
  have hcl9 : ∀ x, elemAt wr x ≠ none → x ≠ cl := fun x hx e => hx (e ▸ hcle)
  have hrel : elemAt wr r = none := by obtain ⟨es, clock, since, c0, seen, hb, hst, hks, hr, hit, _⟩ := h.ran; unfold elemAt; rw [hit]
  have frm2 : Frm (fun _ _ => False) w1 w2 := Frm.of_below b12
  have frm : Frm (fun x _ => x = r ∨ x = cl) wr w3 := ((frm1.mono (fun _ _ _ h => Or.inl h)).trans frm2 (fun _ _ _ h => h.elim)).trans frm3 (fun _ _ _ h => Or.inr h)
  have hne : ∀ x T0, elemAt wr x = some T0 → ¬ (x = r ∨ x = cl) := by
    rintro x T0 hx (rfl | rfl)
    · rw [hrel] at hx; cases hx
    · rw [hcle] at hx; cases hx
  have hcc := World.block_lt_of_cell? _ _ h.c0
  have hrowp := (h.row.2.2.2 _ rfl).2.1
  have hs1 := frm1.size
  have hs2 := b12.size
  have hw := h.bel.size
  have hm2 : MapAt Try.prog 51 w2 cl M' := (hm.of_heap (frm1.blk _ hcll (fun _ => h.hlr))).of_heap (b12.block _ (Nat.lt_of_lt_of_le hcll hs1))
  have hm3 := hupd M' hm2
  have hnew : ∀ x, ao = some x → 0 < cap → x.block < w2.heap.size ∧ elemAt w2 x.block = some 9 := fun x hx hc => (row2.2.2.2 _ hx).2.1 hc
  have hcl2 : elemAt w2 cl = none := hm2.elem
  refine { bel := ?_, c0 := (frm.cel _ _ hcc (hne _ _ h.ep)).trans h.c0, c1 := (frm.cel _ _ hcc (hne _ _ h.ep)).trans h.c1, c2 := (frm.cel _ _ hcc (hne _ _ h.ep)).trans h.c2, f2 := (frm.frz _ _ hcc).trans h.f2, ep := (frm.elm _ hcc).trans h.ep, row := ?_, mf := ?_, hc := h.hc, hcl := h.hcl, hb := h.hb, hr := h.hr, hlr := h.hlr, ran := ?_, hT := ?_, map := ⟨_, hm3, ?_, ?_, ?_⟩ }
  · exact h.bel.trans (frm.below hw (fun x o hx => by have := h.hr; have := h.hcl; omega))
  · refine h.row.kept frm (fun x o hx hc j _ => ?_)
    obtain ⟨g1, g2⟩ := hrowp hc
    simp only [Option.some.injEq, Addr.mk.injEq] at hx
    obtain ⟨rfl, _⟩ := hx
    exact hne _ _ g2
  · intro j hj
    rw [frm.frz _ _ (hrowp (by have := h.row.1; omega)).1]; exact h.mf j hj
  · have hl1 : lb < w1.heap.size := by omega
    have hne1 : lb ≠ cl := by have := h.hcl; omega
    have hr1 : r < w1.heap.size := by
      obtain ⟨es, clock, since, c0, seen, hb, hst, hks, hr, hit, _⟩ := ran
      exact (Array.getElem?_eq_some_iff.1 hit).1
    exact (ran.of_heap ((frm3.blk _ (by omega) (fun _ => hne1)).trans (b12.block _ hl1)) ((frm3.blk _ (by omega) (fun _ e => h.hlr e.symm)).trans (b12.block _ hr1))).1
  · rintro k (rfl | hk)
    · exact ⟨v, hv⟩
    · exact h.hT k hk
  · intro k u hk
    by_cases e : k = key a b
    · exact Or.inl e
    · rw [putM_other _ _ e] at hk; exact Or.inr (hd k u hk)
  · intro x y hxy
    by_cases e : key x y = key a b
    · obtain ⟨rfl, rfl⟩ := key_inj e
      have hF : ∀ z (_ : Nat), elemAt w2 z = some 9 → ¬ z = cl := by
        rintro z o hz rfl; rw [hcl2] at hz; cases hz
      refine ⟨ao, cap, putM_same _ _ _, row2.kept frm3 (fun z o hz hc j _ => hF _ o (hnew _ hz hc).2), ?_, fun z hz hc => by have := lo2 z hz hc; omega⟩
      intro z hz j g1 g2
      have hc : 0 < cap := by rcases Nat.eq_zero_or_pos cap with h0 | h0; subst h0; omega; exact h0
      obtain ⟨k1, k2, k3⟩ := sp2 z hz j g1 g2
      obtain ⟨l1, l2⟩ := hnew z hz hc
      rw [frm3.cel _ _ l1 (fun e => hF _ 0 l2 e), frm3.frz _ _ l1]
      exact ⟨k1, k2, k3⟩
    · have hT : T (key x y) := hxy.resolve_left e
      obtain ⟨ao', cap1, g1, g2⟩ := (hcp x y hT).kept frm (fun z o hz => hne _ _ hz)
      exact ⟨ao', cap1, by rw [putM_other _ _ e]; exact g1, g2⟩
  · have hfresh : ∀ k2 a2 n2 c2, k2 ≠ key a b → M' k2 = some (.slice (some a2) n2 c2) → 0 < c2 → ∀ x, ao = some x → 0 < cap → x.block ≠ a2.block := by
      intro k2 a2 n2 c2 hk hM hc2 x hx hcx e
      have hT2 := hd _ _ hM
      obtain ⟨u, hu⟩ := h.hT _ hT2
      obtain ⟨a', b', rfl⟩ := hdom _ _ hu
      obtain ⟨ao', cap1, g1, g2, _⟩ := hcp a' b' hT2
      rw [hM] at g1
      simp only [Option.some.injEq, Value.slice.injEq] at g1
      obtain ⟨rfl, rfl, rfl⟩ := g1
      have := ((g2.2.2.2 _ rfl).2.1 hc2).1
      have := lo2 x hx hcx
      omega
    intro k1 k2 a1 a2 n1 n2 c1 c2 hne h1 h2 hc1 hc2
    by_cases e1 : k1 = key a b
    · have e2 : k2 ≠ key a b := fun e2 => hne (e1.trans e2.symm)
      rw [putM_other _ _ e2] at h2
      subst e1
      rw [putM_same] at h1
      simp only [Option.some.injEq, Value.slice.injEq] at h1
      obtain ⟨rfl, rfl, rfl⟩ := h1
      exact hfresh _ _ _ _ e2 h2 hc2 _ rfl hc1
    · rw [putM_other _ _ e1] at h1
      by_cases e2 : k2 = key a b
      · subst e2
        rw [putM_same] at h2
        simp only [Option.some.injEq, Value.slice.injEq] at h2
        obtain ⟨rfl, rfl, rfl⟩ := h2
        exact (hfresh _ _ _ _ e1 h1 hc1 _ rfl hc2).symm
      · rw [putM_other _ _ e2] at h2
        exact hap _ _ _ _ _ _ _ _ hne h1 h2 hc1 hc2


/-- All links have come: a net. -/
theorem CopyL.done {w wr : World} {p : Nat} {G : Nat → Prop} {S : NS} {lb mb0 mcap r c cl mb cap' : Nat} {M : Value → Option Value} {T : Value → Prop} (h : CopyL w wr S lb r c cl mb cap' M T) (hW : NetW w p S G lb mb0 mcap M) (hall : ∀ k v, M k = some v → T k) (hn1 : 1 ≤ S.nodes) :
    ∃ G', NetG wr c S G' ∧ ∀ x, G' x → w.heap.size ≤ x := by
  obtain ⟨M', hm, hd, hcp, hap⟩ := h.map
  have hcc := World.block_lt_of_cell? _ _ h.c0
  have hlink : ∀ a b, M (key a b) = none → (S.link a b).length = 0 := by
    intro a b hn
    obtain ⟨ao, cap, g1, g2, _⟩ := hW.row a b
    rw [hn] at g1
    simp only [nilS, Option.getD_none, Value.slice.injEq] at g1
    omega
  have hrow : ∀ a b, (M' (key a b) = none ∧ (S.link a b).length = 0) ∨ Copied w wr S M' a b := by
    intro a b
    cases hM : M (key a b) with
    | some v => exact Or.inr (hcp a b (hall _ _ hM))
    | none =>
      refine Or.inl ⟨?_, hlink a b hM⟩
      cases hM' : M' (key a b) with
      | none => rfl
      | some v =>
        obtain ⟨u, hu⟩ := h.hT _ (hd _ _ hM')
        rw [hM] at hu; cases hu
  have hrowp := (h.row.2.2.2 _ rfl).2.1 (by have := h.row.1; omega)
  refine ⟨fun x => w.heap.size ≤ x ∧ x < wr.heap.size ∧ (elemAt wr x = some 46 ∨ elemAt wr x = some 48 ∨ elemAt wr x = some 9 ∨ elemAt wr x = none), ⟨cl, mb, cap', M', { c0 := h.c0, c1 := h.c1, c2 := h.c2, f2 := h.f2, ep := h.ep, em := ?_, tk := ?_, dr := ?_, sd := ?_, mf := h.mf, map := hm, dom := ?_, row := ?_, apart := hap, gp := ⟨h.hc, hcc, Or.inl h.ep⟩, gm := ?_, gl := ⟨h.hcl, hm.lt, Or.inr (Or.inr (Or.inr hm.elem))⟩, glt := fun x hx => hx.2.1, gty := fun x hx => hx.2.2 }, h.row.1⟩, fun x hx => hx.1⟩
  · exact hrowp.2
  · intro i hi; have := h.row.cell (machV_get S _ i hi).1; simpa using this
  · intro i hi; have := h.row.cell (machV_get S _ i hi).2.1; simpa using this
  · intro i hi; have := h.row.cell (machV_get S _ i hi).2.2; simpa using this
  · intro k v hk
    obtain ⟨u, hu⟩ := h.hT _ (hd _ _ hk)
    exact hW.dom _ _ hu
  · intro a b
    rcases hrow a b with ⟨g1, g2⟩ | ⟨ao, cap, g1, g2, g3, g4⟩
    · have g3 : S.link a b = [] := List.eq_nil_of_length_eq_zero g2
      rw [g1, g3]
      exact ⟨none, 0, rfl, Row.nil _ _ _, Spare.nil _ _ _ _ _, fun _ h => by cases h⟩
    · refine ⟨ao, cap, by rw [g1]; rfl, g2, g3, fun x hx hc => ?_⟩
      have hl := (g2.2.2.2 _ hx).2.1 hc
      exact ⟨g4 x hx hc, hl.1, Or.inr (Or.inr (Or.inl hl.2))⟩
  · exact ⟨h.hb, hrowp.1, Or.inr (Or.inl hrowp.2)⟩

end Go.Proofs.Ytcjcccmlpilbbaa
