/- NetdB: lemmas on the way to the law (no condition of their own beyond what each states). -/
import Derived.Test.YtcjcccmlpilbbaaNetdA
import Derived.Deep.MidRow
namespace Go.Proofs.Ytcjcccmlpilbbaa
open Go.RowKit Go.K55 Go.Maps
set_option linter.unusedVariables false
set_option linter.unusedSimpArgs false

structure Stp where
  k : Int
  fr : Int
  tu : Int
  ii : Int
  nn : Int

def Stp.ok (x : Stp) : Prop := (0 ≤ x.k ∧ x.k ≤ 255) ∧ (0 ≤ x.fr ∧ x.fr ≤ 255) ∧ (0 ≤ x.tu ∧ x.tu ≤ 255) ∧ (0 ≤ x.ii ∧ x.ii ≤ 255) ∧ 0 ≤ x.nn ∧ x.nn ≤ 255

def stps (l : List Stp) : List Value := l.flatMap fun x => [.int .u8 x.k, .int .u8 x.fr, .int .u8 x.tu, .int .u8 x.ii, .int .u8 x.nn]

theorem stps_length : ∀ l : List Stp, (stps l).length = l.length * 5
  | [] => rfl
  | m :: r => by
    have := stps_length r
    simp only [stps, List.flatMap_cons, List.length_append, List.length_cons, List.length_nil] at this ⊢
    omega

theorem stps_get : ∀ (l : List Stp) (k : Nat) (x : Stp), l[k]? = some x → (stps l)[k * 5]? = some (.int .u8 x.k) ∧ (stps l)[k * 5 + 1]? = some (.int .u8 x.fr) ∧ (stps l)[k * 5 + 2]? = some (.int .u8 x.tu) ∧ (stps l)[k * 5 + 3]? = some (.int .u8 x.ii) ∧ (stps l)[k * 5 + 4]? = some (.int .u8 x.nn)
  | [], _, _, h => by simp at h
  | x :: r, 0, m, h => by
    simp at h; subst h
    simp [stps]
  | x :: r, k + 1, m, h => by
    simp at h
    obtain ⟨h1, h2, h3, h4, h5⟩ := stps_get r k m h
    have e : stps (x :: r) = .int .u8 x.k :: .int .u8 x.fr :: .int .u8 x.tu :: .int .u8 x.ii :: .int .u8 x.nn :: stps r := rfl
    have key : ∀ j, (stps (x :: r))[(k + 1) * 5 + j]? = (stps r)[k * 5 + j]? := by
      intro j
      rw [e, show (k + 1) * 5 + j = (k * 5 + j) + 1 + 1 + 1 + 1 + 1 by omega]
      simp only [List.getElem?_cons_succ]
    exact ⟨(key 0).trans h1, (key 1).trans h2, (key 2).trans h3, (key 3).trans h4, (key 4).trans h5⟩

/-- A slice's cells, of a slice that came in. -/
def RowC (w : World) (size : Nat) (ao : Option Addr) (n : Nat) (xs : List Value) : Prop :=
  xs.length = n * size ∧ (0 < n → ∃ b o, ao = some ⟨b, o, none⟩) ∧ ∀ b o, ao = some ⟨b, o, none⟩ → ∀ j u, xs[j]? = some u → w.cell? ⟨b, o + j, none⟩ = some u

theorem RowC.below {w w' : World} {size n : Nat} {ao : Option Addr} {xs : List Value} (h : RowC w size ao n xs) (hb : Below w.heap.size w w') : RowC w' size ao n xs := by
  refine ⟨h.1, h.2.1, fun b o ha j u hj => ?_⟩
  have hc := h.2.2 b o ha j u hj
  exact ((Frm.of_below (F := fun _ _ => False) hb).cel b (o + j) (World.block_lt_of_cell? w _ hc) (fun h => h)).trans hc

/-- What steps, one behind the other, come to: the texts of what is sent are left open. -/
def Reach : NS → List Stp → NS → Prop
  | S, [], S' => S' = S
  | S, x :: r, S' => ∃ st : ByteArray, st.size ≤ 100 ∧ Reach (S.step x.k x.fr x.tu x.ii x.nn st) r S'

theorem Reach.snoc : ∀ {l : List Stp} {S S' : NS} {x : Stp} {st : ByteArray}, Reach S l S' → st.size ≤ 100 → Reach S (l ++ [x]) (S'.step x.k x.fr x.tu x.ii x.nn st)
  | [], _, _, _, st, h, hs => ⟨st, hs, by rw [show _ = _ from h]; rfl⟩
  | _ :: _, _, _, _, _, ⟨st, h1, h2⟩, hs => ⟨st, h1, h2.snoc hs⟩

theorem Wf.fresh {nd : Nat} {seed : Int} (h1 : 1 ≤ nd) (h2 : nd ≤ 5) : Wf (NS.fresh nd seed) 0 := ⟨h1, h2, Nat.le_refl _, fun _ h => by simp [NS.fresh] at h, fun _ h => by simp [NS.fresh] at h⟩

/-- The box for what is left behind, not filled yet. -/
structure Room (w : World) (q b : Nat) : Prop where
  el : elemAt w b = some 39
  ne : b ≠ q
  some : ∀ o, o < 26 → (w.cell? ⟨b, o, none⟩).isSome = true
  fz : ∀ o, w.frozen? ⟨b, o, none⟩ = false
  lt : b < w.heap.size

/-- What is left behind. -/
structure Left (B : Nat) (w : World) (q b : Nat) (cp : Value) (G : Nat → Prop) (ao : Option Addr) (n cap : Nat) : Prop where
  all : ∃ c S2 G2 ao2 cap2 N, cp = .pointer (Option.some ⟨c, 0, none⟩) ∧ NetG w c S2 G2 ∧ W55 w b S2 ao2 cap2 ∧ Wf S2 N ∧ N ≤ 40 ∧ (∀ x, G2 x → ¬ G x) ∧ (∀ x, G2 x → B ≤ x) ∧ (∀ x o, ao2 = Option.some ⟨x, o, none⟩ → 0 < cap2 → ∀ j, j < S2.msgs.length * 3 → ¬ Lof ao n cap x (o + j))

/-- The state of the great loop ahead of step k. -/
structure Loop (w0 w : World) (nd : Nat) (seed : Int) (xs : List Stp) (p q b : Nat) (k many : Nat) (cp : Value) (S : NS) (G : Nat → Prop) (ao : Option Addr) (cap : Nat) : Prop where
  net : NetG w p S G
  st : W55G w q S ao cap
  wf : Wf S k
  reach : Reach (NS.fresh nd seed) (xs.take k) S
  bel : Below w0.heap.size w0 w
  hG : ∀ x, G x → w0.heap.size ≤ x
  hq : w0.heap.size ≤ q
  hb : w0.heap.size ≤ b
  hL : ∀ x o, Lof ao S.msgs.length cap x o → w0.heap.size ≤ x
  room : Room w q b
  left : many / 2 < k → Left w0.heap.size w q b cp G ao S.msgs.length cap

theorem Room.kept {w w' : World} {q b : Nat} {F : Nat → Nat → Prop} (h : Room w q b) (hf : Frm F w w') (hF : ∀ o, ¬ F b o) : Room w' q b :=
  ⟨(hf.elm _ h.lt).trans h.el, h.ne, fun o ho => by rw [hf.cel _ _ h.lt (hF o)]; exact h.some o ho, fun o => (hf.frz _ _ h.lt).trans (h.fz o), Nat.lt_of_lt_of_le h.lt hf.size⟩

/-- What is left behind stays, while the net and what is kept turn. -/
theorem Left.kept {B : Nat} {w w' : World} {q b : Nat} {cp : Value} {G G' : Nat → Prop} {ao ao' : Option Addr} {n n' cap cap' : Nat} (h : Left B w q b cp G ao n cap) (hbq : b ≠ q) (hq39 : elemAt w q = some 39) (hb39 : elemAt w b = some 39)
    (hf : Frm (fun x o => G x ∨ x = q ∨ Lof ao n cap x o) w w') (hG : ∀ x, G' x → G x ∨ w.heap.size ≤ x) (hL : ∀ x o, Lof ao' n' cap' x o → Lof ao n cap x o ∨ w.heap.size ≤ x) (hGt : ∀ x, G x → elemAt w x ≠ some 39 ∧ elemAt w x ≠ some 60) (hLt : ∀ x o, Lof ao n cap x o → elemAt w x = some 60) :
    Left B w' q b cp G' ao' n' cap' := by
  obtain ⟨c, S2, G2, ao2, cap2, N, rfl, hn, h55, hS, hN, hd, hB, hr⟩ := h.all
  have hrt := fun x o (hx : ao2 = some ⟨x, o, none⟩) hc => (h55.row.2.2.2 _ hx).2.1 hc
  refine ⟨c, S2, G2, ao2, cap2, N, rfl, hn.kept hf ?_, h55.kept hf ?_ ?_, hS, hN, ?_, hB, ?_⟩
  · rintro x o hx (hg | rfl | hl)
    · exact hd x hx hg
    · rcases hn.gty _ hx with e | e | e | e <;> (rw [hq39] at e; cases e)
    · rcases hn.gty _ hx with e | e | e | e <;> (rw [hLt _ _ hl] at e; cases e)
  · rintro o (hg | e | hl)
    · exact (hGt _ hg).1 hb39
    · exact hbq e
    · have := hLt _ _ hl; rw [hb39] at this; cases this
  · rintro x o hx hc j hj (hg | rfl | hl)
    · exact (hGt _ hg).2 (hrt _ _ hx hc).2
    · have := (hrt _ _ hx hc).2; dsimp only at this; rw [hq39] at this; cases this
    · exact hr x o hx hc j hj hl
  · intro x hx hg
    rcases hG x hg with h1 | h1
    · exact hd x hx h1
    · have := hn.glt x hx; omega
  · intro x o hx hc j hj hl
    rcases hL _ _ hl with h1 | h1
    · exact hr x o hx hc j hj h1
    · have := (hrt x o hx hc).1; dsimp only at this; omega

theorem Loop.below {w0 w w' : World} {nd : Nat} {seed : Int} {xs : List Stp} {p q b : Nat} {k many : Nat} {cp : Value} {S : NS} {G : Nat → Prop} {ao : Option Addr} {cap : Nat} (h : Loop w0 w nd seed xs p q b k many cp S G ao cap) (hb : Below w.heap.size w w') : Loop w0 w' nd seed xs p q b k many cp S G ao cap := by
  have hf : Frm (fun _ _ => False) w w' := Frm.of_below hb
  refine ⟨h.net.below hb, h.st.below hb, h.wf, h.reach, h.bel.trans (hb.mono h.bel.size), h.hG, h.hq, h.hb, h.hL, h.room.kept hf (fun _ h => h), fun hk => ?_⟩
  obtain ⟨c, S2, G2, ao2, cap2, N, rfl, hn, h55, hS, hN, hd, hB, hr⟩ := (h.left hk).all
  exact ⟨c, S2, G2, ao2, cap2, N, rfl, hn.below hb, h55.below hb, hS, hN, hd, hB, hr⟩

theorem Loop.turn {w0 w w' : World} {nd : Nat} {seed : Int} {xs : List Stp} {p q b : Nat} {k many : Nat} {cp : Value} {S : NS} {G : Nat → Prop} {ao : Option Addr} {cap : Nat} (h : Loop w0 w nd seed xs p q b k many cp S G ao cap) {x : Stp} (hx : xs[k]? = some x)
    (hl : many / 2 < k + 1 → Left w0.heap.size w q b cp G ao S.msgs.length cap) {st : ByteArray} (hst : st.size ≤ 100) {e : Ending} (hh : Hap w p q S (S.step x.k x.fr x.tu x.ii x.nn st) G ao cap e w') :
    ∃ S' G' ao' cap', Loop w0 w' nd seed xs p q b (k + 1) many cp S' G' ao' cap' := by
  obtain ⟨_, G', ao', cap', hn, h55, hG, hL, hf⟩ := hh
  have hGt : ∀ x, G x → elemAt w x ≠ some 39 ∧ elemAt w x ≠ some 60 := fun x hx => by rcases h.net.gty x hx with e | e | e | e <;> rw [e] <;> exact ⟨by decide, by decide⟩
  have hLt : ∀ x o, Lof ao S.msgs.length cap x o → elemAt w x = some 60 := fun x o ho => (Lof_type h.st.st.row ho).2
  have hws := h.bel.size
  refine ⟨_, G', ao', cap', hn, h55, h.wf.stepAt hst, ?_, h.bel.trans (hf.below hws ?_), ?_, h.hq, h.hb, ?_, h.room.kept hf ?_, fun hk => ?_⟩
  · rw [take_snoc xs k x hx]; exact h.reach.snoc hst
  · rintro x o hx (hg | rfl | hl)
    · have := h.hG x hg; omega
    · have := h.hq; omega
    · have := h.hL x o hl; omega
  · intro x hx
    rcases hG x hx with h1 | h1
    · exact h.hG x h1
    · omega
  · intro x o hx
    rcases hL x o hx with h1 | h1
    · exact h.hL x o h1
    · omega
  · rintro o (hg | e | hl)
    · exact (hGt _ hg).1 h.room.el
    · exact h.room.ne e
    · have := hLt _ _ hl; rw [h.room.el] at this; cases this
  · exact (hl hk).kept h.room.ne h.st.st.eq h.room.el hf hG hL hGt hLt

/-- The cells of what is kept. -/
def cells55 (S : NS) (ao : Option Addr) (cap : Nat) : List Value :=
  [.int .i64 (S.nodes : Int), .slice ao S.msgs.length cap, .bool (S.side 0), .bool (S.side 1), .bool (S.side 2), .bool (S.side 3), .bool (S.side 4), .bool (S.side 5), .bool (S.side 6), .bool (S.side 7),
   .int .i64 (S.ticks 0), .int .i64 (S.ticks 1), .int .i64 (S.ticks 2), .int .i64 (S.ticks 3), .int .i64 (S.ticks 4), .int .i64 (S.ticks 5), .int .i64 (S.ticks 6), .int .i64 (S.ticks 7),
   .int .u64 (S.draws 0), .int .u64 (S.draws 1), .int .u64 (S.draws 2), .int .u64 (S.draws 3), .int .u64 (S.draws 4), .int .u64 (S.draws 5), .int .u64 (S.draws 6), .int .u64 (S.draws 7)]

def box0 : Obj := .cells #[.int .i64 0, .slice none 0 0, .bool false, .bool false, .bool false, .bool false, .bool false, .bool false, .bool false, .bool false,
  .int .i64 0, .int .i64 0, .int .i64 0, .int .i64 0, .int .i64 0, .int .i64 0, .int .i64 0, .int .i64 0, .int .u64 0, .int .u64 0, .int .u64 0, .int .u64 0, .int .u64 0, .int .u64 0, .int .u64 0, .int .u64 0] 39

theorem isSome_get {α : Type} (l : List α) (o : Nat) (h : o < l.length) : l[o]?.isSome = true := by rw [List.getElem?_eq_getElem h]; rfl

/-- The great loop begins. -/
theorem Loop.start {w0 w1 w2 : World} {nd : Nat} {seed : Int} {xs : List Stp} {p many : Nat} {cp : Value} (hR : Below w0.heap.size w0 w1) (hn : NetG w1 p (NS.fresh nd seed) (fun b => w0.heap.size ≤ b ∧ b < w0.heap.size + 3)) (hF : Fill w1 w2 nd seed 8) (h1 : 1 ≤ nd) (h2 : nd ≤ 5) :
    Loop w0 (w2.alloc box0) nd seed xs p w1.heap.size w2.heap.size 0 many cp (NS.fresh nd seed) (fun b => w0.heap.size ≤ b ∧ b < w0.heap.size + 3) none 0 := by
  have hb2 := hF.bel
  have hs1 := hR.size
  have hlt := hF.done.st.lt
  have hb3 : Below w2.heap.size w2 (w2.alloc box0) := (Below.refl _ w2).alloc (Nat.le_refl _) _
  refine ⟨(hn.below hb2).below hb3, hF.done.below hb3, Wf.fresh h1 h2, rfl, (hR.trans (hb2.mono hs1)).trans (hb3.mono (by omega)), fun x hx => hx.1, hs1, by omega, ?_, ⟨elemAt_alloc_new _ _ _ _, by omega, ?_, ?_, by simp⟩, fun h => by omega⟩
  · rintro x o ⟨ob, h, _⟩; cases h
  · intro o ho
    unfold box0
    rw [World.cell?_alloc_at _ _ _ _ rfl]
    rw [List.getElem?_toArray]
    exact isSome_get _ _ ho
  · intro o
    exact World.frozen?_alloc_at _ _ _ _ rfl

theorem W55.range {w : World} {q : Nat} {S : NS} {ao : Option Addr} {cap : Nat} (h : W55 w q S ao cap) : w.rangeAt q 0 (cells55 S ao cap) := by
  intro j v hj
  have hl : j < 26 := (List.getElem?_eq_some_iff.1 hj).1
  rw [Nat.zero_add]
  have sd := h.sd
  have tk := h.tk
  have dr := h.dr
  rcases (show j = 0 ∨ j = 1 ∨ (2 ≤ j ∧ j < 10) ∨ (10 ≤ j ∧ j < 18) ∨ (18 ≤ j ∧ j < 26) by omega) with rfl | rfl | hr | hr | hr
  · rw [h.c0]; exact hj
  · rw [h.c1]; exact hj
  · obtain ⟨i, rfl⟩ : ∃ i, j = 2 + i := ⟨j - 2, by omega⟩
    rw [sd i (by omega), ← hj]
    rcases (show i = 0 ∨ i = 1 ∨ i = 2 ∨ i = 3 ∨ i = 4 ∨ i = 5 ∨ i = 6 ∨ i = 7 by omega) with rfl | rfl | rfl | rfl | rfl | rfl | rfl | rfl <;> rfl
  · obtain ⟨i, rfl⟩ : ∃ i, j = 10 + i := ⟨j - 10, by omega⟩
    rw [tk i (by omega), ← hj]
    rcases (show i = 0 ∨ i = 1 ∨ i = 2 ∨ i = 3 ∨ i = 4 ∨ i = 5 ∨ i = 6 ∨ i = 7 by omega) with rfl | rfl | rfl | rfl | rfl | rfl | rfl | rfl <;> rfl
  · obtain ⟨i, rfl⟩ : ∃ i, j = 18 + i := ⟨j - 18, by omega⟩
    rw [dr i (by omega), ← hj]
    rcases (show i = 0 ∨ i = 1 ∨ i = 2 ∨ i = 3 ∨ i = 4 ∨ i = 5 ∨ i = 6 ∨ i = 7 by omega) with rfl | rfl | rfl | rfl | rfl | rfl | rfl | rfl <;> rfl

/-- A copy is laid behind. -/
theorem Loop.copy {w0 w w' : World} {nd : Nat} {seed : Int} {xs : List Stp} {p q b : Nat} {k many : Nat} {cp : Value} {S : NS} {G G2 : Nat → Prop} {ao : Option Addr} {cap c : Nat} (h : Loop w0 w nd seed xs p q b k many cp S G ao cap) (hkm : k ≤ 40)
    (hn : NetG w' c S G2) (hG2 : ∀ x, G2 x → w.heap.size ≤ x) (hb : Below w.heap.size w w') :
    Loop w0 (w'.setCells b 0 (cells55 S ao cap)) nd seed xs p q b k many (.pointer (some ⟨c, 0, none⟩)) S G ao cap ∧ Left w0.heap.size (w'.setCells b 0 (cells55 S ao cap)) q b (.pointer (some ⟨c, 0, none⟩)) G ao S.msgs.length cap := by
  have h' := h.below hb
  have hs := hb.size
  have hrow := h'.st.st.row
  have hb39 := h'.room.el
  have hf : Frm (fun x _ => x = b) w' (w'.setCells b 0 (cells55 S ao cap)) := (Frm.refl _ _).setCells _ (fun _ _ _ => rfl)
  have hin : ∀ j, (hj : j < 26) → (w'.setCells b 0 (cells55 S ao cap)).cell? ⟨b, j, none⟩ = some ((cells55 S ao cap)[j]'hj) := by
    intro j hj
    have := World.cell?_setCells_in b (cells55 S ao cap) 0 w' (fun j hj => by rw [Nat.zero_add]; exact h'.room.some j hj) j hj
    rw [Nat.zero_add] at this; exact this
  have hGb : ∀ x, G x → x ≠ b := by
    rintro x hx rfl
    rcases h'.net.gty _ hx with e | e | e | e <;> (rw [hb39] at e; cases e)
  have hrt : ∀ x o, ao = some ⟨x, o, none⟩ → 0 < cap → x ≠ b := by
    rintro x o hx hc rfl
    have := ((hrow.2.2.2 _ hx).2.1 hc).2; dsimp only at this; rw [hb39] at this; cases this
  have h55 : W55 (w'.setCells b 0 (cells55 S ao cap)) b S ao cap := by
    refine ⟨hin 0 (by decide), hin 1 (by decide), hrow.kept hf (fun x o hx hc _ _ e => hrt x o hx hc e), ?_, ?_, ?_, fun o => (hf.frz _ _ h'.room.lt).trans (h'.room.fz o), (hf.elm _ h'.room.lt).trans hb39⟩
    all_goals
      intro i hi
      rcases (show i = 0 ∨ i = 1 ∨ i = 2 ∨ i = 3 ∨ i = 4 ∨ i = 5 ∨ i = 6 ∨ i = 7 by omega) with rfl | rfl | rfl | rfl | rfl | rfl | rfl | rfl <;> exact hin _ (by decide)
  have hleft : Left w0.heap.size (w'.setCells b 0 (cells55 S ao cap)) q b (.pointer (some ⟨c, 0, none⟩)) G ao S.msgs.length cap := by
    refine ⟨c, S, G2, ao, cap, k, rfl, hn.kept hf (fun x o hx e => ?_), h55, h.wf, hkm, ?_, fun x hx => by have := hG2 x hx; have := h.bel.size; omega, ?_⟩
    · have e : x = b := e
      have := hG2 x hx; have := h.room.lt; omega
    · intro x hx hg
      have := hG2 x hx; have := h.net.glt x hg; omega
    · rintro x o hx hc j hj ⟨ob, hob, h1, h2⟩
      rw [hx] at hob
      simp only [Option.some.injEq, Addr.mk.injEq] at hob
      omega
  refine ⟨⟨h'.net.kept hf (fun x o hx e => hGb x hx e), ⟨h'.st.st.kept hf (fun o e => h'.room.ne e.symm) (fun x o hx hc _ _ e => hrt x o hx hc e), ?_⟩, h.wf, h.reach, h'.bel.trans (hf.below h'.bel.size ?_), h.hG, h.hq, h.hb, h.hL, ?_, fun _ => hleft⟩, hleft⟩
  · intro y hy j g1 g2
    have hc : 0 < cap := by rcases Nat.eq_zero_or_pos cap with h0 | h0; subst h0; omega; exact h0
    obtain ⟨k1, k2, k3⟩ := h'.st.sp y hy j g1 g2
    have hty := (hrow.2.2.2 _ hy).2.1 hc
    have hne : y.block ≠ b := fun e => by rw [e, hb39] at hty; cases hty.2
    rw [hf.cel _ _ hty.1 hne, hf.frz _ _ hty.1]
    exact ⟨k1, k2, k3⟩
  · intro x o hx e
    have e : x = b := e
    have := h.hb; omega
  · refine ⟨(hf.elm _ h'.room.lt).trans hb39, h'.room.ne, fun o ho => ?_, fun o => (hf.frz _ _ h'.room.lt).trans (h'.room.fz o), Nat.lt_of_lt_of_le h'.room.lt hf.size⟩
    rw [hin o ho]; rfl

theorem cells55_one (S : NS) (ao : Option Addr) (cap : Nat) : (cells55 S ao cap).toArray.all (·.oneCell') = true := by simp [cells55, Value.oneCell']
theorem Try.size39 : (Try.prog.info? 39).map (·.size) = some 26 := by kernel_rfl

end Go.Proofs.Ytcjcccmlpilbbaa
