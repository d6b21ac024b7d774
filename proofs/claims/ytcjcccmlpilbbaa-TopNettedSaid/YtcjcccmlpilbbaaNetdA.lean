/- NetdA: lemmas on the way to the law (no condition of their own beyond what each states). -/
import Derived.Test.YtcjcccmlpilbbaaCopyT
import Derived.Test.YtcjcccmlpilbbaaBehind
import Derived.Test.YtcjcccmlpilbbaaHapAll
import Derived.Test.YtcjcccmlpilbbaaStandW
namespace Go.Proofs.Ytcjcccmlpilbbaa
open Go.RowKit Go.K55 Go.Maps
set_option linter.unusedVariables false
set_option linter.unusedSimpArgs false

theorem bumpN_is (seed : Int) (h0 : 0 ≤ seed) (h1 : seed < 18446744073709551616) (k : Nat) (hk : k < 8) : IntKind.u64.wrap (seed + IntKind.u64.wrap (11400714819323198485 * (k : Int))) = bumpN seed k := by
  rcases (show k = 0 ∨ k = 1 ∨ k = 2 ∨ k = 3 ∨ k = 4 ∨ k = 5 ∨ k = 6 ∨ k = 7 by omega) with rfl | rfl | rfl | rfl | rfl | rfl | rfl | rfl <;> simp only [bumpN, bump, IntKind.wrap, IntKind.bits, IntKind.signed] <;> simp <;> omega

def box55 (nd : Nat) : Obj := .cells #[.int .i64 (nd : Int), .slice none 0 0, .bool false, .bool false, .bool false, .bool false, .bool false, .bool false, .bool false, .bool false,
  .int .i64 0, .int .i64 0, .int .i64 0, .int .i64 0, .int .i64 0, .int .i64 0, .int .i64 0, .int .i64 0, .int .u64 0, .int .u64 0, .int .u64 0, .int .u64 0, .int .u64 0, .int .u64 0, .int .u64 0, .int .u64 0] 39

/-- The kept state while its draws are laid. -/
structure Fill (w1 wr : World) (nd : Nat) (seed : Int) (k : Nat) : Prop where
  frm : Frm (fun b _ => b = w1.heap.size) (w1.alloc (box55 nd)) wr
  c0 : wr.cell? ⟨w1.heap.size, 0, none⟩ = some (.int .i64 (nd : Int))
  c1 : wr.cell? ⟨w1.heap.size, 1, none⟩ = some (.slice none 0 0)
  sd : ∀ i, i < 8 → wr.cell? ⟨w1.heap.size, 2 + i, none⟩ = some (.bool false)
  tk : ∀ i, i < 8 → wr.cell? ⟨w1.heap.size, 10 + i, none⟩ = some (.int .i64 0)
  dr : ∀ i, i < 8 → wr.cell? ⟨w1.heap.size, 18 + i, none⟩ = some (.int .u64 (if i < k then bumpN seed i else 0))

theorem Fill.start (w1 : World) (nd : Nat) (seed : Int) : Fill w1 (w1.alloc (box55 nd)) nd seed 0 := by
  refine ⟨Frm.refl _ _, ?_, ?_, ?_, ?_, ?_⟩
  · simp [box55, World.cell?_alloc_at]
  · simp [box55, World.cell?_alloc_at]
  all_goals
    intro i hi
    rcases (show i = 0 ∨ i = 1 ∨ i = 2 ∨ i = 3 ∨ i = 4 ∨ i = 5 ∨ i = 6 ∨ i = 7 by omega) with rfl | rfl | rfl | rfl | rfl | rfl | rfl | rfl <;> simp [box55, World.cell?_alloc_at]

theorem Fill.next {w1 wr : World} {nd : Nat} {seed : Int} {k : Nat} (h : Fill w1 wr nd seed k) (hk : k < 8) : Fill w1 (wr.setCell ⟨w1.heap.size, 18 + k, none⟩ (.int .u64 (bumpN seed k))) nd seed (k + 1) := by
  have k1 : ∀ y, y ≠ 18 + k → (wr.setCell ⟨w1.heap.size, 18 + k, none⟩ (.int .u64 (bumpN seed k))).cell? ⟨w1.heap.size, y, none⟩ = wr.cell? ⟨w1.heap.size, y, none⟩ := fun y hne => World.cell?_setCell_other _ _ _ _ (fun e => hne (by cases e; rfl))
  refine ⟨h.frm.setCell _ (fun _ => rfl), ?_, ?_, ?_, ?_, ?_⟩
  · rw [k1 _ (by omega)]; exact h.c0
  · rw [k1 _ (by omega)]; exact h.c1
  · intro i hi; rw [k1 _ (by omega)]; exact h.sd i hi
  · intro i hi; rw [k1 _ (by omega)]; exact h.tk i hi
  · intro i hi
    by_cases e : i = k
    · subst e
      rw [World.cell?_setCell_same _ _ _ (h.dr i hi), if_pos (by omega)]
    · rw [k1 _ (by omega), h.dr i hi]
      by_cases h2 : i < k
      · rw [if_pos h2, if_pos (by omega)]
      · rw [if_neg h2, if_neg (by omega)]

theorem Fill.frozen {w1 wr : World} {nd : Nat} {seed : Int} {k : Nat} (h : Fill w1 wr nd seed k) (o : Nat) : wr.frozen? ⟨w1.heap.size, o, none⟩ = false := by
  rw [h.frm.frz _ _ (by simp)]
  exact World.frozen?_alloc_at _ _ _ _ rfl

theorem Fill.done {w1 wr : World} {nd : Nat} {seed : Int} (h : Fill w1 wr nd seed 8) : W55G wr w1.heap.size (NS.fresh nd seed) none 0 := by
  refine ⟨⟨h.c0, h.c1, ?_, h.sd, h.tk, ?_, h.frozen, ?_⟩, Spare.nil _ _ _ _ _⟩
  · exact Row.nil _ _ _
  · intro i hi
    have := h.dr i hi
    rw [if_pos hi] at this
    exact this
  · rw [h.frm.elm _ (by simp)]
    exact elemAt_alloc_new _ _ _ _

theorem Fill.bel {w1 wr : World} {nd : Nat} {seed : Int} {k : Nat} (h : Fill w1 wr nd seed k) : Below w1.heap.size w1 wr :=
  ((Below.refl _ w1).alloc (Nat.le_refl _) _).trans (h.frm.below (by simp) (fun b o hb e => by have e : b = w1.heap.size := e; omega))

theorem NewR.bel {w wr : World} {n : Nat} {seed : Int} {k : Nat} (h : NewR w n seed k wr) : Below w.heap.size w wr :=
  (W0_below w n).trans (h.frm.below (by rw [W0_size]; omega) (fun b o hb e => by have e : b = w.heap.size + 1 := e; omega))

end Go.Proofs.Ytcjcccmlpilbbaa
