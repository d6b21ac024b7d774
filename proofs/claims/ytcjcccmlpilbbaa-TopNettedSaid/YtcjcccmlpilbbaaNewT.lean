/- NewT: lemmas on the way to the law (no condition of their own beyond what each states). -/
import Derived.Test.YtcjcccmlpilbbaaStand0
namespace Go.Proofs.Ytcjcccmlpilbbaa
open Go.RowKit Go.K55 Go.Maps
set_option linter.unusedVariables false
set_option linter.unusedSimpArgs false

theorem make43 (W : World) : (Instr.makeMap 43 none).run Try.prog W = .ok (.map (some W.heap.size)) (W.alloc (.map #[] 0)) := by kernel_rfl
theorem Try.info48 : (Try.prog.info? 48).map (fun i => (i.zero, i.size, i.bytes)) = some (some (.agg #[.int .i64 0, .int .u64 0, .bool false]), 3, 24) := by kernel_rfl

def bumpN (s : Int) : Nat → Int
  | 0 => s
  | k + 1 => bump (bumpN s k)

def machs (n : Nat) : Array Value := madeCells #[.int .i64 0, .int .u64 0, .bool false] (n * 3)

theorem machs_get (n i : Nat) (h : i < n) : (machs n)[i * 3]? = some (.int .i64 0) ∧ (machs n)[i * 3 + 1]? = some (.int .u64 0) ∧ (machs n)[i * 3 + 2]? = some (.bool false) := by
  have a0 : i * 3 < n * 3 := by omega
  have a1 : i * 3 + 1 < n * 3 := by omega
  have a2 : i * 3 + 2 < n * 3 := by omega
  have m0 : i * 3 % 3 = 0 := by omega
  have m1 : (i * 3 + 1) % 3 = 1 := by omega
  have m2 : (i * 3 + 2) % 3 = 2 := by omega
  unfold machs madeCells
  refine ⟨?_, ?_, ?_⟩
  · simp [a0, m0]
  · simp [a1, m1]
  · simp [a2, m2]

theorem make44 (n : Nat) (h : n ≤ 5) (W : World) : (Instr.makeSlice 44 (.int .i64 (n : Int)) (.int .i64 (n : Int))).run Try.prog W = .ok (.slice (some ⟨W.heap.size, 0, none⟩) n n) (W.alloc (.cells (machs n) 48)) := by
  obtain ⟨i, hi, hz, hs, hb⟩ := info_parts Try.info48
  have hr := run_make (P := Try.prog) W 44 48 i _ Try.underlying44 hi hz .i64 .i64 n n (by omega) (Int.le_refl _) (by rw [hb]; omega) (by omega)
  simp only [Int.toNat_natCast, hs, Value.cells] at hr
  exact hr

/-- A new net. -/
def NS.fresh (n : Nat) (seed : Int) : NS := { nodes := n, msgs := [], side := fun _ => false, ticks := fun _ => 0, draws := fun i => bumpN seed i }

def W0 (w : World) (n : Nat) : World := ((w.alloc (.map #[] 0)).alloc (.cells (machs n) 48)).alloc (.cells #[.map (some w.heap.size), .slice (some ⟨w.heap.size + 1, 0, none⟩) n n, .int .i64 0] 46)

theorem W0_size (w : World) (n : Nat) : (W0 w n).heap.size = w.heap.size + 3 := by simp [W0]
theorem W0_below (w : World) (n : Nat) : Below w.heap.size w (W0 w n) := ((((Below.refl _ w).alloc (Nat.le_refl _) _).alloc (by simp) _).alloc (by simp; omega) _)

structure NewR (w : World) (n : Nat) (seed : Int) (k : Nat) (wr : World) : Prop where
  frm : Frm (fun b _ => b = w.heap.size + 1) (W0 w n) wr
  tk : ∀ i, i < n → wr.cell? ⟨w.heap.size + 1, i * 3, none⟩ = some (.int .i64 0)
  dr : ∀ i, i < n → wr.cell? ⟨w.heap.size + 1, i * 3 + 1, none⟩ = some (.int .u64 (if i < k then bumpN seed (i + 1) else 0))
  sd : ∀ i, i < n → wr.cell? ⟨w.heap.size + 1, i * 3 + 2, none⟩ = some (.bool false)
  mf : ∀ o, wr.frozen? ⟨w.heap.size + 1, o, none⟩ = false

theorem newR0 (w : World) (n : Nat) (seed : Int) : NewR w n seed 0 (W0 w n) := by
  have key : ∀ o, (W0 w n).cell? ⟨w.heap.size + 1, o, none⟩ = (machs n)[o]? := by
    intro o
    unfold W0
    rw [World.cell?_alloc_past _ _ _ (by simp)]
    simp [World.cell?_alloc_at]
  refine ⟨Frm.refl _ _, ?_, ?_, ?_, ?_⟩
  · intro i hi; rw [key]; exact (machs_get n i hi).1
  · intro i hi; rw [key]; simpa using (machs_get n i hi).2.1
  · intro i hi; rw [key]; exact (machs_get n i hi).2.2
  · intro o
    unfold W0
    rw [World.frozen?_alloc_past _ _ _ (by simp)]
    exact World.frozen?_alloc_at _ _ _ _ (by simp)

theorem W0_box (w : World) (n : Nat) : (W0 w n).cell? ⟨w.heap.size + 2, 1, none⟩ = some (.slice (some ⟨w.heap.size + 1, 0, none⟩) n n) := by simp [W0, World.cell?_alloc_at]

theorem NewR.next {w wr : World} {n k : Nat} {seed : Int} (h : NewR w n seed k wr) (hk : k < n) : NewR w n seed (k + 1) (wr.setCell ⟨w.heap.size + 1, k * 3 + 1, none⟩ (.int .u64 (bumpN seed (k + 1)))) := by
  have k1 : ∀ y, y ≠ k * 3 + 1 → (wr.setCell ⟨w.heap.size + 1, k * 3 + 1, none⟩ (.int .u64 (bumpN seed (k + 1)))).cell? ⟨w.heap.size + 1, y, none⟩ = wr.cell? ⟨w.heap.size + 1, y, none⟩ := fun y hne => World.cell?_setCell_other _ _ _ _ (fun e => hne (by cases e; rfl))
  refine ⟨h.frm.setCell _ (fun _ => rfl), ?_, ?_, ?_, ?_⟩
  · intro i hi; rw [k1 _ (by omega)]; exact h.tk i hi
  · intro i hi
    by_cases e : i = k
    · subst e
      rw [World.cell?_setCell_same _ _ _ (h.dr i hi), if_pos (by omega)]
    · rw [k1 _ (by omega), h.dr i hi]
      by_cases h2 : i < k
      · rw [if_pos h2, if_pos (by omega)]
      · rw [if_neg h2, if_neg (by omega)]
  · intro i hi; rw [k1 _ (by omega)]; exact h.sd i hi
  · intro o; rw [World.frozen?_setCell]; exact h.mf o

set_option maxRecDepth 100000 in
set_option maxHeartbeats 1000000 in
theorem new_walk (n : Nat) (seed : Int) (w : World) (h1 : 1 ≤ n) (h2 : n ≤ 5) : Calls Try.prog 5 #[.int .i64 (n : Int), .int .u64 seed] w (fun e w' => e = .returned (.tuple #[.pointer (some ⟨w.heap.size + 2, 0, none⟩), .int .i64 0]) ∧ NewR w n seed n w') := by
  have mk := make43
  have m44 := make44 n h2
  have hn5 : (n : Int) ≤ 64 := by omega
  have hn1 : (1 : Int) ≤ (n : Int) := by omega
  go_enter Try.func5, Try.ntmps5
  go_wp2_with fail
  go_loopw [1, 24] (fun s i wr => ∃ k : Nat, k ≤ n ∧ i = .int .i64 (k : Int) ∧ s = .int .u64 (bumpN seed k) ∧ NewR w n seed k wr) (fun _ i _ => n - (intOf i).toNat)
  case atStart => exact ⟨0, Nat.zero_le _, rfl, rfl, newR0 w n seed⟩
  case round =>
    obtain ⟨k, hk, rfl, rfl, hr⟩ := hrel
    have bx := (hr.frm.cel (w.heap.size + 2) 1 (by rw [W0_size]; omega) (by omega)).trans (W0_box w n)
    by_cases hlt : k < n
    · have hk1 : (k : Int) < (n : Int) := by omega
      have hk0 : (0 : Int) ≤ (k : Int) := by omega
      have hd := hr.dr k hlt
      have hf := hr.mf (k * 3 + 1)
      rw [if_neg (by omega)] at hd
      have Hr := Lib.hid hr; clear hr
      go_wp2_with fail
      go_roundw
      case rel => exact ⟨k + 1, by omega, by go_num, rfl, Hr.out.next hlt⟩
      case measure => simp [intOf]; omega
    · obtain rfl : k = n := by omega
      have Hr := Lib.hid hr; clear hr
      go_wp2_with fail
      go_ret2
      exact ⟨rfl, Hr.out⟩

theorem blk_W0 (w : World) (n : Nat) : (W0 w n).heap[w.heap.size]? = some (.map #[] 0) ∧ elemAt (W0 w n) (w.heap.size + 1) = some 48 ∧ elemAt (W0 w n) (w.heap.size + 2) = some 46 := by
  refine ⟨?_, ?_, ?_⟩
  · unfold W0
    rw [Below.heap_alloc _ _ _ (by simp; omega), Below.heap_alloc _ _ _ (by simp)]
    exact (MapKept.heap_alloc w _).1
  · unfold elemAt W0
    rw [Below.heap_alloc _ _ _ (by simp)]
    have := (MapKept.heap_alloc (w.alloc (.map #[] 0)) (.cells (machs n) 48)).1
    rw [show (w.alloc (.map #[] 0)).heap.size = w.heap.size + 1 by simp] at this
    rw [this]
  · have := elemAt_alloc_new ((w.alloc (.map #[] 0)).alloc (.cells (machs n) 48)) #[.map (some w.heap.size), .slice (some ⟨w.heap.size + 1, 0, none⟩) n n, .int .i64 0] 46 (0, 0)
    simpa [W0] using this

/-- A new net is a net without messages. -/
theorem NewR.net {w wr : World} {n : Nat} {seed : Int} (h : NewR w n seed n wr) (h1 : 1 ≤ n) (h2 : n ≤ 5) : NetG wr (w.heap.size + 2) (NS.fresh n seed) (fun b => w.heap.size ≤ b ∧ b < w.heap.size + 3) := by
  obtain ⟨b0, b1, b2⟩ := blk_W0 w n
  have hs := W0_size w n
  have key : ∀ o, wr.cell? ⟨w.heap.size + 2, o, none⟩ = (W0 w n).cell? ⟨w.heap.size + 2, o, none⟩ := fun o => h.frm.cel _ _ (by omega) (by omega)
  refine ⟨w.heap.size, w.heap.size + 1, n, fun _ => none, { c0 := ?_, c1 := ?_, c2 := ?_, f2 := ?_, ep := ?_, em := ?_, tk := h.tk, dr := ?_, sd := h.sd, mf := fun o _ => h.mf o, map := ?_, dom := ?_, row := ?_, apart := ?_, gp := ?_, gm := ?_, gl := ?_, glt := ?_, gty := ?_ }, Nat.le_refl _⟩
  · rw [key]; simp [W0, World.cell?_alloc_at]
  · rw [key]; exact W0_box w n
  · rw [key]; simp [W0, World.cell?_alloc_at, NS.fresh]
  · rw [h.frm.frz _ _ (by omega)]
    unfold W0
    exact World.frozen?_alloc_at _ _ _ _ (by simp)
  · rw [h.frm.elm _ (by omega)]; exact b2
  · rw [h.frm.elm _ (by omega)]; exact b1
  · intro i hi
    have := h.dr i hi
    rw [if_pos (show i < n from hi)] at this
    exact this
  · refine MapAt.of_heap (w := w.alloc (.map #[] 0)) (MapAt.made w) ?_
    rw [h.frm.blk _ (by omega) (fun _ => by omega), b0]
    exact ((MapKept.heap_alloc w _).1).symm
  · intro k v hk; cases hk
  · intro a b
    refine ⟨none, 0, rfl, ?_, Spare.nil _ _ _ _ _, fun _ h => by cases h⟩
    exact Row.nil _ _ _
  · intro k1 k2 a1 a2 n1 n2 c1 c2 _ hk; cases hk
  · exact ⟨by omega, by omega⟩
  · exact ⟨by omega, by omega⟩
  · exact ⟨by omega, by omega⟩
  · rintro b ⟨x1, x2⟩; have := h.frm.size; omega
  · rintro b ⟨x1, x2⟩
    rw [h.frm.elm _ (by omega)]
    rcases (show b = w.heap.size ∨ b = w.heap.size + 1 ∨ b = w.heap.size + 2 by omega) with rfl | rfl | rfl
    · right; right; right; unfold elemAt; rw [b0]
    · right; left; exact b1
    · left; exact b2

end Go.Proofs.Ytcjcccmlpilbbaa
