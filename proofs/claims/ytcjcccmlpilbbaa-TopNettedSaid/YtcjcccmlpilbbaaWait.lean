/- Wait: lemmas on the way to the law (no condition of their own beyond what each states). -/
import Derived.Test.YtcjcccmlpilbbaaNet7
import Derived.Test.YtcjcccmlpilbbaaW55
namespace Go.Proofs.Ytcjcccmlpilbbaa
open Go.RowKit Go.K55 Go.Maps
set_option linter.unusedVariables false
set_option linter.unusedSimpArgs false

/-- A list of messages, as a slice that lies in new memory. -/
def PktsAt (B : Nat) (w : World) (v : Value) (l : List Msg) : Prop := ∃ ao cap, v = .slice ao l.length cap ∧ Row w 60 3 ao l.length cap (pkts l) ∧ Spare (fun b _ => B ≤ b) w 3 ao l.length cap ∧ (∀ y, ao = some y → 0 < cap → B ≤ y.block)

theorem PktsAt.nil (B : Nat) (w : World) : PktsAt B w (.slice none 0 0) [] := ⟨none, 0, rfl, Row.nil _ _ _, Spare.nil _ _ _ _ _, fun _ h => by cases h⟩

theorem PktsAt.below {B : Nat} {w w' : World} {v : Value} {l : List Msg} (h : PktsAt B w v l) (hb : Below w.heap.size w w') : PktsAt B w' v l := by
  obtain ⟨ao, cap, rfl, h1, h2, h3⟩ := h
  exact ⟨ao, cap, rfl, h1.kept (F := fun _ _ => False) (Frm.of_below hb) (fun _ _ _ _ _ _ h => h), h2.kept (H := fun _ _ => False) (Frm.of_below hb) (fun _ _ _ h => h), h3⟩

/-- One message more: behind an append. -/
theorem PktsAt.more {B : Nat} {w w' : World} {ao ao' : Option Addr} {cap' : Nat} {l : List Msg} {cap : Nat} {m : Msg} (hlo : ∀ y, ao = some y → 0 < cap → B ≤ y.block) (hB : B ≤ w.heap.size)
    (row' : Row w' 60 3 ao' (l.length + 1) cap' (pkts l ++ [.int .i64 m.fr, .int .i64 m.to, .string m.s]))
    (loc : (ao' = ao ∧ cap' = cap ∧ l.length + 1 ≤ cap ∧ Spare (fun b _ => B ≤ b) w' 3 ao' (l.length + 1) cap') ∨ (ao' = some ⟨w.heap.size, 0, none⟩ ∧ w.heap.size < w'.heap.size ∧ ∀ j, j < cap' * 3 → (w'.cell? ⟨w.heap.size, j, none⟩).isSome = true ∧ w'.frozen? ⟨w.heap.size, j, none⟩ = false)) :
    PktsAt B w' (.slice ao' (l.length + 1) cap') (l ++ [m]) := by
  have e1 : (l ++ [m]).length = l.length + 1 := by simp
  have e2 : pkts (l ++ [m]) = pkts l ++ [.int .i64 m.fr, .int .i64 m.to, .string m.s] := by rw [pkts_append]; rfl
  refine ⟨ao', cap', by rw [e1], by rw [e1, e2]; exact row', ?_, ?_⟩
  · rw [e1]
    rcases loc with ⟨_, _, _, sp⟩ | ⟨rfl, _, hnew⟩
    · exact sp
    · intro y hy j g1 g2
      obtain rfl := Option.some.inj hy
      obtain ⟨k1, k2⟩ := hnew j g2
      simp only [Nat.zero_add]
      exact ⟨k1, k2, hB⟩
  · intro y hy hc
    rcases loc with ⟨rfl, rfl, h3, _⟩ | ⟨rfl, _⟩
    · exact hlo y hy (by omega)
    · obtain rfl := Option.some.inj hy
      exact hB

/-- The messages of one link; of one machine's links; of all. -/
def NS.cell (S : NS) (a b : Int) : List Msg := S.msgs.filter (hit a b)
def NS.rowW (S : NS) (a : Int) (t : Nat) : List Msg := (List.range t).flatMap fun (b : Nat) => S.cell a ((b : Int) + 1)
def NS.allW (S : NS) (f : Nat) : List Msg := (List.range f).flatMap fun (a : Nat) => S.rowW ((a : Int) + 1) S.nodes

theorem rowW_succ (S : NS) (a : Int) (t : Nat) : S.rowW a (t + 1) = S.rowW a t ++ S.cell a ((t : Int) + 1) := by
  simp [NS.rowW, List.range_succ]
theorem allW_succ (S : NS) (f : Nat) : S.allW (f + 1) = S.allW f ++ S.rowW ((f : Int) + 1) S.nodes := by
  simp [NS.allW, List.range_succ]
theorem cell_length (S : NS) (a b : Int) : (S.cell a b).length ≤ S.msgs.length := List.length_filter_le _ _
theorem rowW_length (S : NS) (a : Int) : ∀ t, (S.rowW a t).length ≤ t * S.msgs.length
  | 0 => by simp [NS.rowW]
  | t + 1 => by
    rw [rowW_succ, List.length_append, Nat.succ_mul]
    have := rowW_length S a t
    have := cell_length S a ((t : Int) + 1)
    omega
theorem allW_length (S : NS) : ∀ f, (S.allW f).length ≤ f * (S.nodes * S.msgs.length)
  | 0 => by simp [NS.allW]
  | f + 1 => by
    rw [allW_succ, List.length_append, Nat.succ_mul]
    have := allW_length S f
    have := rowW_length S ((f : Int) + 1) S.nodes
    omega
theorem link_cell_eq (S : NS) (a b : Int) : S.link a b = (S.cell a b).map (·.s) := link_eq S a b
theorem cell_msg {S : NS} {a b : Int} {j : Nat} {m : Msg} (h : (S.cell a b)[j]? = some m) : m.fr = a ∧ m.to = b := by
  have := List.mem_of_getElem? h
  simp only [NS.cell, List.mem_filter] at this
  simpa [hit] using this.2

end Go.Proofs.Ytcjcccmlpilbbaa
