/- Stand0: lemmas on the way to the law (no condition of their own beyond what each states). -/
import Derived.Test.YtcjcccmlpilbbaaWaitW
import Derived.Test.YtcjcccmlpilbbaaW55
namespace Go.Proofs.Ytcjcccmlpilbbaa
open Go.RowKit Go.K55 Go.Maps
set_option linter.unusedVariables false
set_option linter.unusedSimpArgs false

/-- The messages in the order in which they are looked at. -/
def NS.rowS (S : NS) (a : Nat) (t : Nat) : List Msg := (List.range t).flatMap fun (b : Nat) => S.cell (a : Int) (b : Int)
def NS.allS (S : NS) (f : Nat) : List Msg := (List.range f).flatMap fun (a : Nat) => S.rowS a (S.nodes + 2)

theorem rowS_succ (S : NS) (a : Nat) (t : Nat) : S.rowS a (t + 1) = S.rowS a t ++ S.cell (a : Int) (t : Int) := by simp [NS.rowS, List.range_succ]
theorem allS_succ (S : NS) (f : Nat) : S.allS (f + 1) = S.allS f ++ S.rowS f (S.nodes + 2) := by simp [NS.allS, List.range_succ]

theorem cell_none {S : NS} {N : Nat} (hS : Wf S N) {a b : Int} (h : Unknown S a b) : S.cell a b = [] := by
  simp only [NS.cell, List.filter_eq_nil_iff]
  intro m hm hh
  have := hS.known m hm
  simp only [hit, Bool.and_eq_true, beq_iff_eq] at hh
  simp only [Unknown] at h
  omega

theorem rowS_eq {S : NS} {N : Nat} (hS : Wf S N) (a : Nat) : ∀ t, t ≤ S.nodes → S.rowS (a + 1) (t + 1) = S.rowW ((a : Int) + 1) t
  | 0, _ => by
    rw [rowS_succ]
    rw [cell_none hS (by simp only [Unknown]; omega)]
    simp [NS.rowS, NS.rowW]
  | t + 1, h => by
    rw [rowS_succ, rowW_succ, rowS_eq hS a t (by omega)]
    congr 1
theorem rowS_none {S : NS} {N : Nat} (hS : Wf S N) (a : Nat) (h : a < 1 ∨ S.nodes < a) : ∀ t, S.rowS a t = []
  | 0 => rfl
  | t + 1 => by rw [rowS_succ, rowS_none hS a h t, cell_none hS (by simp only [Unknown]; omega)]; rfl

theorem allS_eq0 {S : NS} {N : Nat} (hS : Wf S N) : ∀ f, f ≤ S.nodes → S.allS (f + 1) = S.allW f
  | 0, _ => by
    rw [allS_succ, rowS_none hS 0 (by omega)]
    simp [NS.allS, NS.allW]
  | f + 1, h => by
    rw [allS_succ, allW_succ, allS_eq0 hS f (by omega)]
    congr 1
    rw [show S.nodes + 2 = (S.nodes + 1) + 1 by omega, rowS_succ, rowS_eq hS f S.nodes (Nat.le_refl _), cell_none hS (by simp only [Unknown]; omega), List.append_nil]
theorem allS_eq {S : NS} {N : Nat} (hS : Wf S N) : S.allS (S.nodes + 2) = S.allW S.nodes := by
  rw [show S.nodes + 2 = (S.nodes + 1) + 1 by omega, allS_succ, allS_eq0 hS _ (Nat.le_refl _), rowS_none hS _ (by omega), List.append_nil]

theorem flat_split {α : Type} (g : Nat → List α) : ∀ m f, f < m → ∃ tl, (List.range m).flatMap g = (List.range f).flatMap g ++ g f ++ tl
  | m + 1, f, h => by
    rw [List.range_succ, List.flatMap_append]
    by_cases e : f = m
    · subst e; exact ⟨[], by simp⟩
    · obtain ⟨tl, ht⟩ := flat_split g m f (by omega)
      exact ⟨tl ++ [m].flatMap g, by rw [ht]; simp only [List.append_assoc]⟩

/-- What lies at its place among all. -/
theorem all_get {S : NS} {N : Nat} (hS : Wf S N) {f t j : Nat} {m : Msg} (hf : f < S.nodes + 2) (ht : t < S.nodes + 2) (hj : (S.cell (f : Int) (t : Int))[j]? = some m) :
    (S.allW S.nodes)[(S.allS f ++ S.rowS f t).length + j]? = some m := by
  rw [← allS_eq hS]
  obtain ⟨t1, h1⟩ := flat_split (fun (a : Nat) => S.rowS a (S.nodes + 2)) _ _ hf
  obtain ⟨t2, h2⟩ := flat_split (fun (b : Nat) => S.cell (f : Int) (b : Int)) _ _ ht
  have e : S.allS (S.nodes + 2) = (S.allS f ++ S.rowS f t) ++ (S.cell (f : Int) (t : Int) ++ (t2 ++ t1)) := by
    have h1' : S.allS (S.nodes + 2) = S.allS f ++ S.rowS f (S.nodes + 2) ++ t1 := h1
    have h2' : S.rowS f (S.nodes + 2) = S.rowS f t ++ S.cell (f : Int) (t : Int) ++ t2 := h2
    rw [h1', h2']; simp only [List.append_assoc]
  rw [e, List.getElem?_append_right (by omega), show (S.allS f ++ S.rowS f t).length + j - (S.allS f ++ S.rowS f t).length = j by omega]
  have hl := (List.getElem?_eq_some_iff.1 hj).1
  rw [List.getElem?_append_left hl]
  exact hj

theorem cell_knows {S : NS} {N : Nat} (hS : Wf S N) {a b : Int} {j : Nat} {m : Msg} (hj : (S.cell a b)[j]? = some m) : Knows S a b := by
  have := List.mem_of_getElem? hj
  simp only [NS.cell, List.mem_filter] at this
  have hk := hS.known m this.1
  have hh := this.2
  simp only [hit, Bool.and_eq_true, beq_iff_eq] at hh
  simp only [Knows]
  omega

theorem place_cell {S : NS} {a b : Int} {j k : Nat} (h : (places a b S.msgs 0)[j]? = some k) : ∃ m, S.msgs[k]? = some m ∧ k < S.msgs.length ∧ (S.cell a b)[j]? = some m := by
  obtain ⟨_, m, hm, _, hf, _⟩ := places_get a b S.msgs 0 j k h
  simp only [Nat.sub_zero] at hm
  exact ⟨m, hm, (List.getElem?_eq_some_iff.1 hm).1, hf⟩

theorem prefix_le {S : NS} {N : Nat} (hS : Wf S N) {f t : Nat} (hf : f < S.nodes + 2) (ht : t ≤ S.nodes + 2) : (S.allS f ++ S.rowS f t).length ≤ (S.allW S.nodes).length := by
  rw [← allS_eq hS]
  obtain ⟨t1, h1⟩ := flat_split (fun (a : Nat) => S.rowS a (S.nodes + 2)) _ _ hf
  have h1' : S.allS (S.nodes + 2) = S.allS f ++ S.rowS f (S.nodes + 2) ++ t1 := h1
  have h2 : (S.rowS f t).length ≤ (S.rowS f (S.nodes + 2)).length := by
    by_cases e : t = S.nodes + 2
    · rw [e]; exact Nat.le_refl _
    · obtain ⟨t2, h2⟩ := flat_split (fun (b : Nat) => S.cell (f : Int) (b : Int)) (S.nodes + 2) t (by omega)
      have h2' : S.rowS f (S.nodes + 2) = S.rowS f t ++ S.cell (f : Int) (t : Int) ++ t2 := h2
      rw [h2']; simp only [List.length_append]; omega
  rw [h1']; simp only [List.length_append]; omega

end Go.Proofs.Ytcjcccmlpilbbaa
