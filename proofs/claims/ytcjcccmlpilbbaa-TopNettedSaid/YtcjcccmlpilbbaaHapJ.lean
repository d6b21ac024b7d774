/- HapJ: lemmas on the way to the law (no condition of their own beyond what each states). -/
import Derived.Test.YtcjcccmlpilbbaaHapI
namespace Go.Proofs.Ytcjcccmlpilbbaa
open Go.RowKit Go.K55 Go.Maps
set_option linter.unusedVariables false
set_option linter.unusedSimpArgs false

def bit (nn : Int) (k : Nat) : Bool := bits BinOp.and IntKind.u8 (nn / 2 ^ k) 1 == 1
def sideOf (nn : Int) (k : Nat) : List Nat := ((List.range k).filter (bit nn)).map (· + 1)
theorem sideOf_succ (nn : Int) (k : Nat) : sideOf nn (k + 1) = sideOf nn k ++ (if bit nn k then [k + 1] else []) := by
  unfold sideOf
  rw [List.range_succ, List.filter_append, List.map_append]
  cases h : bit nn k <;> simp [List.filter_cons, h]
theorem sideOf_length (nn : Int) (k : Nat) : (sideOf nn k).length ≤ k := by
  unfold sideOf
  rw [List.length_map]
  exact Nat.le_trans (List.length_filter_le _ _) (by simp)

theorem mem_sideOf {nn : Int} {k x : Nat} : x ∈ sideOf nn k ↔ ∃ j, j < k ∧ bit nn j = true ∧ x = j + 1 := by
  simp only [sideOf, List.mem_map, List.mem_filter, List.mem_range]
  constructor
  · rintro ⟨j, ⟨h1, h2⟩, rfl⟩; exact ⟨j, h1, h2, rfl⟩
  · rintro ⟨j, h1, h2, rfl⟩; exact ⟨j, ⟨h1, h2⟩, rfl⟩
theorem side_bad {nn : Int} {n : Nat} (h : bit nn n = true) : ∃ x ∈ natInts (sideOf nn (n + 1)), x < 1 ∨ (n : Int) < x := by
  refine ⟨((n + 1 : Nat) : Int), ?_, by omega⟩
  simp only [natInts, List.mem_map]
  exact ⟨n + 1, mem_sideOf.2 ⟨n, by omega, h, rfl⟩, rfl⟩
theorem side_ok {nn : Int} {n : Nat} (h : bit nn n = false) : ¬ ∃ x ∈ natInts (sideOf nn (n + 1)), x < 1 ∨ (n : Int) < x := by
  rintro ⟨x, hx, h1⟩
  simp only [natInts, List.mem_map] at hx
  obtain ⟨y, hy, rfl⟩ := hx
  obtain ⟨j, hj, hb, rfl⟩ := mem_sideOf.1 hy
  have : j ≠ n := by rintro rfl; rw [h] at hb; cases hb
  omega
/-- The sides up to j as the bits say. -/
def NS.sided (S : NS) (nn : Int) (j : Nat) : NS := { S with side := fun i => if 1 ≤ i ∧ i ≤ j then bit nn (i - 1) else S.side i }
theorem sided_zero (S : NS) (nn : Int) : S.sided nn 0 = S := by
  unfold NS.sided
  have : (fun i => if 1 ≤ i ∧ i ≤ 0 then bit nn (i - 1) else S.side i) = S.side := by funext i; rw [if_neg (by omega)]
  rw [this]

theorem W55G.sidedS {w : World} {q j : Nat} {S : NS} {nn : Int} {ao : Option Addr} {cap : Nat} (h : W55G w q (S.sided nn j) ao cap) (hj : j < 7) : W55G (w.setCell ⟨q, 2 + (j + 1), none⟩ (.bool (bits BinOp.and IntKind.u8 (nn / 2 ^ j) 1 == 1))) q (S.sided nn (j + 1)) ao cap := by
  refine h.set rfl rfl (by omega) ?_ ?_ ?_
  · intro i hi
    by_cases e : i = j + 1
    · subst e
      rw [if_pos rfl]
      simp [NS.sided, bit]
    · rw [if_neg (by omega)]
      simp only [NS.sided]
      by_cases h1 : 1 ≤ i ∧ i ≤ j
      · rw [if_pos h1, if_pos (by omega)]
      · rw [if_neg h1, if_neg (by omega)]
  · intro i hi; rw [if_neg (by omega)]; rfl
  · intro i hi; rw [if_neg (by omega)]; rfl

theorem NetG.congr {w : World} {p : Nat} {S S' : NS} {G : Nat → Prop} (h : NetG w p S G) (h1 : S'.nodes = S.nodes) (h2 : S'.msgs = S.msgs) (ht : ∀ i, 1 ≤ i → i ≤ S.nodes → S'.ticks i = S.ticks i) (hd : ∀ i, 1 ≤ i → i ≤ S.nodes → S'.draws i = S.draws i) (hs : ∀ i, 1 ≤ i → i ≤ S.nodes → S'.side i = S.side i) : NetG w p S' G := by
  obtain ⟨lb, mb, mcap, M, h, hc⟩ := h
  have hl : ∀ a b, S'.link a b = S.link a b := fun a b => by unfold NS.link; rw [h2]
  refine ⟨lb, mb, mcap, M, { h with c1 := by rw [h1]; exact h.c1, c2 := by rw [h2]; exact h.c2, mf := by rw [h1]; exact h.mf, tk := ?_, dr := ?_, sd := ?_, dom := by rw [h1]; exact h.dom, row := by intro a b; rw [hl]; exact h.row a b }, by rw [h1]; exact hc⟩
  · intro i hi; rw [h1] at hi; rw [ht _ (by omega) (by omega)]; exact h.tk i hi
  · intro i hi; rw [h1] at hi; rw [hd _ (by omega) (by omega)]; exact h.dr i hi
  · intro i hi; rw [h1] at hi; rw [hs _ (by omega) (by omega)]; exact h.sd i hi

theorem part_sided (S : NS) (nn : Int) (i : Nat) (h1 : 1 ≤ i) (h2 : i ≤ S.nodes) (h5 : S.nodes ≤ 5) : (S.sided nn 7).side i = (S.part (natInts (sideOf nn (S.nodes + 1))) S.nodes).side i := by
  simp only [NS.sided, NS.part]
  rw [if_pos (by omega), if_pos (by omega)]
  cases hb : bit nn (i - 1) with
  | true =>
    symm; apply decide_eq_true
    simp only [natInts, List.mem_map]
    exact ⟨i, mem_sideOf.2 ⟨i - 1, by omega, hb, by omega⟩, rfl⟩
  | false =>
    symm; apply decide_eq_false
    simp only [natInts, List.mem_map]
    rintro ⟨y, hy, e⟩
    obtain ⟨j, hj, hbj, rfl⟩ := mem_sideOf.1 hy
    have : j = i - 1 := by omega
    subst this; rw [hb] at hbj; cases hbj

end Go.Proofs.Ytcjcccmlpilbbaa
