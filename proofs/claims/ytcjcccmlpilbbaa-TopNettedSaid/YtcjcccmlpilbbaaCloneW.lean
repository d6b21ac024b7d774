/- CloneW: lemmas on the way to the law (no condition of their own beyond what each states). -/
import Derived.Test.YtcjcccmlpilbbaaNewT
namespace Go.Proofs.Ytcjcccmlpilbbaa
open Go.RowKit Go.K55 Go.Maps
set_option linter.unusedVariables false
set_option linter.unusedSimpArgs false

/-- A copy of a row, in new memory. -/
def ClonePost (T : TypeId) (size : Nat) (w : World) (n : Nat) (xs : List Value) (e : Ending) (w' : World) : Prop :=
  ∃ ao' cap', e = .returned (.slice ao' n cap') ∧ Row w' T size ao' n cap' xs ∧ Spare (fun _ _ => True) w' size ao' n cap' ∧ (∀ y, ao' = some y → 0 < cap' → w.heap.size ≤ y.block) ∧ Below w.heap.size w w' ∧ (0 < n → ∃ b, ao' = some ⟨b, 0, none⟩ ∧ w.heap.size ≤ b ∧ ∀ j, j < n * size → w'.frozen? ⟨b, j, none⟩ = false)

set_option maxRecDepth 100000 in
set_option maxHeartbeats 1000000 in
theorem clone52 (ao : Option Addr) (n cap : Nat) (xs : List Value) (w : World) (hr : Row w 9 1 ao n cap xs) (hone : ∀ u ∈ xs, u.oneCell' = true) (hn : n ≤ 900) : Calls Try.prog 10 #[.slice ao n cap] w (ClonePost 9 1 w n xs) := by
  have hnil := fun W A n c => Lib.run_eql_slice_nil (P := Try.prog) W 52 9 A n c 0 0 Try.underlying52
  cases ao with
  | none =>
    obtain rfl : cap = 0 := hr.2.2.1 rfl
    obtain rfl : n = 0 := by have := hr.1; omega
    have Hr := Lib.hid hr; clear hr
    go_enter Try.func10, Try.ntmps10
    go_wp2_with fail
    go_ret
    exact ⟨none, 0, rfl, Hr.out, Spare.nil _ _ _ _ _, fun _ h => (by cases h), Below.refl _ _, fun h => absurd h (by omega)⟩
  | some y =>
    obtain ⟨i0, hi0, hz0, hz1, hz2⟩ := info_parts Try.info9
    have fA : Frm (fun _ _ => False) w (w.alloc (.cells #[] 9)) := Frm.alloc1 _ _
    have row0 : Row (w.alloc (.cells #[] 9)) 9 1 (some ⟨w.heap.size, 0, none⟩) 0 0 [] := ⟨Nat.le_refl _, rfl, (fun h => by cases h), fun y hy => by obtain rfl := Option.some.inj hy; exact ⟨rfl, (fun h => by omega), fun j u hj => by simp at hj⟩⟩
    have rA := hr.kept fA (fun _ _ _ _ _ _ h => h)
    have hxl : xs.length = n * 1 := hr.2.1
    have news1 : ∀ z, some y = some z → ∀ j u, xs[j]? = some u → (w.alloc (.cells #[] 9)).cell? (z.add j) = some u := by
      intro z hz j u hj
      obtain rfl := Option.some.inj hz
      have := (rA.2.2.2 _ rfl)
      obtain ⟨b, o, s⟩ := y
      have hs := this.1
      dsimp only at hs; subst hs
      rw [Addr.add_lit]
      exact this.2.2 j u hj
    have hmax : 0 + n ≤ maxLen := by simp only [maxLen]; omega
    have hbyt : (0 + n) * 16 ≤ 140737488355328 := by omega
    have Hr := Lib.hid hr; clear hr rA
    have Hxl := Lib.hid hxl; clear hxl
    have Nw := Lib.hid news1; clear news1
    go_enter Try.func10, Try.ntmps10
    go_wp2_with (at_builtin; refine wpList_app _ rfl _ _ 52 rfl (fun _ _ => False) 9 i0 _ 1 16 Try.underlying52 hi0 hz0 hz1 hz2 rfl (by decide) (bo := some y) (m := n) (c := cap) (news := xs) rfl rfl row0 (Spare.full _ _ _ _ _) Hxl.out (fun h => by cases h) Nw.out hone hmax hbyt ?_; intro ao' cap' w2 row2 frm2 loc2)
    go_ret
    simp only [Nat.zero_add, List.nil_append] at row2 loc2 ⊢
    have sp := spare_of_loc (B := w.heap.size) (by simp) (fun _ _ h => h.elim) loc2
    refine ⟨ao', cap', rfl, row2, sp.mono (fun _ _ _ => trivial), ?_, ?_, ?_⟩
    · intro z hz hc
      rcases loc2 with ⟨e1, e2, _⟩ | ⟨e1, _⟩
      · rw [e1] at hz; obtain rfl := Option.some.inj hz; exact Nat.le_refl _
      · rw [e1] at hz; obtain rfl := Option.some.inj hz; simp
    · exact ((fA.trans frm2 (fun _ _ _ h => h)).below (Nat.le_refl _) (fun _ _ _ h => h.elim))
    · intro hn0
      rcases loc2 with ⟨e1, e2, e3, _⟩ | ⟨e1, e2, e3⟩
      · omega
      · refine ⟨_, e1, by simp, fun j hj => (e3 j ?_).2⟩
        have := row2.1
        omega

set_option maxRecDepth 100000 in
set_option maxHeartbeats 1000000 in
theorem clone44 (ao : Option Addr) (n cap : Nat) (xs : List Value) (w : World) (hr : Row w 48 3 ao n cap xs) (hone : ∀ u ∈ xs, u.oneCell' = true) (hn : n ≤ 900) : Calls Try.prog 9 #[.slice ao n cap] w (ClonePost 48 3 w n xs) := by
  have hnil := fun W A n c => Lib.run_eql_slice_nil (P := Try.prog) W 44 48 A n c 0 0 Try.underlying44
  cases ao with
  | none =>
    obtain rfl : cap = 0 := hr.2.2.1 rfl
    obtain rfl : n = 0 := by have := hr.1; omega
    have Hr := Lib.hid hr; clear hr
    go_enter Try.func9, Try.ntmps9
    go_wp2_with fail
    go_ret
    exact ⟨none, 0, rfl, Hr.out, Spare.nil _ _ _ _ _, fun _ h => (by cases h), Below.refl _ _, fun h => absurd h (by omega)⟩
  | some y =>
    obtain ⟨i0, hi0, hz0, hz1, hz2⟩ := info_parts Try.info48
    have fA : Frm (fun _ _ => False) w (w.alloc (.cells #[] 48)) := Frm.alloc1 _ _
    have row0 : Row (w.alloc (.cells #[] 48)) 48 3 (some ⟨w.heap.size, 0, none⟩) 0 0 [] := ⟨Nat.le_refl _, rfl, (fun h => by cases h), fun y hy => by obtain rfl := Option.some.inj hy; exact ⟨rfl, (fun h => by omega), fun j u hj => by simp at hj⟩⟩
    have rA := hr.kept fA (fun _ _ _ _ _ _ h => h)
    have hxl : xs.length = n * 3 := hr.2.1
    have news1 : ∀ z, some y = some z → ∀ j u, xs[j]? = some u → (w.alloc (.cells #[] 48)).cell? (z.add j) = some u := by
      intro z hz j u hj
      obtain rfl := Option.some.inj hz
      have := (rA.2.2.2 _ rfl)
      obtain ⟨b, o, s⟩ := y
      have hs := this.1
      dsimp only at hs; subst hs
      rw [Addr.add_lit]
      exact this.2.2 j u hj
    have hmax : 0 + n ≤ maxLen := by simp only [maxLen]; omega
    have hbyt : (0 + n) * 24 ≤ 140737488355328 := by omega
    have Hr := Lib.hid hr; clear hr rA
    have Hxl := Lib.hid hxl; clear hxl
    have Nw := Lib.hid news1; clear news1
    go_enter Try.func9, Try.ntmps9
    go_wp2_with (at_builtin; refine wpList_app _ rfl _ _ 44 rfl (fun _ _ => False) 48 i0 _ 3 24 Try.underlying44 hi0 hz0 hz1 hz2 rfl (by decide) (bo := some y) (m := n) (c := cap) (news := xs) rfl rfl row0 (Spare.full _ _ _ _ _) Hxl.out (fun h => by cases h) Nw.out hone hmax hbyt ?_; intro ao' cap' w2 row2 frm2 loc2)
    go_ret
    simp only [Nat.zero_add, List.nil_append] at row2 loc2 ⊢
    have sp := spare_of_loc (B := w.heap.size) (by simp) (fun _ _ h => h.elim) loc2
    refine ⟨ao', cap', rfl, row2, sp.mono (fun _ _ _ => trivial), ?_, ?_, ?_⟩
    · intro z hz hc
      rcases loc2 with ⟨e1, e2, _⟩ | ⟨e1, _⟩
      · rw [e1] at hz; obtain rfl := Option.some.inj hz; exact Nat.le_refl _
      · rw [e1] at hz; obtain rfl := Option.some.inj hz; simp
    · exact ((fA.trans frm2 (fun _ _ _ h => h)).below (Nat.le_refl _) (fun _ _ _ h => h.elim))
    · intro hn0
      rcases loc2 with ⟨e1, e2, e3, _⟩ | ⟨e1, e2, e3⟩
      · omega
      · refine ⟨_, e1, by simp, fun j hj => (e3 j ?_).2⟩
        have := row2.1
        omega

end Go.Proofs.Ytcjcccmlpilbbaa
