/- Dig: lemmas on the way to the law (no condition of their own beyond what each states). -/
import Derived.Test.YtcjcccmlpilbbaaPart
import Derived.IntWalk
namespace Go.Proofs.Ytcjcccmlpilbbaa
open Go.RowKit Go.K55 Go.Maps
set_option linter.unusedVariables false
set_option linter.unusedSimpArgs false

def DigPost (w : World) (e : Ending) (w' : World) : Prop := ∃ (s : ByteArray) (n : Nat), e = .returned (.string s) ∧ s.size ≤ 2 ∧ w' = w.drewN n

theorem size_digit (b : ByteArray) (hb : b.size = 16) (i : Int) (h0 : 0 ≤ i) (h1 : i < 10) : (b.extract i.toNat (i + 1).toNat).size = 1 := by
  rw [ByteArray.size_extract, hb]
  omega

set_option maxRecDepth 100000 in
set_option maxHeartbeats 800000 in
theorem digits_any (x : Int) (h0 : 0 ≤ x) (h1 : x ≤ 99) (w : World) : Calls Try.prog 13 #[.int .u64 x, .int .u64 10] w (DigPost w) := by
  have hr0 : 0 ≤ x % 10 := by omega
  have hr1 : x % 10 < 10 := by omega
  go_enter Try.func13, Try.ntmps13
  go_wp2_with fail
  go_quiet (fail)
  go_wp2_with fail
  have hsz := size_digit ⟨#[48, 49, 50, 51, 52, 53, 54, 55, 56, 57, 97, 98, 99, 100, 101, 102]⟩ rfl (x % 10) hr0 hr1
  obtain ⟨t0, ht0⟩ : ∃ t0, t0 = ByteArray.extract ⟨#[48, 49, 50, 51, 52, 53, 54, 55, 56, 57, 97, 98, 99, 100, 101, 102]⟩ (x % 10).toNat (x % 10 + 1).toNat := ⟨_, rfl⟩
  rw [← ht0] at hsz ⊢
  have Ht0 := Lib.hid ht0; clear ht0
  have Hsz := Lib.hid hsz; clear hsz
  go_loopw [0, 5] (fun y s wr => ∃ (z : Int) (t : ByteArray) (n : Nat), y = .int .u64 z ∧ s = .string t ∧ wr = w.drewN n ∧ 0 ≤ z ∧ z ≤ 9 ∧ (t.size = 1 ∨ z = 0 ∧ t.size ≤ 2)) (fun y _ _ => (intOf y).toNat)
  case atStart => exact ⟨x / 10, t0, nq, rfl, rfl, rfl, by omega, by omega, Or.inl Hsz.out⟩
  case round =>
    obtain ⟨z, t, n, rfl, rfl, rfl, hz0, hz9, hz⟩ := hrel
    have Hz := Lib.hid hz; clear hz
    by_cases hp : 0 < z
    · have hz99 : z ≤ 99 := by omega
      have Hz9 := Lib.hid hz9; clear hz9
      have hr0' : 0 ≤ z % 10 := by omega
      have hr1' : z % 10 < 10 := by omega
      have hr2' : 0 ≤ z % 10 + 1 := by omega
      have hr3' : z % 10 ≤ z % 10 + 1 := by omega
      have hr4' : z % 10 + 1 ≤ 16 := by omega
      have hdz : 0 ≤ z / 10 := by omega
      have hts : t.size ≤ 2 := by have := Hz.out; omega
      have hse : (ByteArray.extract ⟨#[48, 49, 50, 51, 52, 53, 54, 55, 56, 57, 97, 98, 99, 100, 101, 102]⟩ (z % 10).toNat (z % 10 + 1).toNat).size ≤ 1 := Nat.le_of_eq (size_digit _ rfl _ hr0' hr1')
      have hw1 : IntKind.u64.wrap (z % 10 + 1) = z % 10 + 1 := IntWalk.u64_in _ (by omega)
      have hw2 : z.tmod 10 = z % 10 := Int.tmod_eq_emod_of_nonneg hz0
      go_wp2_with fail
      go_quiet (fail)
      clear hw1 hw2
      go_wp2_with fail
      go_roundw
      case rel => exact ⟨z / 10, _, n + nq, rfl, rfl, rfl, by omega, by have := Hz9.out; omega, Or.inr ⟨by have := Hz9.out; omega, by rw [ByteArray.size_append]; have := Hz.out; omega⟩⟩
      case measure => simp [intOf]; omega
    · go_wp2_with fail
      go_ret
      refine ⟨t, n, rfl, ?_, rfl⟩
      have := Hz.out; omega

end Go.Proofs.Ytcjcccmlpilbbaa
