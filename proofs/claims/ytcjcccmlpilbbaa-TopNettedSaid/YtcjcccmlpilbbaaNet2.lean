/- Net2: lemmas on the way to the law (no condition of their own beyond what each states). -/
import Derived.Test.YtcjcccmlpilbbaaNet1
namespace Go.Proofs.Ytcjcccmlpilbbaa
open Go.RowKit Go.K55 Go.Maps
set_option linter.unusedVariables false
set_option linter.unusedSimpArgs false

theorem parted_bad (p mb : Nat) (len mcap : Nat) (x y : Int) (w : World) (hl : len ≤ 64) (hc : w.cell? ⟨p, 1, none⟩ = some (.slice (some ⟨mb, 0, none⟩) len mcap)) (h : (x < 1 ∨ len < x) ∨ (y < 1 ∨ len < y)) :
    Calls Try.prog 24 #[.pointer (some ⟨p, 0, none⟩), .int .i64 x, .int .i64 y] w fun e w' => e = .returned (.bool false) ∧ ∃ n, w' = w.drewN n := by
  by_cases hx : x < 1 ∨ len < x
  · by_cases hy : y < 1 ∨ len < y
    · clear h
      go_enter Try.func24, Try.ntmps24
      go_wp2_with fail
      refine (at_none _ _ _ _ _ _ hl hc hx).mono ?_; rintro e w' ⟨rfl, rfl⟩
      go_wp2_with fail
      refine (at_none _ _ _ _ _ _ hl hc hy).mono ?_; rintro e w' ⟨rfl, rfl⟩
      go_wp2_with fail
      go_quiet (fail)
      go_wp2_with fail
      go_ret
      exact ⟨rfl, _, rfl⟩
    · have h3 : 1 ≤ y := by omega
      have h4 : y ≤ len := by omega
      clear h hy
      go_enter Try.func24, Try.ntmps24
      go_wp2_with fail
      refine (at_none _ _ _ _ _ _ hl hc hx).mono ?_; rintro e w' ⟨rfl, rfl⟩
      go_wp2_with fail
      refine (at_some _ _ _ _ _ _ hl hc h3 h4).mono ?_; rintro e w' ⟨rfl, rfl⟩
      go_wp2_with fail
      go_quiet (fail)
      go_wp2_with fail
      go_ret
      exact ⟨rfl, _, rfl⟩
  · have hy : y < 1 ∨ len < y := by omega
    have h1 : 1 ≤ x := by omega
    have h2 : x ≤ len := by omega
    clear h hx
    go_enter Try.func24, Try.ntmps24
    go_wp2_with fail
    refine (at_some _ _ _ _ _ _ hl hc h1 h2).mono ?_; rintro e w' ⟨rfl, rfl⟩
    go_wp2_with fail
    refine (at_none _ _ _ _ _ _ hl hc hy).mono ?_; rintro e w' ⟨rfl, rfl⟩
    go_wp2_with fail
    go_quiet (fail)
    go_wp2_with fail
    go_ret
    exact ⟨rfl, _, rfl⟩

theorem parted_ok (p mb : Nat) (len mcap : Nat) (x y : Int) (sx sy : Bool) (w : World) (hl : len ≤ 64) (hc : w.cell? ⟨p, 1, none⟩ = some (.slice (some ⟨mb, 0, none⟩) len mcap))
    (h1 : 1 ≤ x) (h2 : x ≤ len) (h3 : 1 ≤ y) (h4 : y ≤ len) (cx : w.cell? ⟨mb, (x.toNat - 1) * 3 + 2, none⟩ = some (.bool sx)) (cy : w.cell? ⟨mb, (y.toNat - 1) * 3 + 2, none⟩ = some (.bool sy)) :
    Calls Try.prog 24 #[.pointer (some ⟨p, 0, none⟩), .int .i64 x, .int .i64 y] w fun e w' => e = .returned (.bool (sx != sy)) ∧ ∃ n, w' = w.drewN n := by
  go_enter Try.func24, Try.ntmps24
  go_wp2_with fail
  refine (at_some _ _ _ _ _ _ hl hc h1 h2).mono ?_; rintro e w' ⟨rfl, rfl⟩
  go_wp2_with fail
  refine (at_some _ _ _ _ _ _ hl hc h3 h4).mono ?_; rintro e w' ⟨rfl, rfl⟩
  go_wp2_with fail
  go_quiet (fail)
  go_wp2_with fail
  go_ret
  exact ⟨rfl, _, rfl⟩

theorem draw_bad (p mb : Nat) (len mcap : Nat) (a b : Int) (w : World) (hl : len ≤ 64) (hc1 : w.cell? ⟨p, 1, none⟩ = some (.slice (some ⟨mb, 0, none⟩) len mcap)) (h : a < 1 ∨ len < a) :
    Calls Try.prog 20 #[.pointer (some ⟨p, 0, none⟩), .int .i64 a, .int .i64 b] w fun e w' => e = .returned (.tuple #[.int .i64 0, .int .i64 2]) ∧ w = w' := by
  go_enter Try.func20, Try.ntmps20
  go_wp2_with fail
  refine (between_bad _ _ _ _ _ _ _ hl hc1 (Or.inl h)).mono ?_; rintro e w' ⟨rfl, rfl⟩
  go_wp2_with fail
  go_ret2
  exact ⟨rfl, rfl⟩

theorem draw_low (p mb : Nat) (len mcap : Nat) (a b : Int) (w : World) (hl : len ≤ 64) (hc1 : w.cell? ⟨p, 1, none⟩ = some (.slice (some ⟨mb, 0, none⟩) len mcap)) (h1 : 1 ≤ a) (h2 : a ≤ len) (hb : b < 1) :
    Calls Try.prog 20 #[.pointer (some ⟨p, 0, none⟩), .int .i64 a, .int .i64 b] w fun e w' => e = .returned (.tuple #[.int .i64 0, .int .i64 2]) ∧ w = w' := by
  go_enter Try.func20, Try.ntmps20
  go_wp2_with fail
  refine (between_ok _ _ _ _ _ _ _ (by assumption) hc1 h1 h2 h1 h2).mono ?_; rintro e w' ⟨rfl, rfl⟩
  go_wp2_with fail
  go_ret2
  exact ⟨rfl, rfl⟩

def bump (d : Int) : Int := IntKind.u64.wrap (d + 11400714819323198485)
def mixA (x : Int) : Int := IntKind.u64.wrap (bits BinOp.xor IntKind.u64 x (x / 1073741824) * 13787848793156543929)
def mixB (x : Int) : Int := IntKind.u64.wrap (bits BinOp.xor IntKind.u64 x (x / 134217728) * 10723151780598845931)
def mixC (x : Int) : Int := bits BinOp.xor IntKind.u64 x (x / 2147483648)
/-- What is drawn of a machine's number, below b. -/
def drawV (d b : Int) : Int := wrap64 ((mixC (mixB (mixA d))).tmod b)

set_option maxHeartbeats 400000 in
theorem draw_ok (p mb : Nat) (len mcap : Nat) (a b d : Int) (w : World) (hl : len ≤ 64) (hc1 : w.cell? ⟨p, 1, none⟩ = some (.slice (some ⟨mb, 0, none⟩) len mcap)) (h1 : 1 ≤ a) (h2 : a ≤ len) (hb : 1 ≤ b) (hb2 : b ≤ 300)
    (ht : w.cell? ⟨mb, (a.toNat - 1) * 3 + 1, none⟩ = some (.int .u64 d)) (hf : w.frozen? ⟨mb, (a.toNat - 1) * 3 + 1, none⟩ = false) :
    Calls Try.prog 20 #[.pointer (some ⟨p, 0, none⟩), .int .i64 a, .int .i64 b] w fun e w' => e = .returned (.tuple #[.int .i64 (drawV (bump d) b), .int .i64 0]) ∧ w' = w.setCell ⟨mb, (a.toNat - 1) * 3 + 1, none⟩ (.int .u64 (bump d)) := by
  go_enter Try.func20, Try.ntmps20
  go_wp2_with fail
  refine (between_ok _ _ _ _ _ _ _ (by assumption) hc1 h1 h2 h1 h2).mono ?_; rintro e w' ⟨rfl, rfl⟩
  go_wp2_with fail
  refine (at_some _ _ _ _ _ _ (by assumption) hc1 h1 h2).mono ?_; rintro e w' ⟨rfl, rfl⟩
  go_wp2_with fail
  go_ret2
  exact ⟨rfl, rfl⟩

set_option maxHeartbeats 400000 in
theorem draw55 (q : Nat) (a b d : Int) (w : World) (h1 : 1 ≤ a) (h2 : a ≤ 7) (hb : 1 ≤ b) (hb2 : b ≤ 300)
    (ht : w.cell? ⟨q, 18 + a.toNat, none⟩ = some (.int .u64 d)) (hf : w.frozen? ⟨q, 18 + a.toNat, none⟩ = false) :
    Calls Try.prog 21 #[.pointer (some ⟨q, 0, none⟩), .int .i64 a, .int .i64 b] w fun e w' => e = .returned (.int .i64 (drawV (bump d) b)) ∧ ∃ n, w' = (w.setCell ⟨q, 18 + a.toNat, none⟩ (.int .u64 (bump d))).drewN n := by
  go_enter Try.func21, Try.ntmps21
  go_wp2_with fail
  go_region
  go_wp2_with fail
  go_ret
  exact ⟨rfl, 1, rfl⟩

end Go.Proofs.Ytcjcccmlpilbbaa
