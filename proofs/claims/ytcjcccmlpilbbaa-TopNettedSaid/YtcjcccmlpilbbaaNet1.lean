/- Net1: lemmas on the way to the law (no condition of their own beyond what each states). -/
import Derived.Test.YtcjcccmlpilbbaaNetSt
import Derived.BigQuiet
import Derived.Deep.QuietTactic
namespace Go.Proofs.Ytcjcccmlpilbbaa
open Go.RowKit Go.K55 Go.Maps
set_option linter.unusedVariables false
set_option linter.unusedSimpArgs false

theorem at_some (b mb : Nat) (len cap : Nat) (node : Int) (w : World) (hl : len ≤ 64)
    (hc : w.cell? ⟨b, 1, none⟩ = some (.slice (some ⟨mb, 0, none⟩) len cap)) (h1 : 1 ≤ node) (h2 : node ≤ len) :
    Calls Try.prog 31 #[.pointer (some ⟨b, 0, none⟩), .int .i64 node] w fun e w' => e = .returned (.pointer (some ⟨mb, (node.toNat - 1) * 3, none⟩)) ∧ w = w' := by
  go_enter Try.func31, Try.ntmps31
  go_wp2
  go_ret
  exact ⟨rfl, rfl⟩

theorem at_none (b mb : Nat) (len cap : Nat) (node : Int) (w : World) (hl : len ≤ 64)
    (hc : w.cell? ⟨b, 1, none⟩ = some (.slice (some ⟨mb, 0, none⟩) len cap)) (h1 : node < 1 ∨ len < node) :
    Calls Try.prog 31 #[.pointer (some ⟨b, 0, none⟩), .int .i64 node] w fun e w' => e = .returned (.pointer none) ∧ w = w' := by
  rcases h1 with h1 | h1
  · go_enter Try.func31, Try.ntmps31
    go_wp2
    go_ret
    exact ⟨rfl, rfl⟩
  · have h0 : ¬ node < 1 := by omega
    go_enter Try.func31, Try.ntmps31
    go_wp2
    go_ret
    exact ⟨rfl, rfl⟩

theorem between_ok (b mb : Nat) (len cap : Nat) (x y : Int) (w : World) (hl : len ≤ 64)
    (hc : w.cell? ⟨b, 1, none⟩ = some (.slice (some ⟨mb, 0, none⟩) len cap)) (h1 : 1 ≤ x) (h2 : x ≤ len) (h3 : 1 ≤ y) (h4 : y ≤ len) :
    Calls Try.prog 28 #[.pointer (some ⟨b, 0, none⟩), .int .i64 x, .int .i64 y] w fun e w' => e = .returned (.int .i64 0) ∧ w = w' := by
  have hnil := fun (W : World) (A : Option Addr) (n c : Nat) => Lib.run_eql_slice_nil (P := Try.prog) W 44 48 A n c 0 0 Try.underlying44
  go_enter Try.func28, Try.ntmps28
  go_wp2_with fail
  refine (at_some _ _ _ _ _ _ hl hc h1 h2).mono ?_; rintro e w' ⟨rfl, rfl⟩
  go_wp2_with fail
  refine (at_some _ _ _ _ _ _ hl hc h3 h4).mono ?_; rintro e w' ⟨rfl, rfl⟩
  go_wp2_with fail
  go_ret
  exact ⟨rfl, rfl⟩

theorem between_bad (b mb : Nat) (len cap : Nat) (x y : Int) (w : World) (hl : len ≤ 64)
    (hc : w.cell? ⟨b, 1, none⟩ = some (.slice (some ⟨mb, 0, none⟩) len cap)) (h : (x < 1 ∨ len < x) ∨ (y < 1 ∨ len < y)) :
    Calls Try.prog 28 #[.pointer (some ⟨b, 0, none⟩), .int .i64 x, .int .i64 y] w fun e w' => e = .returned (.int .i64 2) ∧ w = w' := by
  have hnil := fun (W : World) (A : Option Addr) (n c : Nat) => Lib.run_eql_slice_nil (P := Try.prog) W 44 48 A n c 0 0 Try.underlying44
  by_cases hx : x < 1 ∨ len < x
  · go_enter Try.func28, Try.ntmps28
    go_wp2_with fail
    refine (at_none _ _ _ _ _ _ hl hc hx).mono ?_; rintro e w' ⟨rfl, rfl⟩
    go_wp2_with fail
    go_ret
    exact ⟨rfl, rfl⟩
  · have hy : y < 1 ∨ len < y := by omega
    have h1 : 1 ≤ x := by omega
    have h2 : x ≤ len := by omega
    clear h hx
    go_enter Try.func28, Try.ntmps28
    go_wp2_with fail
    refine (at_some _ _ _ _ _ _ hl hc h1 h2).mono ?_; rintro e w' ⟨rfl, rfl⟩
    go_wp2_with fail
    refine (at_none _ _ _ _ _ _ hl hc hy).mono ?_; rintro e w' ⟨rfl, rfl⟩
    go_wp2_with fail
    go_ret
    exact ⟨rfl, rfl⟩

theorem len_any (p lb : Nat) (a b : Int) (ao : Option Addr) (n cap : Nat) (w : World) (hc0 : w.cell? ⟨p, 0, none⟩ = some (.map (some lb)))
    (hl : (Instr.lookup 43 (.map (some lb)) (.agg #[.int .i64 a, .int .i64 b]) false).run Try.prog w = .ok (.slice ao n cap) w) :
    Calls Try.prog 23 #[.pointer (some ⟨p, 0, none⟩), .int .i64 a, .int .i64 b] w fun e w' => e = .returned (.int .i64 n) ∧ w = w' := by
  go_enter Try.func23, Try.ntmps23
  go_wp2
  go_ret
  exact ⟨rfl, rfl⟩

theorem peek_bad (p mb : Nat) (len mcap : Nat) (a b i : Int) (w : World) (hl : len ≤ 64)
    (hc1 : w.cell? ⟨p, 1, none⟩ = some (.slice (some ⟨mb, 0, none⟩) len mcap)) (h : (a < 1 ∨ len < a) ∨ (b < 1 ∨ len < b)) :
    Calls Try.prog 25 #[.pointer (some ⟨p, 0, none⟩), .int .i64 a, .int .i64 b, .int .i64 i] w fun e w' => e = .returned (.tuple #[.string ⟨#[]⟩, .int .i64 2]) ∧ w = w' := by
  go_enter Try.func25, Try.ntmps25
  go_wp2_with fail
  refine (between_bad _ _ _ _ _ _ _ hl hc1 h).mono ?_; rintro e w' ⟨rfl, rfl⟩
  go_wp2_with fail
  go_ret2
  exact ⟨rfl, rfl⟩

theorem peek_none (p mb lb : Nat) (len mcap : Nat) (a b i : Int) (ao : Option Addr) (n cap : Nat) (w : World) (hl : len ≤ 64)
    (hc1 : w.cell? ⟨p, 1, none⟩ = some (.slice (some ⟨mb, 0, none⟩) len mcap)) (h1 : 1 ≤ a) (h2 : a ≤ len) (h3 : 1 ≤ b) (h4 : b ≤ len)
    (hc0 : w.cell? ⟨p, 0, none⟩ = some (.map (some lb)))
    (hl : (Instr.lookup 43 (.map (some lb)) (.agg #[.int .i64 a, .int .i64 b]) false).run Try.prog w = .ok (.slice ao n cap) w) (h0 : 0 ≤ i) (hi : n ≤ i) :
    Calls Try.prog 25 #[.pointer (some ⟨p, 0, none⟩), .int .i64 a, .int .i64 b, .int .i64 i] w fun e w' => e = .returned (.tuple #[.string ⟨#[]⟩, .int .i64 5]) ∧ w = w' := by
  go_enter Try.func25, Try.ntmps25
  go_wp2_with fail
  refine (between_ok _ _ _ _ _ _ _ (by assumption) hc1 h1 h2 h3 h4).mono ?_; rintro e w' ⟨rfl, rfl⟩
  go_wp2_with fail
  go_ret2
  exact ⟨rfl, rfl⟩

theorem peek_ok (p mb lb : Nat) (len mcap : Nat) (a b i : Int) (xb off : Nat) (n cap : Nat) (s : ByteArray) (w : World) (hl : len ≤ 64)
    (hc1 : w.cell? ⟨p, 1, none⟩ = some (.slice (some ⟨mb, 0, none⟩) len mcap)) (h1 : 1 ≤ a) (h2 : a ≤ len) (h3 : 1 ≤ b) (h4 : b ≤ len)
    (hc0 : w.cell? ⟨p, 0, none⟩ = some (.map (some lb)))
    (hl : (Instr.lookup 43 (.map (some lb)) (.agg #[.int .i64 a, .int .i64 b]) false).run Try.prog w = .ok (.slice (some ⟨xb, off, none⟩) n cap) w) (h0 : 0 ≤ i) (hi : i < n)
    (hs : w.cell? ⟨xb, off + i.toNat, none⟩ = some (.string s)) :
    Calls Try.prog 25 #[.pointer (some ⟨p, 0, none⟩), .int .i64 a, .int .i64 b, .int .i64 i] w fun e w' => e = .returned (.tuple #[.string s, .int .i64 0]) ∧ w = w' := by
  go_enter Try.func25, Try.ntmps25
  go_wp2_with fail
  refine (between_ok _ _ _ _ _ _ _ (by assumption) hc1 h1 h2 h3 h4).mono ?_; rintro e w' ⟨rfl, rfl⟩
  go_wp2_with fail
  go_ret2
  exact ⟨rfl, rfl⟩

theorem nodes_any (p mb : Nat) (len mcap : Nat) (w : World) (hc1 : w.cell? ⟨p, 1, none⟩ = some (.slice (some ⟨mb, 0, none⟩) len mcap)) :
    Calls Try.prog 27 #[.pointer (some ⟨p, 0, none⟩)] w fun e w' => e = .returned (.int .i64 len) ∧ w = w' := by
  go_enter Try.func27, Try.ntmps27
  go_wp2
  go_ret
  exact ⟨rfl, rfl⟩

theorem ticks_bad (p mb : Nat) (len mcap : Nat) (a : Int) (w : World) (hl : len ≤ 64) (hc1 : w.cell? ⟨p, 1, none⟩ = some (.slice (some ⟨mb, 0, none⟩) len mcap)) (h : a < 1 ∨ len < a) :
    Calls Try.prog 26 #[.pointer (some ⟨p, 0, none⟩), .int .i64 a] w fun e w' => e = .returned (.int .i64 0) ∧ w = w' := by
  go_enter Try.func26, Try.ntmps26
  go_wp2_with fail
  refine (at_none _ _ _ _ _ _ (by assumption) hc1 h).mono ?_; rintro e w' ⟨rfl, rfl⟩
  go_wp2_with fail
  go_ret
  exact ⟨rfl, rfl⟩

theorem ticks_ok (p mb : Nat) (len mcap : Nat) (a t : Int) (w : World) (hl : len ≤ 64) (hc1 : w.cell? ⟨p, 1, none⟩ = some (.slice (some ⟨mb, 0, none⟩) len mcap)) (h1 : 1 ≤ a) (h2 : a ≤ len)
    (ht : w.cell? ⟨mb, (a.toNat - 1) * 3, none⟩ = some (.int .i64 t)) :
    Calls Try.prog 26 #[.pointer (some ⟨p, 0, none⟩), .int .i64 a] w fun e w' => e = .returned (.int .i64 t) ∧ w = w' := by
  go_enter Try.func26, Try.ntmps26
  go_wp2_with fail
  refine (at_some _ _ _ _ _ _ (by assumption) hc1 h1 h2).mono ?_; rintro e w' ⟨rfl, rfl⟩
  go_wp2_with fail
  go_ret
  exact ⟨rfl, rfl⟩

theorem tick_bad (p mb : Nat) (len mcap : Nat) (a : Int) (w : World) (hl : len ≤ 64) (hc1 : w.cell? ⟨p, 1, none⟩ = some (.slice (some ⟨mb, 0, none⟩) len mcap)) (h : a < 1 ∨ len < a) :
    Calls Try.prog 19 #[.pointer (some ⟨p, 0, none⟩), .int .i64 a] w fun e w' => e = .returned (.tuple #[.int .i64 0, .int .i64 2]) ∧ w = w' := by
  go_enter Try.func19, Try.ntmps19
  go_wp2_with fail
  refine (between_bad _ _ _ _ _ _ _ hl hc1 (Or.inl h)).mono ?_; rintro e w' ⟨rfl, rfl⟩
  go_wp2_with fail
  go_ret2
  exact ⟨rfl, rfl⟩

theorem tick_ok (p mb : Nat) (len mcap : Nat) (a t : Int) (w : World) (hl : len ≤ 64) (hc1 : w.cell? ⟨p, 1, none⟩ = some (.slice (some ⟨mb, 0, none⟩) len mcap)) (h1 : 1 ≤ a) (h2 : a ≤ len)
    (ht : w.cell? ⟨mb, (a.toNat - 1) * 3, none⟩ = some (.int .i64 t)) (hf : w.frozen? ⟨mb, (a.toNat - 1) * 3, none⟩ = false) :
    Calls Try.prog 19 #[.pointer (some ⟨p, 0, none⟩), .int .i64 a] w fun e w' => e = .returned (.tuple #[.int .i64 (wrap64 (t + 1)), .int .i64 0]) ∧ w' = w.setCell ⟨mb, (a.toNat - 1) * 3, none⟩ (.int .i64 (wrap64 (t + 1))) := by
  go_enter Try.func19, Try.ntmps19
  go_wp2_with fail
  refine (between_ok _ _ _ _ _ _ _ (by assumption) hc1 h1 h2 h1 h2).mono ?_; rintro e w' ⟨rfl, rfl⟩
  go_wp2_with fail
  refine (at_some _ _ _ _ _ _ (by assumption) hc1 h1 h2).mono ?_; rintro e w' ⟨rfl, rfl⟩
  go_wp2_with fail
  go_ret2
  exact ⟨rfl, rfl⟩

end Go.Proofs.Ytcjcccmlpilbbaa
