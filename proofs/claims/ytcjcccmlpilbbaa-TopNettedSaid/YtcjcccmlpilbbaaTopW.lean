/- TopW: lemmas on the way to the law (no condition of their own beyond what each states). -/
import Derived.Test.YtcjcccmlpilbbaaNetdT
namespace Go.Proofs.Ytcjcccmlpilbbaa
open Go.RowKit Go.K55 Go.Maps
set_option linter.unusedVariables false
set_option linter.unusedSimpArgs false

def knownL : List Stp := [⟨0, 1, 2, 0, 0⟩, ⟨0, 1, 2, 0, 0⟩, ⟨5, 1, 2, 0, 0⟩, ⟨6, 0, 0, 0, 1⟩, ⟨2, 1, 2, 1, 0⟩, ⟨6, 0, 0, 0, 0⟩, ⟨2, 1, 2, 1, 0⟩, ⟨7, 2, 0, 0, 0⟩]

theorem known_two {S : NS} (h : Reach (NS.fresh 2 7) (knownL.take 40) S) : S.msgs.length = 2 := by
  obtain ⟨s1, _, s2, _, s3, _, s4, _, s5, _, s6, _, s7, _, s8, _, h⟩ := h
  rw [h]
  kernel_rfl

theorem known_ok : ∀ x ∈ knownL, x.ok := by
  intro x hx
  simp only [knownL, List.mem_cons, List.not_mem_nil, or_false] at hx
  rcases hx with rfl | rfl | rfl | rfl | rfl | rfl | rfl | rfl <;> (unfold Stp.ok; decide)

set_option maxRecDepth 100000 in
set_option maxHeartbeats 1000000 in
theorem top_walk (nodes seed : Int) (ao : Option Addr) (n cap : Nat) (xs : List Stp) (w : World) (hxs : ∀ x ∈ xs, x.ok) (hrow : RowC w 5 ao n (stps xs)) (hn0 : 0 ≤ nodes) (hn1 : nodes ≤ 255) (hs0 : 0 ≤ seed) (hs1 : seed < 18446744073709551616) :
    Calls Try.prog 3 #[.int .u8 nodes, .int .u64 seed, .slice ao n cap] w (fun e w' => e = .returned (.bool true) ∧ Below w.heap.size w w') := by
  have Hrow := Lib.hid hrow; clear hrow
  have Hxs := Lib.hid hxs; clear hxs
  go_enter Try.func3, Try.ntmps3
  go_wp2_with fail
  generalize hwA : w.alloc _ = wA
  have hbA : Below w.heap.size w wA := by rw [← hwA]; exact (Below.refl _ w).alloc (Nat.le_refl _) _
  have hrA : RowC wA 5 (some ⟨w.heap.size, 0, none⟩) 8 (stps knownL) := by
    rw [← hwA]
    refine ⟨rfl, fun _ => ⟨_, _, rfl⟩, fun b o hb j u hj => ?_⟩
    simp only [Option.some.injEq, Addr.mk.injEq] at hb
    obtain ⟨rfl, rfl, _⟩ := hb
    rw [Nat.zero_add, World.cell?_alloc_at _ _ _ _ rfl, List.getElem?_toArray]
    exact hj
  have HbA := Lib.hid hbA; clear hbA
  clear hwA
  refine (netted_walk 2 7 (some ⟨w.heap.size, 0, none⟩) 8 8 knownL wA known_ok hrA (by omega) (by omega) (by omega) (by omega)).mono ?_
  rintro e w2 ⟨S, rfl, hre, hb2⟩
  have h2 := known_two hre
  rw [h2]
  clear h2 hre hrA
  have hbB : Below w.heap.size w w2 := HbA.out.trans (hb2.mono HbA.out.size)
  have HbB := Lib.hid hbB; clear hbB hb2
  have ht0 := Int.tmod_nonneg 5 hn0
  have ht1 := Int.tmod_lt_of_pos nodes (show (0 : Int) < 5 by omega)
  go_wp2_with fail
  obtain ⟨nd, hnd⟩ : ∃ nd : Nat, (1 + nodes % 5 : Int) = (nd : Int) := ⟨(1 + nodes % 5).toNat, by omega⟩
  have hnd1 : 1 ≤ nd := by omega
  have hnd2 : nd ≤ 5 := by omega
  rw [hnd]
  clear hnd
  have hrB := Hrow.out.below HbB.out
  refine (netted_walk _ seed ao n cap xs w2 Hxs.out hrB hnd1 hnd2 hs0 hs1).mono ?_
  rintro e w3 ⟨S, rfl, hre, hb3⟩
  have hbC : Below w.heap.size w w3 := HbB.out.trans (hb3.mono HbB.out.size)
  clear hre hb3 hrB
  have HbC := Lib.hid hbC; clear hbC
  go_wp2_with fail
  go_ret
  exact ⟨rfl, HbC.out⟩

end Go.Proofs.Ytcjcccmlpilbbaa
