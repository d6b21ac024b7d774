/- Hap23a: lemmas on the way to the law (no condition of their own beyond what each states). -/
import Derived.Test.YtcjcccmlpilbbaaHapJ
namespace Go.Proofs.Ytcjcccmlpilbbaa
open Go.RowKit Go.K55 Go.Maps
set_option linter.unusedVariables false
set_option linter.unusedSimpArgs false

set_option maxRecDepth 100000 in
set_option maxHeartbeats 2000000 in
theorem hap2_U {w : World} {p q : Nat} {S : NS} {G : Nat → Prop} {N : Nat} {ao : Option Addr} {cap : Nat} (hw : W55G w q S ao cap) (hn : NetG w p S G) (hS : Wf S N) (hN : N ≤ 800)
    (K fr tu ii nn num A B : Int) (i : Nat) (hK : K.tmod 9 = 2) (hm0 : 0 ≤ num) (hm1 : num ≤ 40) (hA : fr.tmod ((S.nodes : Int) + 2) = A) (hB : tu.tmod ((S.nodes : Int) + 2) = B) (hI : ii.tmod 4 = (i : Int)) (hf0 : 0 ≤ fr) (hf1 : fr ≤ 255) (ht0 : 0 ≤ tu) (ht1 : tu ≤ 255) (hi0 : 0 ≤ ii) (hi1 : ii ≤ 255) (hn0 : 0 ≤ nn) (hn1 : nn ≤ 255) (hA0 : 0 ≤ A) (hB0 : 0 ≤ B) (hI1 : (i : Int) ≤ 3) (hA1 : A ≤ 6) (hB1 : B ≤ 6)
    (hu : A < 1 ∨ (1 ≤ A ∧ (S.nodes : Int) < A) ∨ ((1 ≤ A ∧ A ≤ (S.nodes : Int)) ∧ B < 1) ∨ ((1 ≤ A ∧ A ≤ (S.nodes : Int)) ∧ 1 ≤ B ∧ (S.nodes : Int) < B)) :
    Calls Try.prog 7 #[.pointer (some ⟨q, 0, none⟩), .pointer (some ⟨p, 0, none⟩), .agg #[.int .u8 K, .int .u8 fr, .int .u8 tu, .int .u8 ii, .int .u8 nn], .int .i64 num] w (Hap w p q S S G ao cap) := by
  have hq := hw.st.lt
  have c0 := hw.st.c0
  have hS1 := hS.n1
  have hS2 := hS.n2
  have hlen := hS.len
  have hI0 : (0 : Int) ≤ (i : Int) := by omega
  have hpl : (places A B S.msgs 0).length ≤ N := by rw [places_length]; exact Nat.le_trans (List.length_filter_le _ _) hlen
  have hnz : ((S.nodes : Int) + 2 == 0) = false := by simp; omega
  have hlk := fun n => link_walk q S ao cap A B ((W1 w q K fr tu ii nn).drewN n) ((hw.st.below (W1_below w q K fr tu ii nn)).kept (F := fun _ _ => False) ((Frm.refl _ _).drewN n) (fun _ h => h) (fun _ _ _ _ _ _ h => h)) (by omega)
  have Hlk := Lib.hid hlk; clear hlk
  have Hw := Lib.hid hw; clear hw
  have Hn := Lib.hid hn; clear hn
  have hun0 : Unknown S A B := by simp only [Unknown]; omega
  rcases hu with hu | ⟨hu1, hu⟩ | ⟨⟨hu1, hu2⟩, hu⟩ | ⟨⟨hu1, hu2⟩, hu3, hu⟩
  · have hun : decide (1 ≤ A) = false := decide_eq_false (by omega)
    have hw1 : IntKind.i64.wrap ((S.nodes : Int) + 2) = (S.nodes : Int) + 2 := IntWalk.i64_in _ (by omega)
    go_enter Try.func7, Try.ntmps7
    go_wp2_with fail
    go_quiet (fail)
    clear hA hB hI hw1
    go_wp2_with fail
    refine (Hlk.out _).mono ?_
    rintro e w2 ⟨v, rfl, hv, hb⟩
    have hC : Ctx w w2 p q S G ao cap K fr tu ii nn := Ctx.of Hw.out Hn.out (by rw [World.heap_drewN, W1_size] at hb; exact hb)
    have hvB : w.heap.size ≤ (W1 w q K fr tu ii nn).heap.size := by rw [W1_size]; omega
    have cb := hC.cb
    have x0 := hC.x0
    have x4 := hC.x4
    have hw2 := hC.w55
    have d0 := hw2.st.c0
    have d1 := hw2.st.c1
    have df := hw2.st.fz 1
    obtain ⟨ai, ci, rfl, hri, hsi, hli⟩ := hv
    have HC := Lib.hid hC; clear hC hb
    have Hw2 := Lib.hid hw2; clear hw2
    have Hri := Lib.hid hri; clear hri hsi hli
    go_wp2_with fail
    go_quiet (fail)
    go_wp2_with fail
    have hsn := fun n => take_bad_spec (HC.out.drewN n).net hS hun0 (i : Int)
    have Hsn := Lib.hid hsn; clear hsn
    refine (Hsn.out _).mono ?_
    rintro e w4 ⟨rfl, hb4⟩
    have Hb4 := Lib.hid hb4; clear hb4
    unfold pkt0
    go_wp2_with fail
    go_ret
    exact Hap.sameA Hw.out Hn.out (HC.out.drewN _).below Hb4.out _
  · have hun : decide (A ≤ (S.nodes : Int)) = false := decide_eq_false (by omega)
    have hw1 : IntKind.i64.wrap ((S.nodes : Int) + 2) = (S.nodes : Int) + 2 := IntWalk.i64_in _ (by omega)
    go_enter Try.func7, Try.ntmps7
    go_wp2_with fail
    go_quiet (fail)
    clear hA hB hI hw1
    go_wp2_with fail
    refine (Hlk.out _).mono ?_
    rintro e w2 ⟨v, rfl, hv, hb⟩
    have hC : Ctx w w2 p q S G ao cap K fr tu ii nn := Ctx.of Hw.out Hn.out (by rw [World.heap_drewN, W1_size] at hb; exact hb)
    have hvB : w.heap.size ≤ (W1 w q K fr tu ii nn).heap.size := by rw [W1_size]; omega
    have cb := hC.cb
    have x0 := hC.x0
    have x4 := hC.x4
    have hw2 := hC.w55
    have d0 := hw2.st.c0
    have d1 := hw2.st.c1
    have df := hw2.st.fz 1
    obtain ⟨ai, ci, rfl, hri, hsi, hli⟩ := hv
    have HC := Lib.hid hC; clear hC hb
    have Hw2 := Lib.hid hw2; clear hw2
    have Hri := Lib.hid hri; clear hri hsi hli
    go_wp2_with fail
    go_quiet (fail)
    go_wp2_with fail
    have hsn := fun n => take_bad_spec (HC.out.drewN n).net hS hun0 (i : Int)
    have Hsn := Lib.hid hsn; clear hsn
    refine (Hsn.out _).mono ?_
    rintro e w4 ⟨rfl, hb4⟩
    have Hb4 := Lib.hid hb4; clear hb4
    unfold pkt0
    go_wp2_with fail
    go_ret
    exact Hap.sameA Hw.out Hn.out (HC.out.drewN _).below Hb4.out _
  · have hun : decide (1 ≤ B) = false := decide_eq_false (by omega)
    have hw1 : IntKind.i64.wrap ((S.nodes : Int) + 2) = (S.nodes : Int) + 2 := IntWalk.i64_in _ (by omega)
    go_enter Try.func7, Try.ntmps7
    go_wp2_with fail
    go_quiet (fail)
    clear hA hB hI hw1
    go_wp2_with fail
    refine (Hlk.out _).mono ?_
    rintro e w2 ⟨v, rfl, hv, hb⟩
    have hC : Ctx w w2 p q S G ao cap K fr tu ii nn := Ctx.of Hw.out Hn.out (by rw [World.heap_drewN, W1_size] at hb; exact hb)
    have hvB : w.heap.size ≤ (W1 w q K fr tu ii nn).heap.size := by rw [W1_size]; omega
    have cb := hC.cb
    have x0 := hC.x0
    have x4 := hC.x4
    have hw2 := hC.w55
    have d0 := hw2.st.c0
    have d1 := hw2.st.c1
    have df := hw2.st.fz 1
    obtain ⟨ai, ci, rfl, hri, hsi, hli⟩ := hv
    have HC := Lib.hid hC; clear hC hb
    have Hw2 := Lib.hid hw2; clear hw2
    have Hri := Lib.hid hri; clear hri hsi hli
    go_wp2_with fail
    go_quiet (fail)
    go_wp2_with fail
    have hsn := fun n => take_bad_spec (HC.out.drewN n).net hS hun0 (i : Int)
    have Hsn := Lib.hid hsn; clear hsn
    refine (Hsn.out _).mono ?_
    rintro e w4 ⟨rfl, hb4⟩
    have Hb4 := Lib.hid hb4; clear hb4
    unfold pkt0
    go_wp2_with fail
    go_ret
    exact Hap.sameA Hw.out Hn.out (HC.out.drewN _).below Hb4.out _
  · have hun : decide (B ≤ (S.nodes : Int)) = false := decide_eq_false (by omega)
    have hw1 : IntKind.i64.wrap ((S.nodes : Int) + 2) = (S.nodes : Int) + 2 := IntWalk.i64_in _ (by omega)
    go_enter Try.func7, Try.ntmps7
    go_wp2_with fail
    go_quiet (fail)
    clear hA hB hI hw1
    go_wp2_with fail
    refine (Hlk.out _).mono ?_
    rintro e w2 ⟨v, rfl, hv, hb⟩
    have hC : Ctx w w2 p q S G ao cap K fr tu ii nn := Ctx.of Hw.out Hn.out (by rw [World.heap_drewN, W1_size] at hb; exact hb)
    have hvB : w.heap.size ≤ (W1 w q K fr tu ii nn).heap.size := by rw [W1_size]; omega
    have cb := hC.cb
    have x0 := hC.x0
    have x4 := hC.x4
    have hw2 := hC.w55
    have d0 := hw2.st.c0
    have d1 := hw2.st.c1
    have df := hw2.st.fz 1
    obtain ⟨ai, ci, rfl, hri, hsi, hli⟩ := hv
    have HC := Lib.hid hC; clear hC hb
    have Hw2 := Lib.hid hw2; clear hw2
    have Hri := Lib.hid hri; clear hri hsi hli
    go_wp2_with fail
    go_quiet (fail)
    go_wp2_with fail
    have hsn := fun n => take_bad_spec (HC.out.drewN n).net hS hun0 (i : Int)
    have Hsn := Lib.hid hsn; clear hsn
    refine (Hsn.out _).mono ?_
    rintro e w4 ⟨rfl, hb4⟩
    have Hb4 := Lib.hid hb4; clear hb4
    unfold pkt0
    go_wp2_with fail
    go_ret
    exact Hap.sameA Hw.out Hn.out (HC.out.drewN _).below Hb4.out _

set_option maxRecDepth 100000 in
set_option maxHeartbeats 2000000 in
theorem hap3_U {w : World} {p q : Nat} {S : NS} {G : Nat → Prop} {N : Nat} {ao : Option Addr} {cap : Nat} (hw : W55G w q S ao cap) (hn : NetG w p S G) (hS : Wf S N) (hN : N ≤ 800)
    (K fr tu ii nn num A B : Int) (i : Nat) (hK : K.tmod 9 = 3) (hm0 : 0 ≤ num) (hm1 : num ≤ 40) (hA : fr.tmod ((S.nodes : Int) + 2) = A) (hB : tu.tmod ((S.nodes : Int) + 2) = B) (hI : ii.tmod 4 = (i : Int)) (hf0 : 0 ≤ fr) (hf1 : fr ≤ 255) (ht0 : 0 ≤ tu) (ht1 : tu ≤ 255) (hi0 : 0 ≤ ii) (hi1 : ii ≤ 255) (hn0 : 0 ≤ nn) (hn1 : nn ≤ 255) (hA0 : 0 ≤ A) (hB0 : 0 ≤ B) (hI1 : (i : Int) ≤ 3) (hA1 : A ≤ 6) (hB1 : B ≤ 6)
    (hu : A < 1 ∨ (1 ≤ A ∧ (S.nodes : Int) < A) ∨ ((1 ≤ A ∧ A ≤ (S.nodes : Int)) ∧ B < 1) ∨ ((1 ≤ A ∧ A ≤ (S.nodes : Int)) ∧ 1 ≤ B ∧ (S.nodes : Int) < B)) :
    Calls Try.prog 7 #[.pointer (some ⟨q, 0, none⟩), .pointer (some ⟨p, 0, none⟩), .agg #[.int .u8 K, .int .u8 fr, .int .u8 tu, .int .u8 ii, .int .u8 nn], .int .i64 num] w (Hap w p q S S G ao cap) := by
  have hq := hw.st.lt
  have c0 := hw.st.c0
  have hS1 := hS.n1
  have hS2 := hS.n2
  have hlen := hS.len
  have hI0 : (0 : Int) ≤ (i : Int) := by omega
  have hpl : (places A B S.msgs 0).length ≤ N := by rw [places_length]; exact Nat.le_trans (List.length_filter_le _ _) hlen
  have hnz : ((S.nodes : Int) + 2 == 0) = false := by simp; omega
  have hlk := fun n => link_walk q S ao cap A B ((W1 w q K fr tu ii nn).drewN n) ((hw.st.below (W1_below w q K fr tu ii nn)).kept (F := fun _ _ => False) ((Frm.refl _ _).drewN n) (fun _ h => h) (fun _ _ _ _ _ _ h => h)) (by omega)
  have Hlk := Lib.hid hlk; clear hlk
  have Hw := Lib.hid hw; clear hw
  have Hn := Lib.hid hn; clear hn
  have hun0 : Unknown S A B := by simp only [Unknown]; omega
  rcases hu with hu | ⟨hu1, hu⟩ | ⟨⟨hu1, hu2⟩, hu⟩ | ⟨⟨hu1, hu2⟩, hu3, hu⟩
  · have hun : decide (1 ≤ A) = false := decide_eq_false (by omega)
    have hw1 : IntKind.i64.wrap ((S.nodes : Int) + 2) = (S.nodes : Int) + 2 := IntWalk.i64_in _ (by omega)
    go_enter Try.func7, Try.ntmps7
    go_wp2_with fail
    go_quiet (fail)
    clear hA hB hI hw1
    go_wp2_with fail
    refine (Hlk.out _).mono ?_
    rintro e w2 ⟨v, rfl, hv, hb⟩
    have hC : Ctx w w2 p q S G ao cap K fr tu ii nn := Ctx.of Hw.out Hn.out (by rw [World.heap_drewN, W1_size] at hb; exact hb)
    have hvB : w.heap.size ≤ (W1 w q K fr tu ii nn).heap.size := by rw [W1_size]; omega
    have cb := hC.cb
    have x0 := hC.x0
    have x4 := hC.x4
    have hw2 := hC.w55
    have d0 := hw2.st.c0
    have d1 := hw2.st.c1
    have df := hw2.st.fz 1
    obtain ⟨ai, ci, rfl, hri, hsi, hli⟩ := hv
    have HC := Lib.hid hC; clear hC hb
    have Hw2 := Lib.hid hw2; clear hw2
    have Hri := Lib.hid hri; clear hri hsi hli
    go_wp2_with fail
    go_quiet (fail)
    go_wp2_with fail
    have hsn := fun n => take_bad_spec (HC.out.drewN n).net hS hun0 (i : Int)
    have Hsn := Lib.hid hsn; clear hsn
    refine (Hsn.out _).mono ?_
    rintro e w4 ⟨rfl, hb4⟩
    have Hb4 := Lib.hid hb4; clear hb4
    unfold pkt0
    go_wp2_with fail
    go_ret
    exact Hap.sameA Hw.out Hn.out (HC.out.drewN _).below Hb4.out _
  · have hun : decide (A ≤ (S.nodes : Int)) = false := decide_eq_false (by omega)
    have hw1 : IntKind.i64.wrap ((S.nodes : Int) + 2) = (S.nodes : Int) + 2 := IntWalk.i64_in _ (by omega)
    go_enter Try.func7, Try.ntmps7
    go_wp2_with fail
    go_quiet (fail)
    clear hA hB hI hw1
    go_wp2_with fail
    refine (Hlk.out _).mono ?_
    rintro e w2 ⟨v, rfl, hv, hb⟩
    have hC : Ctx w w2 p q S G ao cap K fr tu ii nn := Ctx.of Hw.out Hn.out (by rw [World.heap_drewN, W1_size] at hb; exact hb)
    have hvB : w.heap.size ≤ (W1 w q K fr tu ii nn).heap.size := by rw [W1_size]; omega
    have cb := hC.cb
    have x0 := hC.x0
    have x4 := hC.x4
    have hw2 := hC.w55
    have d0 := hw2.st.c0
    have d1 := hw2.st.c1
    have df := hw2.st.fz 1
    obtain ⟨ai, ci, rfl, hri, hsi, hli⟩ := hv
    have HC := Lib.hid hC; clear hC hb
    have Hw2 := Lib.hid hw2; clear hw2
    have Hri := Lib.hid hri; clear hri hsi hli
    go_wp2_with fail
    go_quiet (fail)
    go_wp2_with fail
    have hsn := fun n => take_bad_spec (HC.out.drewN n).net hS hun0 (i : Int)
    have Hsn := Lib.hid hsn; clear hsn
    refine (Hsn.out _).mono ?_
    rintro e w4 ⟨rfl, hb4⟩
    have Hb4 := Lib.hid hb4; clear hb4
    unfold pkt0
    go_wp2_with fail
    go_ret
    exact Hap.sameA Hw.out Hn.out (HC.out.drewN _).below Hb4.out _
  · have hun : decide (1 ≤ B) = false := decide_eq_false (by omega)
    have hw1 : IntKind.i64.wrap ((S.nodes : Int) + 2) = (S.nodes : Int) + 2 := IntWalk.i64_in _ (by omega)
    go_enter Try.func7, Try.ntmps7
    go_wp2_with fail
    go_quiet (fail)
    clear hA hB hI hw1
    go_wp2_with fail
    refine (Hlk.out _).mono ?_
    rintro e w2 ⟨v, rfl, hv, hb⟩
    have hC : Ctx w w2 p q S G ao cap K fr tu ii nn := Ctx.of Hw.out Hn.out (by rw [World.heap_drewN, W1_size] at hb; exact hb)
    have hvB : w.heap.size ≤ (W1 w q K fr tu ii nn).heap.size := by rw [W1_size]; omega
    have cb := hC.cb
    have x0 := hC.x0
    have x4 := hC.x4
    have hw2 := hC.w55
    have d0 := hw2.st.c0
    have d1 := hw2.st.c1
    have df := hw2.st.fz 1
    obtain ⟨ai, ci, rfl, hri, hsi, hli⟩ := hv
    have HC := Lib.hid hC; clear hC hb
    have Hw2 := Lib.hid hw2; clear hw2
    have Hri := Lib.hid hri; clear hri hsi hli
    go_wp2_with fail
    go_quiet (fail)
    go_wp2_with fail
    have hsn := fun n => take_bad_spec (HC.out.drewN n).net hS hun0 (i : Int)
    have Hsn := Lib.hid hsn; clear hsn
    refine (Hsn.out _).mono ?_
    rintro e w4 ⟨rfl, hb4⟩
    have Hb4 := Lib.hid hb4; clear hb4
    unfold pkt0
    go_wp2_with fail
    go_ret
    exact Hap.sameA Hw.out Hn.out (HC.out.drewN _).below Hb4.out _
  · have hun : decide (B ≤ (S.nodes : Int)) = false := decide_eq_false (by omega)
    have hw1 : IntKind.i64.wrap ((S.nodes : Int) + 2) = (S.nodes : Int) + 2 := IntWalk.i64_in _ (by omega)
    go_enter Try.func7, Try.ntmps7
    go_wp2_with fail
    go_quiet (fail)
    clear hA hB hI hw1
    go_wp2_with fail
    refine (Hlk.out _).mono ?_
    rintro e w2 ⟨v, rfl, hv, hb⟩
    have hC : Ctx w w2 p q S G ao cap K fr tu ii nn := Ctx.of Hw.out Hn.out (by rw [World.heap_drewN, W1_size] at hb; exact hb)
    have hvB : w.heap.size ≤ (W1 w q K fr tu ii nn).heap.size := by rw [W1_size]; omega
    have cb := hC.cb
    have x0 := hC.x0
    have x4 := hC.x4
    have hw2 := hC.w55
    have d0 := hw2.st.c0
    have d1 := hw2.st.c1
    have df := hw2.st.fz 1
    obtain ⟨ai, ci, rfl, hri, hsi, hli⟩ := hv
    have HC := Lib.hid hC; clear hC hb
    have Hw2 := Lib.hid hw2; clear hw2
    have Hri := Lib.hid hri; clear hri hsi hli
    go_wp2_with fail
    go_quiet (fail)
    go_wp2_with fail
    have hsn := fun n => take_bad_spec (HC.out.drewN n).net hS hun0 (i : Int)
    have Hsn := Lib.hid hsn; clear hsn
    refine (Hsn.out _).mono ?_
    rintro e w4 ⟨rfl, hb4⟩
    have Hb4 := Lib.hid hb4; clear hb4
    unfold pkt0
    go_wp2_with fail
    go_ret
    exact Hap.sameA Hw.out Hn.out (HC.out.drewN _).below Hb4.out _

set_option maxRecDepth 100000 in
set_option maxHeartbeats 2000000 in
theorem hap2_E {w : World} {p q : Nat} {S : NS} {G : Nat → Prop} {N : Nat} {ao : Option Addr} {cap : Nat} (hw : W55G w q S ao cap) (hn : NetG w p S G) (hS : Wf S N) (hN : N ≤ 800)
    (K fr tu ii nn num A B : Int) (i : Nat) (hK : K.tmod 9 = 2) (hm0 : 0 ≤ num) (hm1 : num ≤ 40) (hA : fr.tmod ((S.nodes : Int) + 2) = A) (hB : tu.tmod ((S.nodes : Int) + 2) = B) (hI : ii.tmod 4 = (i : Int)) (hf0 : 0 ≤ fr) (hf1 : fr ≤ 255) (ht0 : 0 ≤ tu) (ht1 : tu ≤ 255) (hi0 : 0 ≤ ii) (hi1 : ii ≤ 255) (hn0 : 0 ≤ nn) (hn1 : nn ≤ 255) (hA0 : 0 ≤ A) (hB0 : 0 ≤ B) (hI1 : (i : Int) ≤ 3) (hA1 : A ≤ 6) (hB1 : B ≤ 6)
    (hk : Knows S A B) (hE : (places A B S.msgs 0).length ≤ i) :
    Calls Try.prog 7 #[.pointer (some ⟨q, 0, none⟩), .pointer (some ⟨p, 0, none⟩), .agg #[.int .u8 K, .int .u8 fr, .int .u8 tu, .int .u8 ii, .int .u8 nn], .int .i64 num] w (Hap w p q S S G ao cap) := by
  have hq := hw.st.lt
  have c0 := hw.st.c0
  have hS1 := hS.n1
  have hS2 := hS.n2
  have hlen := hS.len
  have hI0 : (0 : Int) ≤ (i : Int) := by omega
  have hpl : (places A B S.msgs 0).length ≤ N := by rw [places_length]; exact Nat.le_trans (List.length_filter_le _ _) hlen
  have hnz : ((S.nodes : Int) + 2 == 0) = false := by simp; omega
  have hlk := fun n => link_walk q S ao cap A B ((W1 w q K fr tu ii nn).drewN n) ((hw.st.below (W1_below w q K fr tu ii nn)).kept (F := fun _ _ => False) ((Frm.refl _ _).drewN n) (fun _ h => h) (fun _ _ _ _ _ _ h => h)) (by omega)
  have Hlk := Lib.hid hlk; clear hlk
  have Hw := Lib.hid hw; clear hw
  have Hn := Lib.hid hn; clear hn
  have hk0 := hk
  obtain ⟨⟨hk1, hk2⟩, hk3, hk4⟩ := hk
  have hw1 : IntKind.i64.wrap ((S.nodes : Int) + 2) = (S.nodes : Int) + 2 := IntWalk.i64_in _ (by omega)
  go_enter Try.func7, Try.ntmps7
  go_wp2_with fail
  go_quiet (fail)
  clear hA hB hI hw1
  go_wp2_with fail
  refine (Hlk.out _).mono ?_
  rintro e w2 ⟨v, rfl, hv, hb⟩
  have hC : Ctx w w2 p q S G ao cap K fr tu ii nn := Ctx.of Hw.out Hn.out (by rw [World.heap_drewN, W1_size] at hb; exact hb)
  have hvB : w.heap.size ≤ (W1 w q K fr tu ii nn).heap.size := by rw [W1_size]; omega
  have cb := hC.cb
  have x0 := hC.x0
  have x4 := hC.x4
  have hw2 := hC.w55
  have d0 := hw2.st.c0
  have d1 := hw2.st.c1
  have df := hw2.st.fz 1
  obtain ⟨ai, ci, rfl, hri, hsi, hli⟩ := hv
  have HC := Lib.hid hC; clear hC hb
  have Hw2 := Lib.hid hw2; clear hw2
  have Hri := Lib.hid hri; clear hri hsi hli
  go_wp2_with fail
  go_quiet (fail)
  go_wp2_with fail
  have hsn := fun n => take_none_spec (HC.out.drewN n).net hS ⟨⟨hk1, hk2⟩, hk3, hk4⟩ hI0 (Int.ofNat_le.2 hE)
  have Hsn := Lib.hid hsn; clear hsn
  refine (Hsn.out _).mono ?_
  rintro e w4 ⟨rfl, hb4⟩
  have Hb4 := Lib.hid hb4; clear hb4
  unfold pkt0
  go_wp2_with fail
  go_ret
  exact Hap.sameA Hw.out Hn.out (HC.out.drewN _).below Hb4.out _

set_option maxRecDepth 100000 in
set_option maxHeartbeats 2000000 in
theorem hap3_E {w : World} {p q : Nat} {S : NS} {G : Nat → Prop} {N : Nat} {ao : Option Addr} {cap : Nat} (hw : W55G w q S ao cap) (hn : NetG w p S G) (hS : Wf S N) (hN : N ≤ 800)
    (K fr tu ii nn num A B : Int) (i : Nat) (hK : K.tmod 9 = 3) (hm0 : 0 ≤ num) (hm1 : num ≤ 40) (hA : fr.tmod ((S.nodes : Int) + 2) = A) (hB : tu.tmod ((S.nodes : Int) + 2) = B) (hI : ii.tmod 4 = (i : Int)) (hf0 : 0 ≤ fr) (hf1 : fr ≤ 255) (ht0 : 0 ≤ tu) (ht1 : tu ≤ 255) (hi0 : 0 ≤ ii) (hi1 : ii ≤ 255) (hn0 : 0 ≤ nn) (hn1 : nn ≤ 255) (hA0 : 0 ≤ A) (hB0 : 0 ≤ B) (hI1 : (i : Int) ≤ 3) (hA1 : A ≤ 6) (hB1 : B ≤ 6)
    (hk : Knows S A B) (hE : (places A B S.msgs 0).length ≤ i) :
    Calls Try.prog 7 #[.pointer (some ⟨q, 0, none⟩), .pointer (some ⟨p, 0, none⟩), .agg #[.int .u8 K, .int .u8 fr, .int .u8 tu, .int .u8 ii, .int .u8 nn], .int .i64 num] w (Hap w p q S S G ao cap) := by
  have hq := hw.st.lt
  have c0 := hw.st.c0
  have hS1 := hS.n1
  have hS2 := hS.n2
  have hlen := hS.len
  have hI0 : (0 : Int) ≤ (i : Int) := by omega
  have hpl : (places A B S.msgs 0).length ≤ N := by rw [places_length]; exact Nat.le_trans (List.length_filter_le _ _) hlen
  have hnz : ((S.nodes : Int) + 2 == 0) = false := by simp; omega
  have hlk := fun n => link_walk q S ao cap A B ((W1 w q K fr tu ii nn).drewN n) ((hw.st.below (W1_below w q K fr tu ii nn)).kept (F := fun _ _ => False) ((Frm.refl _ _).drewN n) (fun _ h => h) (fun _ _ _ _ _ _ h => h)) (by omega)
  have Hlk := Lib.hid hlk; clear hlk
  have Hw := Lib.hid hw; clear hw
  have Hn := Lib.hid hn; clear hn
  have hk0 := hk
  obtain ⟨⟨hk1, hk2⟩, hk3, hk4⟩ := hk
  have hw1 : IntKind.i64.wrap ((S.nodes : Int) + 2) = (S.nodes : Int) + 2 := IntWalk.i64_in _ (by omega)
  go_enter Try.func7, Try.ntmps7
  go_wp2_with fail
  go_quiet (fail)
  clear hA hB hI hw1
  go_wp2_with fail
  refine (Hlk.out _).mono ?_
  rintro e w2 ⟨v, rfl, hv, hb⟩
  have hC : Ctx w w2 p q S G ao cap K fr tu ii nn := Ctx.of Hw.out Hn.out (by rw [World.heap_drewN, W1_size] at hb; exact hb)
  have hvB : w.heap.size ≤ (W1 w q K fr tu ii nn).heap.size := by rw [W1_size]; omega
  have cb := hC.cb
  have x0 := hC.x0
  have x4 := hC.x4
  have hw2 := hC.w55
  have d0 := hw2.st.c0
  have d1 := hw2.st.c1
  have df := hw2.st.fz 1
  obtain ⟨ai, ci, rfl, hri, hsi, hli⟩ := hv
  have HC := Lib.hid hC; clear hC hb
  have Hw2 := Lib.hid hw2; clear hw2
  have Hri := Lib.hid hri; clear hri hsi hli
  go_wp2_with fail
  go_quiet (fail)
  go_wp2_with fail
  have hsn := fun n => take_none_spec (HC.out.drewN n).net hS ⟨⟨hk1, hk2⟩, hk3, hk4⟩ hI0 (Int.ofNat_le.2 hE)
  have Hsn := Lib.hid hsn; clear hsn
  refine (Hsn.out _).mono ?_
  rintro e w4 ⟨rfl, hb4⟩
  have Hb4 := Lib.hid hb4; clear hb4
  unfold pkt0
  go_wp2_with fail
  go_ret
  exact Hap.sameA Hw.out Hn.out (HC.out.drewN _).below Hb4.out _

end Go.Proofs.Ytcjcccmlpilbbaa
