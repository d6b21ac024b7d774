/- Hap78: lemmas on the way to the law (no condition of their own beyond what each states). -/
import Derived.Test.YtcjcccmlpilbbaaHapJ
namespace Go.Proofs.Ytcjcccmlpilbbaa
open Go.RowKit Go.K55 Go.Maps
set_option linter.unusedVariables false
set_option linter.unusedSimpArgs false

set_option maxRecDepth 100000 in
set_option maxHeartbeats 2000000 in
theorem hap7_U {w : World} {p q : Nat} {S : NS} {G : Nat → Prop} {N : Nat} {ao : Option Addr} {cap : Nat} (hw : W55G w q S ao cap) (hn : NetG w p S G) (hS : Wf S N) (hN : N ≤ 800)
    (K fr tu ii nn num A B : Int) (i : Nat) (hK : K.tmod 9 = 7) (hm0 : 0 ≤ num) (hm1 : num ≤ 40) (hA : fr.tmod ((S.nodes : Int) + 2) = A) (hB : tu.tmod ((S.nodes : Int) + 2) = B) (hI : ii.tmod 4 = (i : Int)) (hf0 : 0 ≤ fr) (hf1 : fr ≤ 255) (ht0 : 0 ≤ tu) (ht1 : tu ≤ 255) (hi0 : 0 ≤ ii) (hi1 : ii ≤ 255) (hn0 : 0 ≤ nn) (hn1 : nn ≤ 255) (hA0 : 0 ≤ A) (hB0 : 0 ≤ B) (hI1 : (i : Int) ≤ 3) (hA1 : A ≤ 6) (hB1 : B ≤ 6)
    (hU : A < 1 ∨ (S.nodes : Int) < A) :
    Calls Try.prog 7 #[.pointer (some ⟨q, 0, none⟩), .pointer (some ⟨p, 0, none⟩), .agg #[.int .u8 K, .int .u8 fr, .int .u8 tu, .int .u8 ii, .int .u8 nn], .int .i64 num] w (Hap w p q S S G ao cap) := by
  have hq := hw.st.lt
  have c0 := hw.st.c0
  have hS1 := hS.n1
  have hS2 := hS.n2
  have hlen := hS.len
  have hI0 : (0 : Int) ≤ (i : Int) := by omega
  have hpl : (places A B S.msgs 0).length ≤ N := by rw [places_length]; exact Nat.le_trans (List.length_filter_le _ _) hlen
  have hnz : ((S.nodes : Int) + 2 == 0) = false := by simp; omega
  have hlk := fun n => link_walk q S ao cap A B ((W1 w q K fr tu ii nn).drewN n) ((hw.st.below (W1_below w q K fr tu ii nn)).kept (F := fun _ _ => False) ((Frm.refl _ _).drewN n) (fun _ h => h) (fun _ _ _ _ _ _ h => h)) (by omega)
  have Hlk := Lib.hid hlk; clear hlk
  have Hw := Lib.hid hw; clear hw
  have Hn := Lib.hid hn; clear hn
  rcases (show A < 1 ∨ (1 ≤ A ∧ (S.nodes : Int) < A) by omega) with hu | ⟨hu1, hu⟩
  · have hun : decide (1 ≤ A) = false := decide_eq_false (by omega)
    have hw1 : IntKind.i64.wrap ((S.nodes : Int) + 2) = (S.nodes : Int) + 2 := IntWalk.i64_in _ (by omega)
    go_enter Try.func7, Try.ntmps7
    go_wp2_with fail
    go_quiet (fail)
    clear hA hB hI hw1
    go_wp2_with fail
    refine (Hlk.out _).mono ?_
    rintro e w2 ⟨v, rfl, hv, hb⟩
    have hC : Ctx w w2 p q S G ao cap K fr tu ii nn := Ctx.of Hw.out Hn.out (by rw [World.heap_drewN, W1_size] at hb; exact hb)
    have hvB : w.heap.size ≤ (W1 w q K fr tu ii nn).heap.size := by rw [W1_size]; omega
    have cb := hC.cb
    have x0 := hC.x0
    have x4 := hC.x4
    have hw2 := hC.w55
    have d0 := hw2.st.c0
    have d1 := hw2.st.c1
    have df := hw2.st.fz 1
    obtain ⟨ai, ci, rfl, hri, hsi, hli⟩ := hv
    have HC := Lib.hid hC; clear hC hb
    have Hw2 := Lib.hid hw2; clear hw2
    have Hri := Lib.hid hri; clear hri hsi hli
    go_wp2_with fail
    have hsn := tick_bad_spec HC.out.net hS (a := A) (by omega)
    have Hsn := Lib.hid hsn; clear hsn
    refine Hsn.out.mono ?_
    rintro e w4 ⟨rfl, rfl⟩
    go_wp2_with fail
    go_ret
    exact Hap.same Hw.out Hn.out HC.out.below
  · have hun : decide (A ≤ (S.nodes : Int)) = false := decide_eq_false (by omega)
    have hw1 : IntKind.i64.wrap ((S.nodes : Int) + 2) = (S.nodes : Int) + 2 := IntWalk.i64_in _ (by omega)
    go_enter Try.func7, Try.ntmps7
    go_wp2_with fail
    go_quiet (fail)
    clear hA hB hI hw1
    go_wp2_with fail
    refine (Hlk.out _).mono ?_
    rintro e w2 ⟨v, rfl, hv, hb⟩
    have hC : Ctx w w2 p q S G ao cap K fr tu ii nn := Ctx.of Hw.out Hn.out (by rw [World.heap_drewN, W1_size] at hb; exact hb)
    have hvB : w.heap.size ≤ (W1 w q K fr tu ii nn).heap.size := by rw [W1_size]; omega
    have cb := hC.cb
    have x0 := hC.x0
    have x4 := hC.x4
    have hw2 := hC.w55
    have d0 := hw2.st.c0
    have d1 := hw2.st.c1
    have df := hw2.st.fz 1
    obtain ⟨ai, ci, rfl, hri, hsi, hli⟩ := hv
    have HC := Lib.hid hC; clear hC hb
    have Hw2 := Lib.hid hw2; clear hw2
    have Hri := Lib.hid hri; clear hri hsi hli
    go_wp2_with fail
    have hsn := tick_bad_spec HC.out.net hS (a := A) (by omega)
    have Hsn := Lib.hid hsn; clear hsn
    refine Hsn.out.mono ?_
    rintro e w4 ⟨rfl, rfl⟩
    go_wp2_with fail
    go_ret
    exact Hap.same Hw.out Hn.out HC.out.below

set_option maxRecDepth 100000 in
set_option maxHeartbeats 2000000 in
theorem hap7_K {w : World} {p q : Nat} {S : NS} {G : Nat → Prop} {N : Nat} {ao : Option Addr} {cap : Nat} (hw : W55G w q S ao cap) (hn : NetG w p S G) (hS : Wf S N) (hN : N ≤ 800)
    (K fr tu ii nn num A B : Int) (i : Nat) (hK : K.tmod 9 = 7) (hm0 : 0 ≤ num) (hm1 : num ≤ 40) (hA : fr.tmod ((S.nodes : Int) + 2) = A) (hB : tu.tmod ((S.nodes : Int) + 2) = B) (hI : ii.tmod 4 = (i : Int)) (hf0 : 0 ≤ fr) (hf1 : fr ≤ 255) (ht0 : 0 ≤ tu) (ht1 : tu ≤ 255) (hi0 : 0 ≤ ii) (hi1 : ii ≤ 255) (hn0 : 0 ≤ nn) (hn1 : nn ≤ 255) (hA0 : 0 ≤ A) (hB0 : 0 ≤ B) (hI1 : (i : Int) ≤ 3) (hA1 : A ≤ 6) (hB1 : B ≤ 6)
    (hk1 : 1 ≤ A) (hk2 : A ≤ (S.nodes : Int)) :
    Calls Try.prog 7 #[.pointer (some ⟨q, 0, none⟩), .pointer (some ⟨p, 0, none⟩), .agg #[.int .u8 K, .int .u8 fr, .int .u8 tu, .int .u8 ii, .int .u8 nn], .int .i64 num] w (Hap w p q S (S.tick A.toNat) G ao cap) := by
  have hq := hw.st.lt
  have c0 := hw.st.c0
  have hS1 := hS.n1
  have hS2 := hS.n2
  have hlen := hS.len
  have hI0 : (0 : Int) ≤ (i : Int) := by omega
  have hpl : (places A B S.msgs 0).length ≤ N := by rw [places_length]; exact Nat.le_trans (List.length_filter_le _ _) hlen
  have hnz : ((S.nodes : Int) + 2 == 0) = false := by simp; omega
  have hlk := fun n => link_walk q S ao cap A B ((W1 w q K fr tu ii nn).drewN n) ((hw.st.below (W1_below w q K fr tu ii nn)).kept (F := fun _ _ => False) ((Frm.refl _ _).drewN n) (fun _ h => h) (fun _ _ _ _ _ _ h => h)) (by omega)
  have Hlk := Lib.hid hlk; clear hlk
  have Hw := Lib.hid hw; clear hw
  have Hn := Lib.hid hn; clear hn
  rcases (show B < 1 ∨ (1 ≤ B ∧ (S.nodes : Int) < B) ∨ (1 ≤ B ∧ B ≤ (S.nodes : Int)) by omega) with hb | ⟨hb1, hb⟩ | ⟨hk3, hk4⟩
  · have hun : decide (1 ≤ B) = false := decide_eq_false (by omega)
    have hw1 : IntKind.i64.wrap ((S.nodes : Int) + 2) = (S.nodes : Int) + 2 := IntWalk.i64_in _ (by omega)
    go_enter Try.func7, Try.ntmps7
    go_wp2_with fail
    go_quiet (fail)
    clear hA hB hI hw1
    go_wp2_with fail
    refine (Hlk.out _).mono ?_
    rintro e w2 ⟨v, rfl, hv, hb⟩
    have hC : Ctx w w2 p q S G ao cap K fr tu ii nn := Ctx.of Hw.out Hn.out (by rw [World.heap_drewN, W1_size] at hb; exact hb)
    have hvB : w.heap.size ≤ (W1 w q K fr tu ii nn).heap.size := by rw [W1_size]; omega
    have cb := hC.cb
    have x0 := hC.x0
    have x4 := hC.x4
    have hw2 := hC.w55
    have d0 := hw2.st.c0
    have d1 := hw2.st.c1
    have df := hw2.st.fz 1
    obtain ⟨ai, ci, rfl, hri, hsi, hli⟩ := hv
    have HC := Lib.hid hC; clear hC hb
    have Hw2 := Lib.hid hw2; clear hw2
    have Hri := Lib.hid hri; clear hri hsi hli
    go_wp2_with fail
    have hsn := tick_spec HC.out.net hS hk1 hk2
    have Hsn := Lib.hid hsn; clear hsn
    refine Hsn.out.mono ?_
    rintro e w4 ⟨rfl, ht⟩
    obtain ⟨G', g1, g2, g3⟩ := id ht
    have hw4 := W55G.turned HC.out.w55 HC.out.net g3
    have cb4 := Below.turn HC.out.net Hn.out.glt g3 (Nat.le_refl _) HC.out.cb
    have x4 := hw4.st.tk A.toNat (by omega)
    have d4 := hw4.st.c0
    have f4 := hw4.st.fz (10 + A.toNat)
    have hbq : w.heap.size ≠ q := by omega
    have hqb : q ≠ w.heap.size := by omega
    clear hw4 g1 g2 g3
    have Ht := Lib.hid ht; clear ht
    go_wp2_with fail
    go_region
    go_wp2_with fail
    go_ret
    refine Hap.of3 Hw.out Hn.out HC.out.below Ht.out (fun h => (h.tick (by omega)).drewN 1) ?_ rfl
    exact (Frm.setCell1 (F := fun b _ => b = q) _ _ (Or.inl rfl)).drew
  · have hun : decide (B ≤ (S.nodes : Int)) = false := decide_eq_false (by omega)
    have hw1 : IntKind.i64.wrap ((S.nodes : Int) + 2) = (S.nodes : Int) + 2 := IntWalk.i64_in _ (by omega)
    go_enter Try.func7, Try.ntmps7
    go_wp2_with fail
    go_quiet (fail)
    clear hA hB hI hw1
    go_wp2_with fail
    refine (Hlk.out _).mono ?_
    rintro e w2 ⟨v, rfl, hv, hb⟩
    have hC : Ctx w w2 p q S G ao cap K fr tu ii nn := Ctx.of Hw.out Hn.out (by rw [World.heap_drewN, W1_size] at hb; exact hb)
    have hvB : w.heap.size ≤ (W1 w q K fr tu ii nn).heap.size := by rw [W1_size]; omega
    have cb := hC.cb
    have x0 := hC.x0
    have x4 := hC.x4
    have hw2 := hC.w55
    have d0 := hw2.st.c0
    have d1 := hw2.st.c1
    have df := hw2.st.fz 1
    obtain ⟨ai, ci, rfl, hri, hsi, hli⟩ := hv
    have HC := Lib.hid hC; clear hC hb
    have Hw2 := Lib.hid hw2; clear hw2
    have Hri := Lib.hid hri; clear hri hsi hli
    go_wp2_with fail
    have hsn := tick_spec HC.out.net hS hk1 hk2
    have Hsn := Lib.hid hsn; clear hsn
    refine Hsn.out.mono ?_
    rintro e w4 ⟨rfl, ht⟩
    obtain ⟨G', g1, g2, g3⟩ := id ht
    have hw4 := W55G.turned HC.out.w55 HC.out.net g3
    have cb4 := Below.turn HC.out.net Hn.out.glt g3 (Nat.le_refl _) HC.out.cb
    have x4 := hw4.st.tk A.toNat (by omega)
    have d4 := hw4.st.c0
    have f4 := hw4.st.fz (10 + A.toNat)
    have hbq : w.heap.size ≠ q := by omega
    have hqb : q ≠ w.heap.size := by omega
    clear hw4 g1 g2 g3
    have Ht := Lib.hid ht; clear ht
    go_wp2_with fail
    go_region
    go_wp2_with fail
    go_ret
    refine Hap.of3 Hw.out Hn.out HC.out.below Ht.out (fun h => (h.tick (by omega)).drewN 1) ?_ rfl
    exact (Frm.setCell1 (F := fun b _ => b = q) _ _ (Or.inl rfl)).drew
  · skip
    by_cases hE : (places A B S.msgs 0).length ≤ i
    · skip
      have hw1 : IntKind.i64.wrap ((S.nodes : Int) + 2) = (S.nodes : Int) + 2 := IntWalk.i64_in _ (by omega)
      go_enter Try.func7, Try.ntmps7
      go_wp2_with fail
      go_quiet (fail)
      clear hA hB hI hw1
      go_wp2_with fail
      refine (Hlk.out _).mono ?_
      rintro e w2 ⟨v, rfl, hv, hb⟩
      have hC : Ctx w w2 p q S G ao cap K fr tu ii nn := Ctx.of Hw.out Hn.out (by rw [World.heap_drewN, W1_size] at hb; exact hb)
      have hvB : w.heap.size ≤ (W1 w q K fr tu ii nn).heap.size := by rw [W1_size]; omega
      have cb := hC.cb
      have x0 := hC.x0
      have x4 := hC.x4
      have hw2 := hC.w55
      have d0 := hw2.st.c0
      have d1 := hw2.st.c1
      have df := hw2.st.fz 1
      obtain ⟨ai, ci, rfl, hri, hsi, hli⟩ := hv
      have HC := Lib.hid hC; clear hC hb
      have Hw2 := Lib.hid hw2; clear hw2
      have Hri := Lib.hid hri; clear hri hsi hli
      go_wp2_with fail
      have hsn := tick_spec HC.out.net hS hk1 hk2
      have Hsn := Lib.hid hsn; clear hsn
      refine Hsn.out.mono ?_
      rintro e w4 ⟨rfl, ht⟩
      obtain ⟨G', g1, g2, g3⟩ := id ht
      have hw4 := W55G.turned HC.out.w55 HC.out.net g3
      have cb4 := Below.turn HC.out.net Hn.out.glt g3 (Nat.le_refl _) HC.out.cb
      have x4 := hw4.st.tk A.toNat (by omega)
      have d4 := hw4.st.c0
      have f4 := hw4.st.fz (10 + A.toNat)
      have hbq : w.heap.size ≠ q := by omega
      have hqb : q ≠ w.heap.size := by omega
      clear hw4 g1 g2 g3
      have Ht := Lib.hid ht; clear ht
      go_wp2_with fail
      go_region
      go_wp2_with fail
      go_ret
      refine Hap.of3 Hw.out Hn.out HC.out.below Ht.out (fun h => (h.tick (by omega)).drewN 1) ?_ rfl
      exact (Frm.setCell1 (F := fun b _ => b = q) _ _ (Or.inl rfl)).drew
    · have hE' : decide ((places A B S.msgs 0).length ≤ i) = false := decide_eq_false hE
      have hE'' : decide (((places A B S.msgs 0).length : Int) ≤ (i : Int)) = false := decide_eq_false (by omega)
      have hw1 : IntKind.i64.wrap ((S.nodes : Int) + 2) = (S.nodes : Int) + 2 := IntWalk.i64_in _ (by omega)
      go_enter Try.func7, Try.ntmps7
      go_wp2_with fail
      go_quiet (fail)
      clear hA hB hI hw1
      go_wp2_with fail
      refine (Hlk.out _).mono ?_
      rintro e w2 ⟨v, rfl, hv, hb⟩
      have hC : Ctx w w2 p q S G ao cap K fr tu ii nn := Ctx.of Hw.out Hn.out (by rw [World.heap_drewN, W1_size] at hb; exact hb)
      have hvB : w.heap.size ≤ (W1 w q K fr tu ii nn).heap.size := by rw [W1_size]; omega
      have cb := hC.cb
      have x0 := hC.x0
      have x4 := hC.x4
      have hw2 := hC.w55
      have d0 := hw2.st.c0
      have d1 := hw2.st.c1
      have df := hw2.st.fz 1
      obtain ⟨ai, ci, rfl, hri, hsi, hli⟩ := hv
      have HC := Lib.hid hC; clear hC hb
      have Hw2 := Lib.hid hw2; clear hw2
      have Hri := Lib.hid hri; clear hri hsi hli
      go_wp2_with fail
      have hsn := tick_spec HC.out.net hS hk1 hk2
      have Hsn := Lib.hid hsn; clear hsn
      refine Hsn.out.mono ?_
      rintro e w4 ⟨rfl, ht⟩
      obtain ⟨G', g1, g2, g3⟩ := id ht
      have hw4 := W55G.turned HC.out.w55 HC.out.net g3
      have cb4 := Below.turn HC.out.net Hn.out.glt g3 (Nat.le_refl _) HC.out.cb
      have x4 := hw4.st.tk A.toNat (by omega)
      have d4 := hw4.st.c0
      have f4 := hw4.st.fz (10 + A.toNat)
      have hbq : w.heap.size ≠ q := by omega
      have hqb : q ≠ w.heap.size := by omega
      clear hw4 g1 g2 g3
      have Ht := Lib.hid ht; clear ht
      go_wp2_with fail
      go_region
      go_wp2_with fail
      go_ret
      refine Hap.of3 Hw.out Hn.out HC.out.below Ht.out (fun h => (h.tick (by omega)).drewN 1) ?_ rfl
      exact (Frm.setCell1 (F := fun b _ => b = q) _ _ (Or.inl rfl)).drew

set_option maxRecDepth 100000 in
set_option maxHeartbeats 2000000 in
theorem hap8_U {w : World} {p q : Nat} {S : NS} {G : Nat → Prop} {N : Nat} {ao : Option Addr} {cap : Nat} (hw : W55G w q S ao cap) (hn : NetG w p S G) (hS : Wf S N) (hN : N ≤ 800)
    (K fr tu ii nn num A B : Int) (i : Nat) (hK : K.tmod 9 = 8) (hm0 : 0 ≤ num) (hm1 : num ≤ 40) (hA : fr.tmod ((S.nodes : Int) + 2) = A) (hB : tu.tmod ((S.nodes : Int) + 2) = B) (hI : ii.tmod 4 = (i : Int)) (hf0 : 0 ≤ fr) (hf1 : fr ≤ 255) (ht0 : 0 ≤ tu) (ht1 : tu ≤ 255) (hi0 : 0 ≤ ii) (hi1 : ii ≤ 255) (hn0 : 0 ≤ nn) (hn1 : nn ≤ 255) (hA0 : 0 ≤ A) (hB0 : 0 ≤ B) (hI1 : (i : Int) ≤ 3) (hA1 : A ≤ 6) (hB1 : B ≤ 6)
    (hU : A < 1 ∨ (S.nodes : Int) < A) :
    Calls Try.prog 7 #[.pointer (some ⟨q, 0, none⟩), .pointer (some ⟨p, 0, none⟩), .agg #[.int .u8 K, .int .u8 fr, .int .u8 tu, .int .u8 ii, .int .u8 nn], .int .i64 num] w (Hap w p q S S G ao cap) := by
  have hq := hw.st.lt
  have c0 := hw.st.c0
  have hS1 := hS.n1
  have hS2 := hS.n2
  have hlen := hS.len
  have hI0 : (0 : Int) ≤ (i : Int) := by omega
  have hpl : (places A B S.msgs 0).length ≤ N := by rw [places_length]; exact Nat.le_trans (List.length_filter_le _ _) hlen
  have hnz : ((S.nodes : Int) + 2 == 0) = false := by simp; omega
  have hlk := fun n => link_walk q S ao cap A B ((W1 w q K fr tu ii nn).drewN n) ((hw.st.below (W1_below w q K fr tu ii nn)).kept (F := fun _ _ => False) ((Frm.refl _ _).drewN n) (fun _ h => h) (fun _ _ _ _ _ _ h => h)) (by omega)
  have Hlk := Lib.hid hlk; clear hlk
  have Hw := Lib.hid hw; clear hw
  have Hn := Lib.hid hn; clear hn
  rcases (show A < 1 ∨ (1 ≤ A ∧ (S.nodes : Int) < A) by omega) with hu | ⟨hu1, hu⟩
  · have hun : decide (1 ≤ A) = false := decide_eq_false (by omega)
    have hw1 : IntKind.i64.wrap ((S.nodes : Int) + 2) = (S.nodes : Int) + 2 := IntWalk.i64_in _ (by omega)
    go_enter Try.func7, Try.ntmps7
    go_wp2_with fail
    go_quiet (fail)
    clear hA hB hI hw1
    go_wp2_with fail
    refine (Hlk.out _).mono ?_
    rintro e w2 ⟨v, rfl, hv, hb⟩
    have hC : Ctx w w2 p q S G ao cap K fr tu ii nn := Ctx.of Hw.out Hn.out (by rw [World.heap_drewN, W1_size] at hb; exact hb)
    have hvB : w.heap.size ≤ (W1 w q K fr tu ii nn).heap.size := by rw [W1_size]; omega
    have cb := hC.cb
    have x0 := hC.x0
    have x4 := hC.x4
    have hw2 := hC.w55
    have d0 := hw2.st.c0
    have d1 := hw2.st.c1
    have df := hw2.st.fz 1
    obtain ⟨ai, ci, rfl, hri, hsi, hli⟩ := hv
    have HC := Lib.hid hC; clear hC hb
    have Hw2 := Lib.hid hw2; clear hw2
    have Hri := Lib.hid hri; clear hri hsi hli
    go_wp2_with fail
    have hsn := draw_bad_spec HC.out.net hS (a := A) (nn - 2) (by omega)
    have Hsn := Lib.hid hsn; clear hsn
    refine Hsn.out.mono ?_
    rintro e w4 ⟨rfl, rfl⟩
    go_wp2_with fail
    go_ret
    exact Hap.same Hw.out Hn.out HC.out.below
  · have hun : decide (A ≤ (S.nodes : Int)) = false := decide_eq_false (by omega)
    have hw1 : IntKind.i64.wrap ((S.nodes : Int) + 2) = (S.nodes : Int) + 2 := IntWalk.i64_in _ (by omega)
    go_enter Try.func7, Try.ntmps7
    go_wp2_with fail
    go_quiet (fail)
    clear hA hB hI hw1
    go_wp2_with fail
    refine (Hlk.out _).mono ?_
    rintro e w2 ⟨v, rfl, hv, hb⟩
    have hC : Ctx w w2 p q S G ao cap K fr tu ii nn := Ctx.of Hw.out Hn.out (by rw [World.heap_drewN, W1_size] at hb; exact hb)
    have hvB : w.heap.size ≤ (W1 w q K fr tu ii nn).heap.size := by rw [W1_size]; omega
    have cb := hC.cb
    have x0 := hC.x0
    have x4 := hC.x4
    have hw2 := hC.w55
    have d0 := hw2.st.c0
    have d1 := hw2.st.c1
    have df := hw2.st.fz 1
    obtain ⟨ai, ci, rfl, hri, hsi, hli⟩ := hv
    have HC := Lib.hid hC; clear hC hb
    have Hw2 := Lib.hid hw2; clear hw2
    have Hri := Lib.hid hri; clear hri hsi hli
    go_wp2_with fail
    have hsn := draw_bad_spec HC.out.net hS (a := A) (nn - 2) (by omega)
    have Hsn := Lib.hid hsn; clear hsn
    refine Hsn.out.mono ?_
    rintro e w4 ⟨rfl, rfl⟩
    go_wp2_with fail
    go_ret
    exact Hap.same Hw.out Hn.out HC.out.below

set_option maxRecDepth 100000 in
set_option maxHeartbeats 2000000 in
theorem hap8_L {w : World} {p q : Nat} {S : NS} {G : Nat → Prop} {N : Nat} {ao : Option Addr} {cap : Nat} (hw : W55G w q S ao cap) (hn : NetG w p S G) (hS : Wf S N) (hN : N ≤ 800)
    (K fr tu ii nn num A B : Int) (i : Nat) (hK : K.tmod 9 = 8) (hm0 : 0 ≤ num) (hm1 : num ≤ 40) (hA : fr.tmod ((S.nodes : Int) + 2) = A) (hB : tu.tmod ((S.nodes : Int) + 2) = B) (hI : ii.tmod 4 = (i : Int)) (hf0 : 0 ≤ fr) (hf1 : fr ≤ 255) (ht0 : 0 ≤ tu) (ht1 : tu ≤ 255) (hi0 : 0 ≤ ii) (hi1 : ii ≤ 255) (hn0 : 0 ≤ nn) (hn1 : nn ≤ 255) (hA0 : 0 ≤ A) (hB0 : 0 ≤ B) (hI1 : (i : Int) ≤ 3) (hA1 : A ≤ 6) (hB1 : B ≤ 6)
    (hk1 : 1 ≤ A) (hk2 : A ≤ (S.nodes : Int)) (hl : nn < 3) :
    Calls Try.prog 7 #[.pointer (some ⟨q, 0, none⟩), .pointer (some ⟨p, 0, none⟩), .agg #[.int .u8 K, .int .u8 fr, .int .u8 tu, .int .u8 ii, .int .u8 nn], .int .i64 num] w (Hap w p q S S G ao cap) := by
  have hq := hw.st.lt
  have c0 := hw.st.c0
  have hS1 := hS.n1
  have hS2 := hS.n2
  have hlen := hS.len
  have hI0 : (0 : Int) ≤ (i : Int) := by omega
  have hpl : (places A B S.msgs 0).length ≤ N := by rw [places_length]; exact Nat.le_trans (List.length_filter_le _ _) hlen
  have hnz : ((S.nodes : Int) + 2 == 0) = false := by simp; omega
  have hlk := fun n => link_walk q S ao cap A B ((W1 w q K fr tu ii nn).drewN n) ((hw.st.below (W1_below w q K fr tu ii nn)).kept (F := fun _ _ => False) ((Frm.refl _ _).drewN n) (fun _ h => h) (fun _ _ _ _ _ _ h => h)) (by omega)
  have Hlk := Lib.hid hlk; clear hlk
  have Hw := Lib.hid hw; clear hw
  have Hn := Lib.hid hn; clear hn
  have hl1 : nn - 2 < 1 := by omega
  have hl2 : decide (nn - 2 < 1) = true := decide_eq_true hl1
  rcases (show B < 1 ∨ (1 ≤ B ∧ (S.nodes : Int) < B) ∨ (1 ≤ B ∧ B ≤ (S.nodes : Int)) by omega) with hb | ⟨hb1, hb⟩ | ⟨hk3, hk4⟩
  · have hun : decide (1 ≤ B) = false := decide_eq_false (by omega)
    have hw1 : IntKind.i64.wrap ((S.nodes : Int) + 2) = (S.nodes : Int) + 2 := IntWalk.i64_in _ (by omega)
    go_enter Try.func7, Try.ntmps7
    go_wp2_with fail
    go_quiet (fail)
    clear hA hB hI hw1
    go_wp2_with fail
    refine (Hlk.out _).mono ?_
    rintro e w2 ⟨v, rfl, hv, hb⟩
    have hC : Ctx w w2 p q S G ao cap K fr tu ii nn := Ctx.of Hw.out Hn.out (by rw [World.heap_drewN, W1_size] at hb; exact hb)
    have hvB : w.heap.size ≤ (W1 w q K fr tu ii nn).heap.size := by rw [W1_size]; omega
    have cb := hC.cb
    have x0 := hC.x0
    have x4 := hC.x4
    have hw2 := hC.w55
    have d0 := hw2.st.c0
    have d1 := hw2.st.c1
    have df := hw2.st.fz 1
    obtain ⟨ai, ci, rfl, hri, hsi, hli⟩ := hv
    have HC := Lib.hid hC; clear hC hb
    have Hw2 := Lib.hid hw2; clear hw2
    have Hri := Lib.hid hri; clear hri hsi hli
    go_wp2_with fail
    have hsn := draw_low_spec HC.out.net hS hk1 hk2 hl1
    have Hsn := Lib.hid hsn; clear hsn
    refine Hsn.out.mono ?_
    rintro e w4 ⟨rfl, rfl⟩
    go_wp2_with fail
    go_ret
    exact Hap.same Hw.out Hn.out HC.out.below
  · have hun : decide (B ≤ (S.nodes : Int)) = false := decide_eq_false (by omega)
    have hw1 : IntKind.i64.wrap ((S.nodes : Int) + 2) = (S.nodes : Int) + 2 := IntWalk.i64_in _ (by omega)
    go_enter Try.func7, Try.ntmps7
    go_wp2_with fail
    go_quiet (fail)
    clear hA hB hI hw1
    go_wp2_with fail
    refine (Hlk.out _).mono ?_
    rintro e w2 ⟨v, rfl, hv, hb⟩
    have hC : Ctx w w2 p q S G ao cap K fr tu ii nn := Ctx.of Hw.out Hn.out (by rw [World.heap_drewN, W1_size] at hb; exact hb)
    have hvB : w.heap.size ≤ (W1 w q K fr tu ii nn).heap.size := by rw [W1_size]; omega
    have cb := hC.cb
    have x0 := hC.x0
    have x4 := hC.x4
    have hw2 := hC.w55
    have d0 := hw2.st.c0
    have d1 := hw2.st.c1
    have df := hw2.st.fz 1
    obtain ⟨ai, ci, rfl, hri, hsi, hli⟩ := hv
    have HC := Lib.hid hC; clear hC hb
    have Hw2 := Lib.hid hw2; clear hw2
    have Hri := Lib.hid hri; clear hri hsi hli
    go_wp2_with fail
    have hsn := draw_low_spec HC.out.net hS hk1 hk2 hl1
    have Hsn := Lib.hid hsn; clear hsn
    refine Hsn.out.mono ?_
    rintro e w4 ⟨rfl, rfl⟩
    go_wp2_with fail
    go_ret
    exact Hap.same Hw.out Hn.out HC.out.below
  · skip
    by_cases hE : (places A B S.msgs 0).length ≤ i
    · skip
      have hw1 : IntKind.i64.wrap ((S.nodes : Int) + 2) = (S.nodes : Int) + 2 := IntWalk.i64_in _ (by omega)
      go_enter Try.func7, Try.ntmps7
      go_wp2_with fail
      go_quiet (fail)
      clear hA hB hI hw1
      go_wp2_with fail
      refine (Hlk.out _).mono ?_
      rintro e w2 ⟨v, rfl, hv, hb⟩
      have hC : Ctx w w2 p q S G ao cap K fr tu ii nn := Ctx.of Hw.out Hn.out (by rw [World.heap_drewN, W1_size] at hb; exact hb)
      have hvB : w.heap.size ≤ (W1 w q K fr tu ii nn).heap.size := by rw [W1_size]; omega
      have cb := hC.cb
      have x0 := hC.x0
      have x4 := hC.x4
      have hw2 := hC.w55
      have d0 := hw2.st.c0
      have d1 := hw2.st.c1
      have df := hw2.st.fz 1
      obtain ⟨ai, ci, rfl, hri, hsi, hli⟩ := hv
      have HC := Lib.hid hC; clear hC hb
      have Hw2 := Lib.hid hw2; clear hw2
      have Hri := Lib.hid hri; clear hri hsi hli
      go_wp2_with fail
      have hsn := draw_low_spec HC.out.net hS hk1 hk2 hl1
      have Hsn := Lib.hid hsn; clear hsn
      refine Hsn.out.mono ?_
      rintro e w4 ⟨rfl, rfl⟩
      go_wp2_with fail
      go_ret
      exact Hap.same Hw.out Hn.out HC.out.below
    · have hE' : decide ((places A B S.msgs 0).length ≤ i) = false := decide_eq_false hE
      have hE'' : decide (((places A B S.msgs 0).length : Int) ≤ (i : Int)) = false := decide_eq_false (by omega)
      have hw1 : IntKind.i64.wrap ((S.nodes : Int) + 2) = (S.nodes : Int) + 2 := IntWalk.i64_in _ (by omega)
      go_enter Try.func7, Try.ntmps7
      go_wp2_with fail
      go_quiet (fail)
      clear hA hB hI hw1
      go_wp2_with fail
      refine (Hlk.out _).mono ?_
      rintro e w2 ⟨v, rfl, hv, hb⟩
      have hC : Ctx w w2 p q S G ao cap K fr tu ii nn := Ctx.of Hw.out Hn.out (by rw [World.heap_drewN, W1_size] at hb; exact hb)
      have hvB : w.heap.size ≤ (W1 w q K fr tu ii nn).heap.size := by rw [W1_size]; omega
      have cb := hC.cb
      have x0 := hC.x0
      have x4 := hC.x4
      have hw2 := hC.w55
      have d0 := hw2.st.c0
      have d1 := hw2.st.c1
      have df := hw2.st.fz 1
      obtain ⟨ai, ci, rfl, hri, hsi, hli⟩ := hv
      have HC := Lib.hid hC; clear hC hb
      have Hw2 := Lib.hid hw2; clear hw2
      have Hri := Lib.hid hri; clear hri hsi hli
      go_wp2_with fail
      have hsn := draw_low_spec HC.out.net hS hk1 hk2 hl1
      have Hsn := Lib.hid hsn; clear hsn
      refine Hsn.out.mono ?_
      rintro e w4 ⟨rfl, rfl⟩
      go_wp2_with fail
      go_ret
      exact Hap.same Hw.out Hn.out HC.out.below

set_option maxRecDepth 100000 in
set_option maxHeartbeats 2000000 in
theorem hap8_K {w : World} {p q : Nat} {S : NS} {G : Nat → Prop} {N : Nat} {ao : Option Addr} {cap : Nat} (hw : W55G w q S ao cap) (hn : NetG w p S G) (hS : Wf S N) (hN : N ≤ 800)
    (K fr tu ii nn num A B : Int) (i : Nat) (hK : K.tmod 9 = 8) (hm0 : 0 ≤ num) (hm1 : num ≤ 40) (hA : fr.tmod ((S.nodes : Int) + 2) = A) (hB : tu.tmod ((S.nodes : Int) + 2) = B) (hI : ii.tmod 4 = (i : Int)) (hf0 : 0 ≤ fr) (hf1 : fr ≤ 255) (ht0 : 0 ≤ tu) (ht1 : tu ≤ 255) (hi0 : 0 ≤ ii) (hi1 : ii ≤ 255) (hn0 : 0 ≤ nn) (hn1 : nn ≤ 255) (hA0 : 0 ≤ A) (hB0 : 0 ≤ B) (hI1 : (i : Int) ≤ 3) (hA1 : A ≤ 6) (hB1 : B ≤ 6)
    (hk1 : 1 ≤ A) (hk2 : A ≤ (S.nodes : Int)) (hl : 3 ≤ nn) :
    Calls Try.prog 7 #[.pointer (some ⟨q, 0, none⟩), .pointer (some ⟨p, 0, none⟩), .agg #[.int .u8 K, .int .u8 fr, .int .u8 tu, .int .u8 ii, .int .u8 nn], .int .i64 num] w (Hap w p q S (S.draw A.toNat) G ao cap) := by
  have hq := hw.st.lt
  have c0 := hw.st.c0
  have hS1 := hS.n1
  have hS2 := hS.n2
  have hlen := hS.len
  have hI0 : (0 : Int) ≤ (i : Int) := by omega
  have hpl : (places A B S.msgs 0).length ≤ N := by rw [places_length]; exact Nat.le_trans (List.length_filter_le _ _) hlen
  have hnz : ((S.nodes : Int) + 2 == 0) = false := by simp; omega
  have hlk := fun n => link_walk q S ao cap A B ((W1 w q K fr tu ii nn).drewN n) ((hw.st.below (W1_below w q K fr tu ii nn)).kept (F := fun _ _ => False) ((Frm.refl _ _).drewN n) (fun _ h => h) (fun _ _ _ _ _ _ h => h)) (by omega)
  have Hlk := Lib.hid hlk; clear hlk
  have Hw := Lib.hid hw; clear hw
  have Hn := Lib.hid hn; clear hn
  have hl1 : 1 ≤ nn - 2 := by omega
  have hl2 : decide (nn - 2 < 1) = false := decide_eq_false (by omega)
  rcases (show B < 1 ∨ (1 ≤ B ∧ (S.nodes : Int) < B) ∨ (1 ≤ B ∧ B ≤ (S.nodes : Int)) by omega) with hb | ⟨hb1, hb⟩ | ⟨hk3, hk4⟩
  · have hun : decide (1 ≤ B) = false := decide_eq_false (by omega)
    have hw1 : IntKind.i64.wrap ((S.nodes : Int) + 2) = (S.nodes : Int) + 2 := IntWalk.i64_in _ (by omega)
    go_enter Try.func7, Try.ntmps7
    go_wp2_with fail
    go_quiet (fail)
    clear hA hB hI hw1
    go_wp2_with fail
    refine (Hlk.out _).mono ?_
    rintro e w2 ⟨v, rfl, hv, hb⟩
    have hC : Ctx w w2 p q S G ao cap K fr tu ii nn := Ctx.of Hw.out Hn.out (by rw [World.heap_drewN, W1_size] at hb; exact hb)
    have hvB : w.heap.size ≤ (W1 w q K fr tu ii nn).heap.size := by rw [W1_size]; omega
    have cb := hC.cb
    have x0 := hC.x0
    have x4 := hC.x4
    have hw2 := hC.w55
    have d0 := hw2.st.c0
    have d1 := hw2.st.c1
    have df := hw2.st.fz 1
    obtain ⟨ai, ci, rfl, hri, hsi, hli⟩ := hv
    have HC := Lib.hid hC; clear hC hb
    have Hw2 := Lib.hid hw2; clear hw2
    have Hri := Lib.hid hri; clear hri hsi hli
    go_wp2_with fail
    have hsn := draw_spec HC.out.net hS hk1 hk2 hl1 (by omega)
    have Hsn := Lib.hid hsn; clear hsn
    refine Hsn.out.mono ?_
    rintro e w4 ⟨rfl, ht⟩
    obtain ⟨G', g1, g2, g3⟩ := id ht
    have hw4 := W55G.turned HC.out.w55 HC.out.net g3
    have cb4 := Below.turn HC.out.net Hn.out.glt g3 (Nat.le_refl _) HC.out.cb
    have d4 := hw4.st.c0
    have hdr := draw55 q A (nn - 2) _ w4 hk1 (by omega) hl1 (by omega) (hw4.st.dr A.toNat (by omega)) (hw4.st.fz _)
    have Hdr := Lib.hid hdr; clear hdr
    clear hw4 g1 g2 g3
    have Ht := Lib.hid ht; clear ht
    go_wp2_with fail
    refine Hdr.out.mono ?_
    rintro e w6 ⟨rfl, n6, rfl⟩
    go_wp2_with fail
    go_ret
    refine Hap.of3 Hw.out Hn.out HC.out.below Ht.out (fun h => (h.draw (by omega)).drewN _) ?_ rfl
    exact (Frm.setCell1 (F := fun b _ => b = q) _ _ (Or.inl rfl)).drewN _
  · have hun : decide (B ≤ (S.nodes : Int)) = false := decide_eq_false (by omega)
    have hw1 : IntKind.i64.wrap ((S.nodes : Int) + 2) = (S.nodes : Int) + 2 := IntWalk.i64_in _ (by omega)
    go_enter Try.func7, Try.ntmps7
    go_wp2_with fail
    go_quiet (fail)
    clear hA hB hI hw1
    go_wp2_with fail
    refine (Hlk.out _).mono ?_
    rintro e w2 ⟨v, rfl, hv, hb⟩
    have hC : Ctx w w2 p q S G ao cap K fr tu ii nn := Ctx.of Hw.out Hn.out (by rw [World.heap_drewN, W1_size] at hb; exact hb)
    have hvB : w.heap.size ≤ (W1 w q K fr tu ii nn).heap.size := by rw [W1_size]; omega
    have cb := hC.cb
    have x0 := hC.x0
    have x4 := hC.x4
    have hw2 := hC.w55
    have d0 := hw2.st.c0
    have d1 := hw2.st.c1
    have df := hw2.st.fz 1
    obtain ⟨ai, ci, rfl, hri, hsi, hli⟩ := hv
    have HC := Lib.hid hC; clear hC hb
    have Hw2 := Lib.hid hw2; clear hw2
    have Hri := Lib.hid hri; clear hri hsi hli
    go_wp2_with fail
    have hsn := draw_spec HC.out.net hS hk1 hk2 hl1 (by omega)
    have Hsn := Lib.hid hsn; clear hsn
    refine Hsn.out.mono ?_
    rintro e w4 ⟨rfl, ht⟩
    obtain ⟨G', g1, g2, g3⟩ := id ht
    have hw4 := W55G.turned HC.out.w55 HC.out.net g3
    have cb4 := Below.turn HC.out.net Hn.out.glt g3 (Nat.le_refl _) HC.out.cb
    have d4 := hw4.st.c0
    have hdr := draw55 q A (nn - 2) _ w4 hk1 (by omega) hl1 (by omega) (hw4.st.dr A.toNat (by omega)) (hw4.st.fz _)
    have Hdr := Lib.hid hdr; clear hdr
    clear hw4 g1 g2 g3
    have Ht := Lib.hid ht; clear ht
    go_wp2_with fail
    refine Hdr.out.mono ?_
    rintro e w6 ⟨rfl, n6, rfl⟩
    go_wp2_with fail
    go_ret
    refine Hap.of3 Hw.out Hn.out HC.out.below Ht.out (fun h => (h.draw (by omega)).drewN _) ?_ rfl
    exact (Frm.setCell1 (F := fun b _ => b = q) _ _ (Or.inl rfl)).drewN _
  · skip
    by_cases hE : (places A B S.msgs 0).length ≤ i
    · skip
      have hw1 : IntKind.i64.wrap ((S.nodes : Int) + 2) = (S.nodes : Int) + 2 := IntWalk.i64_in _ (by omega)
      go_enter Try.func7, Try.ntmps7
      go_wp2_with fail
      go_quiet (fail)
      clear hA hB hI hw1
      go_wp2_with fail
      refine (Hlk.out _).mono ?_
      rintro e w2 ⟨v, rfl, hv, hb⟩
      have hC : Ctx w w2 p q S G ao cap K fr tu ii nn := Ctx.of Hw.out Hn.out (by rw [World.heap_drewN, W1_size] at hb; exact hb)
      have hvB : w.heap.size ≤ (W1 w q K fr tu ii nn).heap.size := by rw [W1_size]; omega
      have cb := hC.cb
      have x0 := hC.x0
      have x4 := hC.x4
      have hw2 := hC.w55
      have d0 := hw2.st.c0
      have d1 := hw2.st.c1
      have df := hw2.st.fz 1
      obtain ⟨ai, ci, rfl, hri, hsi, hli⟩ := hv
      have HC := Lib.hid hC; clear hC hb
      have Hw2 := Lib.hid hw2; clear hw2
      have Hri := Lib.hid hri; clear hri hsi hli
      go_wp2_with fail
      have hsn := draw_spec HC.out.net hS hk1 hk2 hl1 (by omega)
      have Hsn := Lib.hid hsn; clear hsn
      refine Hsn.out.mono ?_
      rintro e w4 ⟨rfl, ht⟩
      obtain ⟨G', g1, g2, g3⟩ := id ht
      have hw4 := W55G.turned HC.out.w55 HC.out.net g3
      have cb4 := Below.turn HC.out.net Hn.out.glt g3 (Nat.le_refl _) HC.out.cb
      have d4 := hw4.st.c0
      have hdr := draw55 q A (nn - 2) _ w4 hk1 (by omega) hl1 (by omega) (hw4.st.dr A.toNat (by omega)) (hw4.st.fz _)
      have Hdr := Lib.hid hdr; clear hdr
      clear hw4 g1 g2 g3
      have Ht := Lib.hid ht; clear ht
      go_wp2_with fail
      refine Hdr.out.mono ?_
      rintro e w6 ⟨rfl, n6, rfl⟩
      go_wp2_with fail
      go_ret
      refine Hap.of3 Hw.out Hn.out HC.out.below Ht.out (fun h => (h.draw (by omega)).drewN _) ?_ rfl
      exact (Frm.setCell1 (F := fun b _ => b = q) _ _ (Or.inl rfl)).drewN _
    · have hE' : decide ((places A B S.msgs 0).length ≤ i) = false := decide_eq_false hE
      have hE'' : decide (((places A B S.msgs 0).length : Int) ≤ (i : Int)) = false := decide_eq_false (by omega)
      have hw1 : IntKind.i64.wrap ((S.nodes : Int) + 2) = (S.nodes : Int) + 2 := IntWalk.i64_in _ (by omega)
      go_enter Try.func7, Try.ntmps7
      go_wp2_with fail
      go_quiet (fail)
      clear hA hB hI hw1
      go_wp2_with fail
      refine (Hlk.out _).mono ?_
      rintro e w2 ⟨v, rfl, hv, hb⟩
      have hC : Ctx w w2 p q S G ao cap K fr tu ii nn := Ctx.of Hw.out Hn.out (by rw [World.heap_drewN, W1_size] at hb; exact hb)
      have hvB : w.heap.size ≤ (W1 w q K fr tu ii nn).heap.size := by rw [W1_size]; omega
      have cb := hC.cb
      have x0 := hC.x0
      have x4 := hC.x4
      have hw2 := hC.w55
      have d0 := hw2.st.c0
      have d1 := hw2.st.c1
      have df := hw2.st.fz 1
      obtain ⟨ai, ci, rfl, hri, hsi, hli⟩ := hv
      have HC := Lib.hid hC; clear hC hb
      have Hw2 := Lib.hid hw2; clear hw2
      have Hri := Lib.hid hri; clear hri hsi hli
      go_wp2_with fail
      have hsn := draw_spec HC.out.net hS hk1 hk2 hl1 (by omega)
      have Hsn := Lib.hid hsn; clear hsn
      refine Hsn.out.mono ?_
      rintro e w4 ⟨rfl, ht⟩
      obtain ⟨G', g1, g2, g3⟩ := id ht
      have hw4 := W55G.turned HC.out.w55 HC.out.net g3
      have cb4 := Below.turn HC.out.net Hn.out.glt g3 (Nat.le_refl _) HC.out.cb
      have d4 := hw4.st.c0
      have hdr := draw55 q A (nn - 2) _ w4 hk1 (by omega) hl1 (by omega) (hw4.st.dr A.toNat (by omega)) (hw4.st.fz _)
      have Hdr := Lib.hid hdr; clear hdr
      clear hw4 g1 g2 g3
      have Ht := Lib.hid ht; clear ht
      go_wp2_with fail
      refine Hdr.out.mono ?_
      rintro e w6 ⟨rfl, n6, rfl⟩
      go_wp2_with fail
      go_ret
      refine Hap.of3 Hw.out Hn.out HC.out.below Ht.out (fun h => (h.draw (by omega)).drewN _) ?_ rfl
      exact (Frm.setCell1 (F := fun b _ => b = q) _ _ (Or.inl rfl)).drewN _

end Go.Proofs.Ytcjcccmlpilbbaa
