/- Hap01: lemmas on the way to the law (no condition of their own beyond what each states). -/
import Derived.Test.YtcjcccmlpilbbaaHapJ
namespace Go.Proofs.Ytcjcccmlpilbbaa
open Go.RowKit Go.K55 Go.Maps
set_option linter.unusedVariables false
set_option linter.unusedSimpArgs false

set_option maxRecDepth 100000 in
set_option maxHeartbeats 2000000 in
theorem hap0_U {w : World} {p q : Nat} {S : NS} {G : Nat → Prop} {N : Nat} {ao : Option Addr} {cap : Nat} (hw : W55G w q S ao cap) (hn : NetG w p S G) (hS : Wf S N) (hN : N ≤ 800)
    (K fr tu ii nn num A B : Int) (i : Nat) (hK : K.tmod 9 = 0) (hm0 : 0 ≤ num) (hm1 : num ≤ 40) (hA : fr.tmod ((S.nodes : Int) + 2) = A) (hB : tu.tmod ((S.nodes : Int) + 2) = B) (hI : ii.tmod 4 = (i : Int)) (hf0 : 0 ≤ fr) (hf1 : fr ≤ 255) (ht0 : 0 ≤ tu) (ht1 : tu ≤ 255) (hi0 : 0 ≤ ii) (hi1 : ii ≤ 255) (hn0 : 0 ≤ nn) (hn1 : nn ≤ 255) (hA0 : 0 ≤ A) (hB0 : 0 ≤ B) (hI1 : (i : Int) ≤ 3) (hA1 : A ≤ 6) (hB1 : B ≤ 6)
    (hu : A < 1 ∨ (1 ≤ A ∧ (S.nodes : Int) < A) ∨ ((1 ≤ A ∧ A ≤ (S.nodes : Int)) ∧ B < 1) ∨ ((1 ≤ A ∧ A ≤ (S.nodes : Int)) ∧ 1 ≤ B ∧ (S.nodes : Int) < B)) :
    Calls Try.prog 7 #[.pointer (some ⟨q, 0, none⟩), .pointer (some ⟨p, 0, none⟩), .agg #[.int .u8 K, .int .u8 fr, .int .u8 tu, .int .u8 ii, .int .u8 nn], .int .i64 num] w (Hap w p q S S G ao cap) := by
  have hq := hw.st.lt
  have c0 := hw.st.c0
  have hS1 := hS.n1
  have hS2 := hS.n2
  have hlen := hS.len
  have hI0 : (0 : Int) ≤ (i : Int) := by omega
  have hpl : (places A B S.msgs 0).length ≤ N := by rw [places_length]; exact Nat.le_trans (List.length_filter_le _ _) hlen
  have hnz : ((S.nodes : Int) + 2 == 0) = false := by simp; omega
  have hlk := fun n => link_walk q S ao cap A B ((W1 w q K fr tu ii nn).drewN n) ((hw.st.below (W1_below w q K fr tu ii nn)).kept (F := fun _ _ => False) ((Frm.refl _ _).drewN n) (fun _ h => h) (fun _ _ _ _ _ _ h => h)) (by omega)
  have Hlk := Lib.hid hlk; clear hlk
  have Hw := Lib.hid hw; clear hw
  have Hn := Lib.hid hn; clear hn
  rcases hu with hu | ⟨hu1, hu⟩ | ⟨⟨hu1, hu2⟩, hu⟩ | ⟨⟨hu1, hu2⟩, hu3, hu⟩
  · have hun : decide (1 ≤ A) = false := decide_eq_false (by omega)
    have hw1 : IntKind.i64.wrap ((S.nodes : Int) + 2) = (S.nodes : Int) + 2 := IntWalk.i64_in _ (by omega)
    go_enter Try.func7, Try.ntmps7
    go_wp2_with fail
    go_quiet (fail)
    clear hA hB hI hw1
    go_wp2_with fail
    refine (Hlk.out _).mono ?_
    rintro e w2 ⟨v, rfl, hv, hb⟩
    have hC : Ctx w w2 p q S G ao cap K fr tu ii nn := Ctx.of Hw.out Hn.out (by rw [World.heap_drewN, W1_size] at hb; exact hb)
    have hvB : w.heap.size ≤ (W1 w q K fr tu ii nn).heap.size := by rw [W1_size]; omega
    have cb := hC.cb
    have x0 := hC.x0
    have x4 := hC.x4
    have hw2 := hC.w55
    have d0 := hw2.st.c0
    have d1 := hw2.st.c1
    have df := hw2.st.fz 1
    obtain ⟨ai, ci, rfl, hri, hsi, hli⟩ := hv
    have HC := Lib.hid hC; clear hC hb
    have Hw2 := Lib.hid hw2; clear hw2
    have Hri := Lib.hid hri; clear hri hsi hli
    go_wp2_with fail
    refine (digits_any _ hm0 (by omega) _).mono ?_
    rintro e w3 ⟨s, n3, rfl, hs3, hw3⟩
    have hC3 : Ctx w w3 p q S G ao cap K fr tu ii nn := by rw [hw3]; exact HC.out.drewN n3
    have cb3 := hC3.cb
    have x43 := hC3.x4
    have d03 := hC3.w55.st.c0
    have d13 := hC3.w55.st.c1
    have df3 := hC3.w55.st.fz 1
    have HC3 := Lib.hid hC3; clear hC3 hw3
    go_wp2_with fail
    have hsn := fun t => send_bad_spec HC3.out.net hS (a := A) (b := B) (by simp only [Unknown]; omega) t
    have Hsn := Lib.hid hsn; clear hsn
    refine (Hsn.out _).mono ?_
    rintro e w4 ⟨rfl, rfl⟩
    go_wp2_with fail
    go_ret
    exact Hap.same Hw.out Hn.out HC3.out.below
  · have hun : decide (A ≤ (S.nodes : Int)) = false := decide_eq_false (by omega)
    have hw1 : IntKind.i64.wrap ((S.nodes : Int) + 2) = (S.nodes : Int) + 2 := IntWalk.i64_in _ (by omega)
    go_enter Try.func7, Try.ntmps7
    go_wp2_with fail
    go_quiet (fail)
    clear hA hB hI hw1
    go_wp2_with fail
    refine (Hlk.out _).mono ?_
    rintro e w2 ⟨v, rfl, hv, hb⟩
    have hC : Ctx w w2 p q S G ao cap K fr tu ii nn := Ctx.of Hw.out Hn.out (by rw [World.heap_drewN, W1_size] at hb; exact hb)
    have hvB : w.heap.size ≤ (W1 w q K fr tu ii nn).heap.size := by rw [W1_size]; omega
    have cb := hC.cb
    have x0 := hC.x0
    have x4 := hC.x4
    have hw2 := hC.w55
    have d0 := hw2.st.c0
    have d1 := hw2.st.c1
    have df := hw2.st.fz 1
    obtain ⟨ai, ci, rfl, hri, hsi, hli⟩ := hv
    have HC := Lib.hid hC; clear hC hb
    have Hw2 := Lib.hid hw2; clear hw2
    have Hri := Lib.hid hri; clear hri hsi hli
    go_wp2_with fail
    refine (digits_any _ hm0 (by omega) _).mono ?_
    rintro e w3 ⟨s, n3, rfl, hs3, hw3⟩
    have hC3 : Ctx w w3 p q S G ao cap K fr tu ii nn := by rw [hw3]; exact HC.out.drewN n3
    have cb3 := hC3.cb
    have x43 := hC3.x4
    have d03 := hC3.w55.st.c0
    have d13 := hC3.w55.st.c1
    have df3 := hC3.w55.st.fz 1
    have HC3 := Lib.hid hC3; clear hC3 hw3
    go_wp2_with fail
    have hsn := fun t => send_bad_spec HC3.out.net hS (a := A) (b := B) (by simp only [Unknown]; omega) t
    have Hsn := Lib.hid hsn; clear hsn
    refine (Hsn.out _).mono ?_
    rintro e w4 ⟨rfl, rfl⟩
    go_wp2_with fail
    go_ret
    exact Hap.same Hw.out Hn.out HC3.out.below
  · have hun : decide (1 ≤ B) = false := decide_eq_false (by omega)
    have hw1 : IntKind.i64.wrap ((S.nodes : Int) + 2) = (S.nodes : Int) + 2 := IntWalk.i64_in _ (by omega)
    go_enter Try.func7, Try.ntmps7
    go_wp2_with fail
    go_quiet (fail)
    clear hA hB hI hw1
    go_wp2_with fail
    refine (Hlk.out _).mono ?_
    rintro e w2 ⟨v, rfl, hv, hb⟩
    have hC : Ctx w w2 p q S G ao cap K fr tu ii nn := Ctx.of Hw.out Hn.out (by rw [World.heap_drewN, W1_size] at hb; exact hb)
    have hvB : w.heap.size ≤ (W1 w q K fr tu ii nn).heap.size := by rw [W1_size]; omega
    have cb := hC.cb
    have x0 := hC.x0
    have x4 := hC.x4
    have hw2 := hC.w55
    have d0 := hw2.st.c0
    have d1 := hw2.st.c1
    have df := hw2.st.fz 1
    obtain ⟨ai, ci, rfl, hri, hsi, hli⟩ := hv
    have HC := Lib.hid hC; clear hC hb
    have Hw2 := Lib.hid hw2; clear hw2
    have Hri := Lib.hid hri; clear hri hsi hli
    go_wp2_with fail
    refine (digits_any _ hm0 (by omega) _).mono ?_
    rintro e w3 ⟨s, n3, rfl, hs3, hw3⟩
    have hC3 : Ctx w w3 p q S G ao cap K fr tu ii nn := by rw [hw3]; exact HC.out.drewN n3
    have cb3 := hC3.cb
    have x43 := hC3.x4
    have d03 := hC3.w55.st.c0
    have d13 := hC3.w55.st.c1
    have df3 := hC3.w55.st.fz 1
    have HC3 := Lib.hid hC3; clear hC3 hw3
    go_wp2_with fail
    have hsn := fun t => send_bad_spec HC3.out.net hS (a := A) (b := B) (by simp only [Unknown]; omega) t
    have Hsn := Lib.hid hsn; clear hsn
    refine (Hsn.out _).mono ?_
    rintro e w4 ⟨rfl, rfl⟩
    go_wp2_with fail
    go_ret
    exact Hap.same Hw.out Hn.out HC3.out.below
  · have hun : decide (B ≤ (S.nodes : Int)) = false := decide_eq_false (by omega)
    have hw1 : IntKind.i64.wrap ((S.nodes : Int) + 2) = (S.nodes : Int) + 2 := IntWalk.i64_in _ (by omega)
    go_enter Try.func7, Try.ntmps7
    go_wp2_with fail
    go_quiet (fail)
    clear hA hB hI hw1
    go_wp2_with fail
    refine (Hlk.out _).mono ?_
    rintro e w2 ⟨v, rfl, hv, hb⟩
    have hC : Ctx w w2 p q S G ao cap K fr tu ii nn := Ctx.of Hw.out Hn.out (by rw [World.heap_drewN, W1_size] at hb; exact hb)
    have hvB : w.heap.size ≤ (W1 w q K fr tu ii nn).heap.size := by rw [W1_size]; omega
    have cb := hC.cb
    have x0 := hC.x0
    have x4 := hC.x4
    have hw2 := hC.w55
    have d0 := hw2.st.c0
    have d1 := hw2.st.c1
    have df := hw2.st.fz 1
    obtain ⟨ai, ci, rfl, hri, hsi, hli⟩ := hv
    have HC := Lib.hid hC; clear hC hb
    have Hw2 := Lib.hid hw2; clear hw2
    have Hri := Lib.hid hri; clear hri hsi hli
    go_wp2_with fail
    refine (digits_any _ hm0 (by omega) _).mono ?_
    rintro e w3 ⟨s, n3, rfl, hs3, hw3⟩
    have hC3 : Ctx w w3 p q S G ao cap K fr tu ii nn := by rw [hw3]; exact HC.out.drewN n3
    have cb3 := hC3.cb
    have x43 := hC3.x4
    have d03 := hC3.w55.st.c0
    have d13 := hC3.w55.st.c1
    have df3 := hC3.w55.st.fz 1
    have HC3 := Lib.hid hC3; clear hC3 hw3
    go_wp2_with fail
    have hsn := fun t => send_bad_spec HC3.out.net hS (a := A) (b := B) (by simp only [Unknown]; omega) t
    have Hsn := Lib.hid hsn; clear hsn
    refine (Hsn.out _).mono ?_
    rintro e w4 ⟨rfl, rfl⟩
    go_wp2_with fail
    go_ret
    exact Hap.same Hw.out Hn.out HC3.out.below

set_option maxRecDepth 100000 in
set_option maxHeartbeats 2000000 in
theorem hap1_U {w : World} {p q : Nat} {S : NS} {G : Nat → Prop} {N : Nat} {ao : Option Addr} {cap : Nat} (hw : W55G w q S ao cap) (hn : NetG w p S G) (hS : Wf S N) (hN : N ≤ 800)
    (K fr tu ii nn num A B : Int) (i : Nat) (hK : K.tmod 9 = 1) (hm0 : 0 ≤ num) (hm1 : num ≤ 40) (hA : fr.tmod ((S.nodes : Int) + 2) = A) (hB : tu.tmod ((S.nodes : Int) + 2) = B) (hI : ii.tmod 4 = (i : Int)) (hf0 : 0 ≤ fr) (hf1 : fr ≤ 255) (ht0 : 0 ≤ tu) (ht1 : tu ≤ 255) (hi0 : 0 ≤ ii) (hi1 : ii ≤ 255) (hn0 : 0 ≤ nn) (hn1 : nn ≤ 255) (hA0 : 0 ≤ A) (hB0 : 0 ≤ B) (hI1 : (i : Int) ≤ 3) (hA1 : A ≤ 6) (hB1 : B ≤ 6)
    (hu : A < 1 ∨ (1 ≤ A ∧ (S.nodes : Int) < A) ∨ ((1 ≤ A ∧ A ≤ (S.nodes : Int)) ∧ B < 1) ∨ ((1 ≤ A ∧ A ≤ (S.nodes : Int)) ∧ 1 ≤ B ∧ (S.nodes : Int) < B)) :
    Calls Try.prog 7 #[.pointer (some ⟨q, 0, none⟩), .pointer (some ⟨p, 0, none⟩), .agg #[.int .u8 K, .int .u8 fr, .int .u8 tu, .int .u8 ii, .int .u8 nn], .int .i64 num] w (Hap w p q S S G ao cap) := by
  have hq := hw.st.lt
  have c0 := hw.st.c0
  have hS1 := hS.n1
  have hS2 := hS.n2
  have hlen := hS.len
  have hI0 : (0 : Int) ≤ (i : Int) := by omega
  have hpl : (places A B S.msgs 0).length ≤ N := by rw [places_length]; exact Nat.le_trans (List.length_filter_le _ _) hlen
  have hnz : ((S.nodes : Int) + 2 == 0) = false := by simp; omega
  have hlk := fun n => link_walk q S ao cap A B ((W1 w q K fr tu ii nn).drewN n) ((hw.st.below (W1_below w q K fr tu ii nn)).kept (F := fun _ _ => False) ((Frm.refl _ _).drewN n) (fun _ h => h) (fun _ _ _ _ _ _ h => h)) (by omega)
  have Hlk := Lib.hid hlk; clear hlk
  have Hw := Lib.hid hw; clear hw
  have Hn := Lib.hid hn; clear hn
  rcases hu with hu | ⟨hu1, hu⟩ | ⟨⟨hu1, hu2⟩, hu⟩ | ⟨⟨hu1, hu2⟩, hu3, hu⟩
  · have hun : decide (1 ≤ A) = false := decide_eq_false (by omega)
    have hw1 : IntKind.i64.wrap ((S.nodes : Int) + 2) = (S.nodes : Int) + 2 := IntWalk.i64_in _ (by omega)
    go_enter Try.func7, Try.ntmps7
    go_wp2_with fail
    go_quiet (fail)
    clear hA hB hI hw1
    go_wp2_with fail
    refine (Hlk.out _).mono ?_
    rintro e w2 ⟨v, rfl, hv, hb⟩
    have hC : Ctx w w2 p q S G ao cap K fr tu ii nn := Ctx.of Hw.out Hn.out (by rw [World.heap_drewN, W1_size] at hb; exact hb)
    have hvB : w.heap.size ≤ (W1 w q K fr tu ii nn).heap.size := by rw [W1_size]; omega
    have cb := hC.cb
    have x0 := hC.x0
    have x4 := hC.x4
    have hw2 := hC.w55
    have d0 := hw2.st.c0
    have d1 := hw2.st.c1
    have df := hw2.st.fz 1
    obtain ⟨ai, ci, rfl, hri, hsi, hli⟩ := hv
    have HC := Lib.hid hC; clear hC hb
    have Hw2 := Lib.hid hw2; clear hw2
    have Hri := Lib.hid hri; clear hri hsi hli
    go_wp2_with fail
    refine (digits_any _ hm0 (by omega) _).mono ?_
    rintro e w3 ⟨s, n3, rfl, hs3, hw3⟩
    have hC3 : Ctx w w3 p q S G ao cap K fr tu ii nn := by rw [hw3]; exact HC.out.drewN n3
    have cb3 := hC3.cb
    have x43 := hC3.x4
    have d03 := hC3.w55.st.c0
    have d13 := hC3.w55.st.c1
    have df3 := hC3.w55.st.fz 1
    have HC3 := Lib.hid hC3; clear hC3 hw3
    go_wp2_with fail
    have hsn := fun t => send_bad_spec HC3.out.net hS (a := A) (b := B) (by simp only [Unknown]; omega) t
    have Hsn := Lib.hid hsn; clear hsn
    refine (Hsn.out _).mono ?_
    rintro e w4 ⟨rfl, rfl⟩
    go_wp2_with fail
    go_ret
    exact Hap.same Hw.out Hn.out HC3.out.below
  · have hun : decide (A ≤ (S.nodes : Int)) = false := decide_eq_false (by omega)
    have hw1 : IntKind.i64.wrap ((S.nodes : Int) + 2) = (S.nodes : Int) + 2 := IntWalk.i64_in _ (by omega)
    go_enter Try.func7, Try.ntmps7
    go_wp2_with fail
    go_quiet (fail)
    clear hA hB hI hw1
    go_wp2_with fail
    refine (Hlk.out _).mono ?_
    rintro e w2 ⟨v, rfl, hv, hb⟩
    have hC : Ctx w w2 p q S G ao cap K fr tu ii nn := Ctx.of Hw.out Hn.out (by rw [World.heap_drewN, W1_size] at hb; exact hb)
    have hvB : w.heap.size ≤ (W1 w q K fr tu ii nn).heap.size := by rw [W1_size]; omega
    have cb := hC.cb
    have x0 := hC.x0
    have x4 := hC.x4
    have hw2 := hC.w55
    have d0 := hw2.st.c0
    have d1 := hw2.st.c1
    have df := hw2.st.fz 1
    obtain ⟨ai, ci, rfl, hri, hsi, hli⟩ := hv
    have HC := Lib.hid hC; clear hC hb
    have Hw2 := Lib.hid hw2; clear hw2
    have Hri := Lib.hid hri; clear hri hsi hli
    go_wp2_with fail
    refine (digits_any _ hm0 (by omega) _).mono ?_
    rintro e w3 ⟨s, n3, rfl, hs3, hw3⟩
    have hC3 : Ctx w w3 p q S G ao cap K fr tu ii nn := by rw [hw3]; exact HC.out.drewN n3
    have cb3 := hC3.cb
    have x43 := hC3.x4
    have d03 := hC3.w55.st.c0
    have d13 := hC3.w55.st.c1
    have df3 := hC3.w55.st.fz 1
    have HC3 := Lib.hid hC3; clear hC3 hw3
    go_wp2_with fail
    have hsn := fun t => send_bad_spec HC3.out.net hS (a := A) (b := B) (by simp only [Unknown]; omega) t
    have Hsn := Lib.hid hsn; clear hsn
    refine (Hsn.out _).mono ?_
    rintro e w4 ⟨rfl, rfl⟩
    go_wp2_with fail
    go_ret
    exact Hap.same Hw.out Hn.out HC3.out.below
  · have hun : decide (1 ≤ B) = false := decide_eq_false (by omega)
    have hw1 : IntKind.i64.wrap ((S.nodes : Int) + 2) = (S.nodes : Int) + 2 := IntWalk.i64_in _ (by omega)
    go_enter Try.func7, Try.ntmps7
    go_wp2_with fail
    go_quiet (fail)
    clear hA hB hI hw1
    go_wp2_with fail
    refine (Hlk.out _).mono ?_
    rintro e w2 ⟨v, rfl, hv, hb⟩
    have hC : Ctx w w2 p q S G ao cap K fr tu ii nn := Ctx.of Hw.out Hn.out (by rw [World.heap_drewN, W1_size] at hb; exact hb)
    have hvB : w.heap.size ≤ (W1 w q K fr tu ii nn).heap.size := by rw [W1_size]; omega
    have cb := hC.cb
    have x0 := hC.x0
    have x4 := hC.x4
    have hw2 := hC.w55
    have d0 := hw2.st.c0
    have d1 := hw2.st.c1
    have df := hw2.st.fz 1
    obtain ⟨ai, ci, rfl, hri, hsi, hli⟩ := hv
    have HC := Lib.hid hC; clear hC hb
    have Hw2 := Lib.hid hw2; clear hw2
    have Hri := Lib.hid hri; clear hri hsi hli
    go_wp2_with fail
    refine (digits_any _ hm0 (by omega) _).mono ?_
    rintro e w3 ⟨s, n3, rfl, hs3, hw3⟩
    have hC3 : Ctx w w3 p q S G ao cap K fr tu ii nn := by rw [hw3]; exact HC.out.drewN n3
    have cb3 := hC3.cb
    have x43 := hC3.x4
    have d03 := hC3.w55.st.c0
    have d13 := hC3.w55.st.c1
    have df3 := hC3.w55.st.fz 1
    have HC3 := Lib.hid hC3; clear hC3 hw3
    go_wp2_with fail
    have hsn := fun t => send_bad_spec HC3.out.net hS (a := A) (b := B) (by simp only [Unknown]; omega) t
    have Hsn := Lib.hid hsn; clear hsn
    refine (Hsn.out _).mono ?_
    rintro e w4 ⟨rfl, rfl⟩
    go_wp2_with fail
    go_ret
    exact Hap.same Hw.out Hn.out HC3.out.below
  · have hun : decide (B ≤ (S.nodes : Int)) = false := decide_eq_false (by omega)
    have hw1 : IntKind.i64.wrap ((S.nodes : Int) + 2) = (S.nodes : Int) + 2 := IntWalk.i64_in _ (by omega)
    go_enter Try.func7, Try.ntmps7
    go_wp2_with fail
    go_quiet (fail)
    clear hA hB hI hw1
    go_wp2_with fail
    refine (Hlk.out _).mono ?_
    rintro e w2 ⟨v, rfl, hv, hb⟩
    have hC : Ctx w w2 p q S G ao cap K fr tu ii nn := Ctx.of Hw.out Hn.out (by rw [World.heap_drewN, W1_size] at hb; exact hb)
    have hvB : w.heap.size ≤ (W1 w q K fr tu ii nn).heap.size := by rw [W1_size]; omega
    have cb := hC.cb
    have x0 := hC.x0
    have x4 := hC.x4
    have hw2 := hC.w55
    have d0 := hw2.st.c0
    have d1 := hw2.st.c1
    have df := hw2.st.fz 1
    obtain ⟨ai, ci, rfl, hri, hsi, hli⟩ := hv
    have HC := Lib.hid hC; clear hC hb
    have Hw2 := Lib.hid hw2; clear hw2
    have Hri := Lib.hid hri; clear hri hsi hli
    go_wp2_with fail
    refine (digits_any _ hm0 (by omega) _).mono ?_
    rintro e w3 ⟨s, n3, rfl, hs3, hw3⟩
    have hC3 : Ctx w w3 p q S G ao cap K fr tu ii nn := by rw [hw3]; exact HC.out.drewN n3
    have cb3 := hC3.cb
    have x43 := hC3.x4
    have d03 := hC3.w55.st.c0
    have d13 := hC3.w55.st.c1
    have df3 := hC3.w55.st.fz 1
    have HC3 := Lib.hid hC3; clear hC3 hw3
    go_wp2_with fail
    have hsn := fun t => send_bad_spec HC3.out.net hS (a := A) (b := B) (by simp only [Unknown]; omega) t
    have Hsn := Lib.hid hsn; clear hsn
    refine (Hsn.out _).mono ?_
    rintro e w4 ⟨rfl, rfl⟩
    go_wp2_with fail
    go_ret
    exact Hap.same Hw.out Hn.out HC3.out.below

set_option maxRecDepth 100000 in
set_option maxHeartbeats 2000000 in
theorem hap0_K {w : World} {p q : Nat} {S : NS} {G : Nat → Prop} {N : Nat} {ao : Option Addr} {cap : Nat} (hw : W55G w q S ao cap) (hn : NetG w p S G) (hS : Wf S N) (hN : N ≤ 800)
    (K fr tu ii nn num A B : Int) (i : Nat) (hK : K.tmod 9 = 0) (hm0 : 0 ≤ num) (hm1 : num ≤ 40) (hA : fr.tmod ((S.nodes : Int) + 2) = A) (hB : tu.tmod ((S.nodes : Int) + 2) = B) (hI : ii.tmod 4 = (i : Int)) (hf0 : 0 ≤ fr) (hf1 : fr ≤ 255) (ht0 : 0 ≤ tu) (ht1 : tu ≤ 255) (hi0 : 0 ≤ ii) (hi1 : ii ≤ 255) (hn0 : 0 ≤ nn) (hn1 : nn ≤ 255) (hA0 : 0 ≤ A) (hB0 : 0 ≤ B) (hI1 : (i : Int) ≤ 3) (hA1 : A ≤ 6) (hB1 : B ≤ 6)
    (hk : Knows S A B) :
    Calls Try.prog 7 #[.pointer (some ⟨q, 0, none⟩), .pointer (some ⟨p, 0, none⟩), .agg #[.int .u8 K, .int .u8 fr, .int .u8 tu, .int .u8 ii, .int .u8 nn], .int .i64 num] w fun e w' => ∃ st : ByteArray, st.size ≤ 100 ∧ Hap w p q S (S.add ⟨A, B, st⟩) G ao cap e w' := by
  have hq := hw.st.lt
  have c0 := hw.st.c0
  have hS1 := hS.n1
  have hS2 := hS.n2
  have hlen := hS.len
  have hI0 : (0 : Int) ≤ (i : Int) := by omega
  have hpl : (places A B S.msgs 0).length ≤ N := by rw [places_length]; exact Nat.le_trans (List.length_filter_le _ _) hlen
  have hnz : ((S.nodes : Int) + 2 == 0) = false := by simp; omega
  have hlk := fun n => link_walk q S ao cap A B ((W1 w q K fr tu ii nn).drewN n) ((hw.st.below (W1_below w q K fr tu ii nn)).kept (F := fun _ _ => False) ((Frm.refl _ _).drewN n) (fun _ h => h) (fun _ _ _ _ _ _ h => h)) (by omega)
  have Hlk := Lib.hid hlk; clear hlk
  have Hw := Lib.hid hw; clear hw
  have Hn := Lib.hid hn; clear hn
  obtain ⟨⟨hk1, hk2⟩, hk3, hk4⟩ := hk
  obtain ⟨i0, hi0, hz0, hz1, hz2⟩ := info_parts Try.info60
  have hmax : S.msgs.length + 1 ≤ maxLen := by simp only [maxLen]; omega
  have hbyt : (S.msgs.length + 1) * 32 ≤ 140737488355328 := by omega
  by_cases hE : (places A B S.msgs 0).length ≤ i
  · skip
    have hw1 : IntKind.i64.wrap ((S.nodes : Int) + 2) = (S.nodes : Int) + 2 := IntWalk.i64_in _ (by omega)
    go_enter Try.func7, Try.ntmps7
    go_wp2_with fail
    go_quiet (fail)
    clear hA hB hI hw1
    go_wp2_with fail
    refine (Hlk.out _).mono ?_
    rintro e w2 ⟨v, rfl, hv, hb⟩
    have hC : Ctx w w2 p q S G ao cap K fr tu ii nn := Ctx.of Hw.out Hn.out (by rw [World.heap_drewN, W1_size] at hb; exact hb)
    have hvB : w.heap.size ≤ (W1 w q K fr tu ii nn).heap.size := by rw [W1_size]; omega
    have cb := hC.cb
    have x0 := hC.x0
    have x4 := hC.x4
    have hw2 := hC.w55
    have d0 := hw2.st.c0
    have d1 := hw2.st.c1
    have df := hw2.st.fz 1
    obtain ⟨ai, ci, rfl, hri, hsi, hli⟩ := hv
    have HC := Lib.hid hC; clear hC hb
    have Hw2 := Lib.hid hw2; clear hw2
    have Hri := Lib.hid hri; clear hri hsi hli
    go_wp2_with fail
    refine (digits_any _ hm0 (by omega) _).mono ?_
    rintro e w3 ⟨s, n3, rfl, hs3, hw3⟩
    have hC3 : Ctx w w3 p q S G ao cap K fr tu ii nn := by rw [hw3]; exact HC.out.drewN n3
    have cb3 := hC3.cb
    have x43 := hC3.x4
    have d03 := hC3.w55.st.c0
    have d13 := hC3.w55.st.c1
    have df3 := hC3.w55.st.fz 1
    have HC3 := Lib.hid hC3; clear hC3 hw3
    go_wp2_with fail
    have gr := Grow.of HC3.out.w55 cb3 HC3.out.boxt A B (⟨#[109]⟩ ++ s)
    obtain ⟨g0a, g0b⟩ := gr.c0
    have Gr := Lib.hid gr; clear gr
    refine wp_region_noPanic ?_
    refine wp_region_L (fun W => W.cell? ⟨w.heap.size, 0, none⟩ = some (.pointer (some ⟨q, 0, none⟩)) ∧ W.cell? ⟨q, 1, none⟩ = some (.slice ao S.msgs.length cap)) 13 (by kernel_rfl) ?_ (fun hHeld => ?_)
    · exact ⟨(by simpa using cb3), (by simpa using d13)⟩
    refine wpAnyL_take (i := 0) (v := ?_) rfl (by kernel_rfl) (by kernel_rfl) (by kernel_rfl) (by kernel_rfl) (fun _ _ _ h => h) (Or.inl ⟨by rfl, ?_⟩) hHeld ?_
    rotate_left
    · ((intro wS hSw; (try dsimp only at hSw); go_simp) <;> with_reducible rfl)
    try simp only [Act.put, List.setIfInBounds_toArray, List.set_cons_zero, List.set_cons_succ]
    refine wpAnyL_take (i := 1) (v := ?_) rfl (by kernel_rfl) (by kernel_rfl) (by kernel_rfl) (by kernel_rfl) (fun _ _ _ h => h) (Or.inl ⟨by rfl, ?_⟩) hHeld ?_
    rotate_left
    · ((intro wS hSw; (try dsimp only at hSw); go_simp) <;> with_reducible rfl)
    try simp only [Act.put, List.setIfInBounds_toArray, List.set_cons_zero, List.set_cons_succ]
    refine wpAnyL_take (i := 2) (v := ?_) rfl (by kernel_rfl) (by kernel_rfl) (by kernel_rfl) (by kernel_rfl) (fun _ _ _ h => h) (Or.inl ⟨by rfl, ?_⟩) hHeld ?_
    rotate_left
    · ((intro wS hSw; (try dsimp only at hSw); go_simp) <;> with_reducible rfl)
    try simp only [Act.put, List.setIfInBounds_toArray, List.set_cons_zero, List.set_cons_succ]
    refine wpAnyL_take (i := 3) (v := ?_) rfl (by kernel_rfl) (by kernel_rfl) (by kernel_rfl) (by kernel_rfl) (fun _ _ _ h => h) (Or.inl ⟨by rfl, ?_⟩) hHeld ?_
    rotate_left
    · ((intro wS hSw; (try dsimp only at hSw); go_simp) <;> with_reducible rfl)
    try simp only [Act.put, List.setIfInBounds_toArray, List.set_cons_zero, List.set_cons_succ]
    refine wpAnyL_take (i := 4) (v := ?_) rfl (by kernel_rfl) (by kernel_rfl) (by kernel_rfl) (by kernel_rfl) (fun _ _ _ h => h) (Or.inl ⟨by rfl, ?_⟩) hHeld ?_
    rotate_left
    · ((intro wS hSw; (try dsimp only at hSw); go_simp) <;> with_reducible rfl)
    try simp only [Act.put, List.setIfInBounds_toArray, List.set_cons_zero, List.set_cons_succ]
    refine wpAnyL_take (i := 5) (v := ?_) rfl (by kernel_rfl) (by kernel_rfl) (by kernel_rfl) (by kernel_rfl) (fun _ _ _ h => h) (Or.inl ⟨by rfl, ?_⟩) hHeld ?_
    rotate_left
    · ((intro wS hSw; (try dsimp only at hSw); go_simp) <;> with_reducible rfl)
    try simp only [Act.put, List.setIfInBounds_toArray, List.set_cons_zero, List.set_cons_succ]
    refine wpAnyL_take (i := 6) (v := ?_) rfl (by kernel_rfl) (by kernel_rfl) (by kernel_rfl) (by kernel_rfl) (fun _ _ _ h => h) (Or.inl ⟨by rfl, ?_⟩) hHeld ?_
    rotate_left
    · ((intro wS hSw; (try dsimp only at hSw); go_simp) <;> with_reducible rfl)
    try simp only [Act.put, List.setIfInBounds_toArray, List.set_cons_zero, List.set_cons_succ]
    refine wpAnyL_take (i := 7) (v := ?_) rfl (by kernel_rfl) (by kernel_rfl) (by kernel_rfl) (by kernel_rfl) (fun _ _ _ h => h) (Or.inl ⟨by rfl, ?_⟩) hHeld ?_
    rotate_left
    · ((intro wS hSw; (try dsimp only at hSw); go_simp) <;> with_reducible rfl)
    try simp only [Act.put, List.setIfInBounds_toArray, List.set_cons_zero, List.set_cons_succ]
    refine wpAnyL_take (i := 8) (v := ?_) rfl (by kernel_rfl) (by kernel_rfl) (by kernel_rfl) (by kernel_rfl) (fun _ _ _ h => h) (Or.inl ⟨by rfl, ?_⟩) hHeld ?_
    rotate_left
    · ((intro wS hSw; (try dsimp only at hSw); go_simp) <;> with_reducible rfl)
    try simp only [Act.put, List.setIfInBounds_toArray, List.set_cons_zero, List.set_cons_succ]
    refine wpAnyL_one (i := 9) rfl (by kernel_rfl) (fun K hK => ?_)
    go_simp
    refine hK.out _ _ (fun _ => ?_) ?_
    · exact ⟨g0a, g0b⟩
    clear hK K
    refine wpAnyL_one (i := 10) rfl (by kernel_rfl) (fun K hK => ?_)
    refine step_app (by rfl) _ _ 34 (by rfl) (Lof ao S.msgs.length cap) 60 i0 _ 3 32 Try.underlying34 hi0 hz0 hz1 hz2 rfl (by decide) (bo := some ⟨w3.heap.size, 0, none⟩) (m := 1) (c := 1) (news := [.int .i64 A, .int .i64 B, .string (⟨#[109]⟩ ++ s)]) ?_ ?_ Gr.out.row Gr.out.sp rfl (fun h => by cases h) Gr.out.news Gr.out.one hmax hbyt ?_
    rfl
    rfl
    intro ao4 cap4 w4 row4 frm4 loc4
    obtain ⟨kB, kq, kf⟩ := Gr.out.keep w4 frm4
    have Row4 := Lib.hid row4; clear row4
    have Loc4 := Lib.hid loc4; clear loc4
    refine hK.out _ _ (fun _ => ?_) ?_
    · exact ⟨kB, kq⟩
    clear hK K
    refine wpAnyL_one (i := 11) rfl (by kernel_rfl) (fun K hK => ?_)
    go_simp
    refine hK.out _ _ (fun _ => ?_) ?_
    · exact ⟨kB, kq⟩
    clear hK K
    refine wpAnyL_one (i := 12) rfl (by kernel_rfl) (fun K hK => ?_)
    go_simp
    refine hK.out _ _ (fun _ => ?_) ?_
    · exact ⟨kB, kq⟩
    clear hK K
    refine wpAnyL_one (i := 13) rfl (by kernel_rfl) (fun K hK => ?_)
    go_simp
    refine hK.out _ _ (fun h => absurd rfl h) ?_
    clear hK K
    refine wpAnyL_done (by kernel_rfl) ?_ _
    refine NoPanic.normal ?_
    have hmv := grow_close (m := ⟨A, B, ⟨#[109]⟩ ++ s⟩) HC3.out.w55 frm4 Row4.out Loc4.out
    have hsn := send_spec (NetG.moved HC3.out.net HC3.out.w55 hmv) hS (by omega) ⟨⟨hk1, hk2⟩, hk3, hk4⟩ (⟨#[109]⟩ ++ s) (pre_size hs3)
    have Hsn := Lib.hid hsn; clear hsn
    have Hmv := Lib.hid hmv; clear hmv
    go_wp2_with fail
    refine Hsn.out.mono ?_
    rintro e w6 ⟨rfl, ht⟩
    have Ht := Lib.hid ht; clear ht
    go_wp2_with fail
    go_ret
    exact ⟨_, pre_size hs3, Hap.of (v := .int .i64 0) (e := .returned (.int .i64 0)) Hw.out Hn.out HC3.out.below Hmv.out ⟨rfl, Ht.out⟩⟩
  · have hE' : decide ((places A B S.msgs 0).length ≤ i) = false := decide_eq_false hE
    have hE'' : decide (((places A B S.msgs 0).length : Int) ≤ (i : Int)) = false := decide_eq_false (by omega)
    have hw1 : IntKind.i64.wrap ((S.nodes : Int) + 2) = (S.nodes : Int) + 2 := IntWalk.i64_in _ (by omega)
    go_enter Try.func7, Try.ntmps7
    go_wp2_with fail
    go_quiet (fail)
    clear hA hB hI hw1
    go_wp2_with fail
    refine (Hlk.out _).mono ?_
    rintro e w2 ⟨v, rfl, hv, hb⟩
    have hC : Ctx w w2 p q S G ao cap K fr tu ii nn := Ctx.of Hw.out Hn.out (by rw [World.heap_drewN, W1_size] at hb; exact hb)
    have hvB : w.heap.size ≤ (W1 w q K fr tu ii nn).heap.size := by rw [W1_size]; omega
    have cb := hC.cb
    have x0 := hC.x0
    have x4 := hC.x4
    have hw2 := hC.w55
    have d0 := hw2.st.c0
    have d1 := hw2.st.c1
    have df := hw2.st.fz 1
    obtain ⟨ai, ci, rfl, hri, hsi, hli⟩ := hv
    have HC := Lib.hid hC; clear hC hb
    have Hw2 := Lib.hid hw2; clear hw2
    have Hri := Lib.hid hri; clear hri hsi hli
    go_wp2_with fail
    refine (digits_any _ hm0 (by omega) _).mono ?_
    rintro e w3 ⟨s, n3, rfl, hs3, hw3⟩
    have hC3 : Ctx w w3 p q S G ao cap K fr tu ii nn := by rw [hw3]; exact HC.out.drewN n3
    have cb3 := hC3.cb
    have x43 := hC3.x4
    have d03 := hC3.w55.st.c0
    have d13 := hC3.w55.st.c1
    have df3 := hC3.w55.st.fz 1
    have HC3 := Lib.hid hC3; clear hC3 hw3
    go_wp2_with fail
    have gr := Grow.of HC3.out.w55 cb3 HC3.out.boxt A B (⟨#[109]⟩ ++ s)
    obtain ⟨g0a, g0b⟩ := gr.c0
    have Gr := Lib.hid gr; clear gr
    refine wp_region_noPanic ?_
    refine wp_region_L (fun W => W.cell? ⟨w.heap.size, 0, none⟩ = some (.pointer (some ⟨q, 0, none⟩)) ∧ W.cell? ⟨q, 1, none⟩ = some (.slice ao S.msgs.length cap)) 13 (by kernel_rfl) ?_ (fun hHeld => ?_)
    · exact ⟨(by simpa using cb3), (by simpa using d13)⟩
    refine wpAnyL_take (i := 0) (v := ?_) rfl (by kernel_rfl) (by kernel_rfl) (by kernel_rfl) (by kernel_rfl) (fun _ _ _ h => h) (Or.inl ⟨by rfl, ?_⟩) hHeld ?_
    rotate_left
    · ((intro wS hSw; (try dsimp only at hSw); go_simp) <;> with_reducible rfl)
    try simp only [Act.put, List.setIfInBounds_toArray, List.set_cons_zero, List.set_cons_succ]
    refine wpAnyL_take (i := 1) (v := ?_) rfl (by kernel_rfl) (by kernel_rfl) (by kernel_rfl) (by kernel_rfl) (fun _ _ _ h => h) (Or.inl ⟨by rfl, ?_⟩) hHeld ?_
    rotate_left
    · ((intro wS hSw; (try dsimp only at hSw); go_simp) <;> with_reducible rfl)
    try simp only [Act.put, List.setIfInBounds_toArray, List.set_cons_zero, List.set_cons_succ]
    refine wpAnyL_take (i := 2) (v := ?_) rfl (by kernel_rfl) (by kernel_rfl) (by kernel_rfl) (by kernel_rfl) (fun _ _ _ h => h) (Or.inl ⟨by rfl, ?_⟩) hHeld ?_
    rotate_left
    · ((intro wS hSw; (try dsimp only at hSw); go_simp) <;> with_reducible rfl)
    try simp only [Act.put, List.setIfInBounds_toArray, List.set_cons_zero, List.set_cons_succ]
    refine wpAnyL_take (i := 3) (v := ?_) rfl (by kernel_rfl) (by kernel_rfl) (by kernel_rfl) (by kernel_rfl) (fun _ _ _ h => h) (Or.inl ⟨by rfl, ?_⟩) hHeld ?_
    rotate_left
    · ((intro wS hSw; (try dsimp only at hSw); go_simp) <;> with_reducible rfl)
    try simp only [Act.put, List.setIfInBounds_toArray, List.set_cons_zero, List.set_cons_succ]
    refine wpAnyL_take (i := 4) (v := ?_) rfl (by kernel_rfl) (by kernel_rfl) (by kernel_rfl) (by kernel_rfl) (fun _ _ _ h => h) (Or.inl ⟨by rfl, ?_⟩) hHeld ?_
    rotate_left
    · ((intro wS hSw; (try dsimp only at hSw); go_simp) <;> with_reducible rfl)
    try simp only [Act.put, List.setIfInBounds_toArray, List.set_cons_zero, List.set_cons_succ]
    refine wpAnyL_take (i := 5) (v := ?_) rfl (by kernel_rfl) (by kernel_rfl) (by kernel_rfl) (by kernel_rfl) (fun _ _ _ h => h) (Or.inl ⟨by rfl, ?_⟩) hHeld ?_
    rotate_left
    · ((intro wS hSw; (try dsimp only at hSw); go_simp) <;> with_reducible rfl)
    try simp only [Act.put, List.setIfInBounds_toArray, List.set_cons_zero, List.set_cons_succ]
    refine wpAnyL_take (i := 6) (v := ?_) rfl (by kernel_rfl) (by kernel_rfl) (by kernel_rfl) (by kernel_rfl) (fun _ _ _ h => h) (Or.inl ⟨by rfl, ?_⟩) hHeld ?_
    rotate_left
    · ((intro wS hSw; (try dsimp only at hSw); go_simp) <;> with_reducible rfl)
    try simp only [Act.put, List.setIfInBounds_toArray, List.set_cons_zero, List.set_cons_succ]
    refine wpAnyL_take (i := 7) (v := ?_) rfl (by kernel_rfl) (by kernel_rfl) (by kernel_rfl) (by kernel_rfl) (fun _ _ _ h => h) (Or.inl ⟨by rfl, ?_⟩) hHeld ?_
    rotate_left
    · ((intro wS hSw; (try dsimp only at hSw); go_simp) <;> with_reducible rfl)
    try simp only [Act.put, List.setIfInBounds_toArray, List.set_cons_zero, List.set_cons_succ]
    refine wpAnyL_take (i := 8) (v := ?_) rfl (by kernel_rfl) (by kernel_rfl) (by kernel_rfl) (by kernel_rfl) (fun _ _ _ h => h) (Or.inl ⟨by rfl, ?_⟩) hHeld ?_
    rotate_left
    · ((intro wS hSw; (try dsimp only at hSw); go_simp) <;> with_reducible rfl)
    try simp only [Act.put, List.setIfInBounds_toArray, List.set_cons_zero, List.set_cons_succ]
    refine wpAnyL_one (i := 9) rfl (by kernel_rfl) (fun K hK => ?_)
    go_simp
    refine hK.out _ _ (fun _ => ?_) ?_
    · exact ⟨g0a, g0b⟩
    clear hK K
    refine wpAnyL_one (i := 10) rfl (by kernel_rfl) (fun K hK => ?_)
    refine step_app (by rfl) _ _ 34 (by rfl) (Lof ao S.msgs.length cap) 60 i0 _ 3 32 Try.underlying34 hi0 hz0 hz1 hz2 rfl (by decide) (bo := some ⟨w3.heap.size, 0, none⟩) (m := 1) (c := 1) (news := [.int .i64 A, .int .i64 B, .string (⟨#[109]⟩ ++ s)]) ?_ ?_ Gr.out.row Gr.out.sp rfl (fun h => by cases h) Gr.out.news Gr.out.one hmax hbyt ?_
    rfl
    rfl
    intro ao4 cap4 w4 row4 frm4 loc4
    obtain ⟨kB, kq, kf⟩ := Gr.out.keep w4 frm4
    have Row4 := Lib.hid row4; clear row4
    have Loc4 := Lib.hid loc4; clear loc4
    refine hK.out _ _ (fun _ => ?_) ?_
    · exact ⟨kB, kq⟩
    clear hK K
    refine wpAnyL_one (i := 11) rfl (by kernel_rfl) (fun K hK => ?_)
    go_simp
    refine hK.out _ _ (fun _ => ?_) ?_
    · exact ⟨kB, kq⟩
    clear hK K
    refine wpAnyL_one (i := 12) rfl (by kernel_rfl) (fun K hK => ?_)
    go_simp
    refine hK.out _ _ (fun _ => ?_) ?_
    · exact ⟨kB, kq⟩
    clear hK K
    refine wpAnyL_one (i := 13) rfl (by kernel_rfl) (fun K hK => ?_)
    go_simp
    refine hK.out _ _ (fun h => absurd rfl h) ?_
    clear hK K
    refine wpAnyL_done (by kernel_rfl) ?_ _
    refine NoPanic.normal ?_
    have hmv := grow_close (m := ⟨A, B, ⟨#[109]⟩ ++ s⟩) HC3.out.w55 frm4 Row4.out Loc4.out
    have hsn := send_spec (NetG.moved HC3.out.net HC3.out.w55 hmv) hS (by omega) ⟨⟨hk1, hk2⟩, hk3, hk4⟩ (⟨#[109]⟩ ++ s) (pre_size hs3)
    have Hsn := Lib.hid hsn; clear hsn
    have Hmv := Lib.hid hmv; clear hmv
    go_wp2_with fail
    refine Hsn.out.mono ?_
    rintro e w6 ⟨rfl, ht⟩
    have Ht := Lib.hid ht; clear ht
    go_wp2_with fail
    go_ret
    exact ⟨_, pre_size hs3, Hap.of (v := .int .i64 0) (e := .returned (.int .i64 0)) Hw.out Hn.out HC3.out.below Hmv.out ⟨rfl, Ht.out⟩⟩

set_option maxRecDepth 100000 in
set_option maxHeartbeats 2000000 in
theorem hap1_K {w : World} {p q : Nat} {S : NS} {G : Nat → Prop} {N : Nat} {ao : Option Addr} {cap : Nat} (hw : W55G w q S ao cap) (hn : NetG w p S G) (hS : Wf S N) (hN : N ≤ 800)
    (K fr tu ii nn num A B : Int) (i : Nat) (hK : K.tmod 9 = 1) (hm0 : 0 ≤ num) (hm1 : num ≤ 40) (hA : fr.tmod ((S.nodes : Int) + 2) = A) (hB : tu.tmod ((S.nodes : Int) + 2) = B) (hI : ii.tmod 4 = (i : Int)) (hf0 : 0 ≤ fr) (hf1 : fr ≤ 255) (ht0 : 0 ≤ tu) (ht1 : tu ≤ 255) (hi0 : 0 ≤ ii) (hi1 : ii ≤ 255) (hn0 : 0 ≤ nn) (hn1 : nn ≤ 255) (hA0 : 0 ≤ A) (hB0 : 0 ≤ B) (hI1 : (i : Int) ≤ 3) (hA1 : A ≤ 6) (hB1 : B ≤ 6)
    (hk : Knows S A B) :
    Calls Try.prog 7 #[.pointer (some ⟨q, 0, none⟩), .pointer (some ⟨p, 0, none⟩), .agg #[.int .u8 K, .int .u8 fr, .int .u8 tu, .int .u8 ii, .int .u8 nn], .int .i64 num] w fun e w' => ∃ st : ByteArray, st.size ≤ 100 ∧ Hap w p q S (S.add ⟨A, B, st⟩) G ao cap e w' := by
  have hq := hw.st.lt
  have c0 := hw.st.c0
  have hS1 := hS.n1
  have hS2 := hS.n2
  have hlen := hS.len
  have hI0 : (0 : Int) ≤ (i : Int) := by omega
  have hpl : (places A B S.msgs 0).length ≤ N := by rw [places_length]; exact Nat.le_trans (List.length_filter_le _ _) hlen
  have hnz : ((S.nodes : Int) + 2 == 0) = false := by simp; omega
  have hlk := fun n => link_walk q S ao cap A B ((W1 w q K fr tu ii nn).drewN n) ((hw.st.below (W1_below w q K fr tu ii nn)).kept (F := fun _ _ => False) ((Frm.refl _ _).drewN n) (fun _ h => h) (fun _ _ _ _ _ _ h => h)) (by omega)
  have Hlk := Lib.hid hlk; clear hlk
  have Hw := Lib.hid hw; clear hw
  have Hn := Lib.hid hn; clear hn
  obtain ⟨⟨hk1, hk2⟩, hk3, hk4⟩ := hk
  obtain ⟨i0, hi0, hz0, hz1, hz2⟩ := info_parts Try.info60
  have hmax : S.msgs.length + 1 ≤ maxLen := by simp only [maxLen]; omega
  have hbyt : (S.msgs.length + 1) * 32 ≤ 140737488355328 := by omega
  by_cases hE : (places A B S.msgs 0).length ≤ i
  · skip
    have hw1 : IntKind.i64.wrap ((S.nodes : Int) + 2) = (S.nodes : Int) + 2 := IntWalk.i64_in _ (by omega)
    go_enter Try.func7, Try.ntmps7
    go_wp2_with fail
    go_quiet (fail)
    clear hA hB hI hw1
    go_wp2_with fail
    refine (Hlk.out _).mono ?_
    rintro e w2 ⟨v, rfl, hv, hb⟩
    have hC : Ctx w w2 p q S G ao cap K fr tu ii nn := Ctx.of Hw.out Hn.out (by rw [World.heap_drewN, W1_size] at hb; exact hb)
    have hvB : w.heap.size ≤ (W1 w q K fr tu ii nn).heap.size := by rw [W1_size]; omega
    have cb := hC.cb
    have x0 := hC.x0
    have x4 := hC.x4
    have hw2 := hC.w55
    have d0 := hw2.st.c0
    have d1 := hw2.st.c1
    have df := hw2.st.fz 1
    obtain ⟨ai, ci, rfl, hri, hsi, hli⟩ := hv
    have HC := Lib.hid hC; clear hC hb
    have Hw2 := Lib.hid hw2; clear hw2
    have Hri := Lib.hid hri; clear hri hsi hli
    go_wp2_with fail
    refine (digits_any _ hm0 (by omega) _).mono ?_
    rintro e w3 ⟨s, n3, rfl, hs3, hw3⟩
    have hC3 : Ctx w w3 p q S G ao cap K fr tu ii nn := by rw [hw3]; exact HC.out.drewN n3
    have cb3 := hC3.cb
    have x43 := hC3.x4
    have d03 := hC3.w55.st.c0
    have d13 := hC3.w55.st.c1
    have df3 := hC3.w55.st.fz 1
    have HC3 := Lib.hid hC3; clear hC3 hw3
    go_wp2_with fail
    have gr := Grow.of HC3.out.w55 cb3 HC3.out.boxt A B (⟨#[109]⟩ ++ s)
    obtain ⟨g0a, g0b⟩ := gr.c0
    have Gr := Lib.hid gr; clear gr
    refine wp_region_noPanic ?_
    refine wp_region_L (fun W => W.cell? ⟨w.heap.size, 0, none⟩ = some (.pointer (some ⟨q, 0, none⟩)) ∧ W.cell? ⟨q, 1, none⟩ = some (.slice ao S.msgs.length cap)) 13 (by kernel_rfl) ?_ (fun hHeld => ?_)
    · exact ⟨(by simpa using cb3), (by simpa using d13)⟩
    refine wpAnyL_take (i := 0) (v := ?_) rfl (by kernel_rfl) (by kernel_rfl) (by kernel_rfl) (by kernel_rfl) (fun _ _ _ h => h) (Or.inl ⟨by rfl, ?_⟩) hHeld ?_
    rotate_left
    · ((intro wS hSw; (try dsimp only at hSw); go_simp) <;> with_reducible rfl)
    try simp only [Act.put, List.setIfInBounds_toArray, List.set_cons_zero, List.set_cons_succ]
    refine wpAnyL_take (i := 1) (v := ?_) rfl (by kernel_rfl) (by kernel_rfl) (by kernel_rfl) (by kernel_rfl) (fun _ _ _ h => h) (Or.inl ⟨by rfl, ?_⟩) hHeld ?_
    rotate_left
    · ((intro wS hSw; (try dsimp only at hSw); go_simp) <;> with_reducible rfl)
    try simp only [Act.put, List.setIfInBounds_toArray, List.set_cons_zero, List.set_cons_succ]
    refine wpAnyL_take (i := 2) (v := ?_) rfl (by kernel_rfl) (by kernel_rfl) (by kernel_rfl) (by kernel_rfl) (fun _ _ _ h => h) (Or.inl ⟨by rfl, ?_⟩) hHeld ?_
    rotate_left
    · ((intro wS hSw; (try dsimp only at hSw); go_simp) <;> with_reducible rfl)
    try simp only [Act.put, List.setIfInBounds_toArray, List.set_cons_zero, List.set_cons_succ]
    refine wpAnyL_take (i := 3) (v := ?_) rfl (by kernel_rfl) (by kernel_rfl) (by kernel_rfl) (by kernel_rfl) (fun _ _ _ h => h) (Or.inl ⟨by rfl, ?_⟩) hHeld ?_
    rotate_left
    · ((intro wS hSw; (try dsimp only at hSw); go_simp) <;> with_reducible rfl)
    try simp only [Act.put, List.setIfInBounds_toArray, List.set_cons_zero, List.set_cons_succ]
    refine wpAnyL_take (i := 4) (v := ?_) rfl (by kernel_rfl) (by kernel_rfl) (by kernel_rfl) (by kernel_rfl) (fun _ _ _ h => h) (Or.inl ⟨by rfl, ?_⟩) hHeld ?_
    rotate_left
    · ((intro wS hSw; (try dsimp only at hSw); go_simp) <;> with_reducible rfl)
    try simp only [Act.put, List.setIfInBounds_toArray, List.set_cons_zero, List.set_cons_succ]
    refine wpAnyL_take (i := 5) (v := ?_) rfl (by kernel_rfl) (by kernel_rfl) (by kernel_rfl) (by kernel_rfl) (fun _ _ _ h => h) (Or.inl ⟨by rfl, ?_⟩) hHeld ?_
    rotate_left
    · ((intro wS hSw; (try dsimp only at hSw); go_simp) <;> with_reducible rfl)
    try simp only [Act.put, List.setIfInBounds_toArray, List.set_cons_zero, List.set_cons_succ]
    refine wpAnyL_take (i := 6) (v := ?_) rfl (by kernel_rfl) (by kernel_rfl) (by kernel_rfl) (by kernel_rfl) (fun _ _ _ h => h) (Or.inl ⟨by rfl, ?_⟩) hHeld ?_
    rotate_left
    · ((intro wS hSw; (try dsimp only at hSw); go_simp) <;> with_reducible rfl)
    try simp only [Act.put, List.setIfInBounds_toArray, List.set_cons_zero, List.set_cons_succ]
    refine wpAnyL_take (i := 7) (v := ?_) rfl (by kernel_rfl) (by kernel_rfl) (by kernel_rfl) (by kernel_rfl) (fun _ _ _ h => h) (Or.inl ⟨by rfl, ?_⟩) hHeld ?_
    rotate_left
    · ((intro wS hSw; (try dsimp only at hSw); go_simp) <;> with_reducible rfl)
    try simp only [Act.put, List.setIfInBounds_toArray, List.set_cons_zero, List.set_cons_succ]
    refine wpAnyL_take (i := 8) (v := ?_) rfl (by kernel_rfl) (by kernel_rfl) (by kernel_rfl) (by kernel_rfl) (fun _ _ _ h => h) (Or.inl ⟨by rfl, ?_⟩) hHeld ?_
    rotate_left
    · ((intro wS hSw; (try dsimp only at hSw); go_simp) <;> with_reducible rfl)
    try simp only [Act.put, List.setIfInBounds_toArray, List.set_cons_zero, List.set_cons_succ]
    refine wpAnyL_one (i := 9) rfl (by kernel_rfl) (fun K hK => ?_)
    go_simp
    refine hK.out _ _ (fun _ => ?_) ?_
    · exact ⟨g0a, g0b⟩
    clear hK K
    refine wpAnyL_one (i := 10) rfl (by kernel_rfl) (fun K hK => ?_)
    refine step_app (by rfl) _ _ 34 (by rfl) (Lof ao S.msgs.length cap) 60 i0 _ 3 32 Try.underlying34 hi0 hz0 hz1 hz2 rfl (by decide) (bo := some ⟨w3.heap.size, 0, none⟩) (m := 1) (c := 1) (news := [.int .i64 A, .int .i64 B, .string (⟨#[109]⟩ ++ s)]) ?_ ?_ Gr.out.row Gr.out.sp rfl (fun h => by cases h) Gr.out.news Gr.out.one hmax hbyt ?_
    rfl
    rfl
    intro ao4 cap4 w4 row4 frm4 loc4
    obtain ⟨kB, kq, kf⟩ := Gr.out.keep w4 frm4
    have Row4 := Lib.hid row4; clear row4
    have Loc4 := Lib.hid loc4; clear loc4
    refine hK.out _ _ (fun _ => ?_) ?_
    · exact ⟨kB, kq⟩
    clear hK K
    refine wpAnyL_one (i := 11) rfl (by kernel_rfl) (fun K hK => ?_)
    go_simp
    refine hK.out _ _ (fun _ => ?_) ?_
    · exact ⟨kB, kq⟩
    clear hK K
    refine wpAnyL_one (i := 12) rfl (by kernel_rfl) (fun K hK => ?_)
    go_simp
    refine hK.out _ _ (fun _ => ?_) ?_
    · exact ⟨kB, kq⟩
    clear hK K
    refine wpAnyL_one (i := 13) rfl (by kernel_rfl) (fun K hK => ?_)
    go_simp
    refine hK.out _ _ (fun h => absurd rfl h) ?_
    clear hK K
    refine wpAnyL_done (by kernel_rfl) ?_ _
    refine NoPanic.normal ?_
    have hmv := grow_close (m := ⟨A, B, ⟨#[109]⟩ ++ s⟩) HC3.out.w55 frm4 Row4.out Loc4.out
    have hsn := send_spec (NetG.moved HC3.out.net HC3.out.w55 hmv) hS (by omega) ⟨⟨hk1, hk2⟩, hk3, hk4⟩ (⟨#[109]⟩ ++ s) (pre_size hs3)
    have Hsn := Lib.hid hsn; clear hsn
    have Hmv := Lib.hid hmv; clear hmv
    go_wp2_with fail
    refine Hsn.out.mono ?_
    rintro e w6 ⟨rfl, ht⟩
    have Ht := Lib.hid ht; clear ht
    go_wp2_with fail
    go_ret
    exact ⟨_, pre_size hs3, Hap.of (v := .int .i64 0) (e := .returned (.int .i64 0)) Hw.out Hn.out HC3.out.below Hmv.out ⟨rfl, Ht.out⟩⟩
  · have hE' : decide ((places A B S.msgs 0).length ≤ i) = false := decide_eq_false hE
    have hE'' : decide (((places A B S.msgs 0).length : Int) ≤ (i : Int)) = false := decide_eq_false (by omega)
    have hw1 : IntKind.i64.wrap ((S.nodes : Int) + 2) = (S.nodes : Int) + 2 := IntWalk.i64_in _ (by omega)
    go_enter Try.func7, Try.ntmps7
    go_wp2_with fail
    go_quiet (fail)
    clear hA hB hI hw1
    go_wp2_with fail
    refine (Hlk.out _).mono ?_
    rintro e w2 ⟨v, rfl, hv, hb⟩
    have hC : Ctx w w2 p q S G ao cap K fr tu ii nn := Ctx.of Hw.out Hn.out (by rw [World.heap_drewN, W1_size] at hb; exact hb)
    have hvB : w.heap.size ≤ (W1 w q K fr tu ii nn).heap.size := by rw [W1_size]; omega
    have cb := hC.cb
    have x0 := hC.x0
    have x4 := hC.x4
    have hw2 := hC.w55
    have d0 := hw2.st.c0
    have d1 := hw2.st.c1
    have df := hw2.st.fz 1
    obtain ⟨ai, ci, rfl, hri, hsi, hli⟩ := hv
    have HC := Lib.hid hC; clear hC hb
    have Hw2 := Lib.hid hw2; clear hw2
    have Hri := Lib.hid hri; clear hri hsi hli
    go_wp2_with fail
    refine (digits_any _ hm0 (by omega) _).mono ?_
    rintro e w3 ⟨s, n3, rfl, hs3, hw3⟩
    have hC3 : Ctx w w3 p q S G ao cap K fr tu ii nn := by rw [hw3]; exact HC.out.drewN n3
    have cb3 := hC3.cb
    have x43 := hC3.x4
    have d03 := hC3.w55.st.c0
    have d13 := hC3.w55.st.c1
    have df3 := hC3.w55.st.fz 1
    have HC3 := Lib.hid hC3; clear hC3 hw3
    go_wp2_with fail
    have gr := Grow.of HC3.out.w55 cb3 HC3.out.boxt A B (⟨#[109]⟩ ++ s)
    obtain ⟨g0a, g0b⟩ := gr.c0
    have Gr := Lib.hid gr; clear gr
    refine wp_region_noPanic ?_
    refine wp_region_L (fun W => W.cell? ⟨w.heap.size, 0, none⟩ = some (.pointer (some ⟨q, 0, none⟩)) ∧ W.cell? ⟨q, 1, none⟩ = some (.slice ao S.msgs.length cap)) 13 (by kernel_rfl) ?_ (fun hHeld => ?_)
    · exact ⟨(by simpa using cb3), (by simpa using d13)⟩
    refine wpAnyL_take (i := 0) (v := ?_) rfl (by kernel_rfl) (by kernel_rfl) (by kernel_rfl) (by kernel_rfl) (fun _ _ _ h => h) (Or.inl ⟨by rfl, ?_⟩) hHeld ?_
    rotate_left
    · ((intro wS hSw; (try dsimp only at hSw); go_simp) <;> with_reducible rfl)
    try simp only [Act.put, List.setIfInBounds_toArray, List.set_cons_zero, List.set_cons_succ]
    refine wpAnyL_take (i := 1) (v := ?_) rfl (by kernel_rfl) (by kernel_rfl) (by kernel_rfl) (by kernel_rfl) (fun _ _ _ h => h) (Or.inl ⟨by rfl, ?_⟩) hHeld ?_
    rotate_left
    · ((intro wS hSw; (try dsimp only at hSw); go_simp) <;> with_reducible rfl)
    try simp only [Act.put, List.setIfInBounds_toArray, List.set_cons_zero, List.set_cons_succ]
    refine wpAnyL_take (i := 2) (v := ?_) rfl (by kernel_rfl) (by kernel_rfl) (by kernel_rfl) (by kernel_rfl) (fun _ _ _ h => h) (Or.inl ⟨by rfl, ?_⟩) hHeld ?_
    rotate_left
    · ((intro wS hSw; (try dsimp only at hSw); go_simp) <;> with_reducible rfl)
    try simp only [Act.put, List.setIfInBounds_toArray, List.set_cons_zero, List.set_cons_succ]
    refine wpAnyL_take (i := 3) (v := ?_) rfl (by kernel_rfl) (by kernel_rfl) (by kernel_rfl) (by kernel_rfl) (fun _ _ _ h => h) (Or.inl ⟨by rfl, ?_⟩) hHeld ?_
    rotate_left
    · ((intro wS hSw; (try dsimp only at hSw); go_simp) <;> with_reducible rfl)
    try simp only [Act.put, List.setIfInBounds_toArray, List.set_cons_zero, List.set_cons_succ]
    refine wpAnyL_take (i := 4) (v := ?_) rfl (by kernel_rfl) (by kernel_rfl) (by kernel_rfl) (by kernel_rfl) (fun _ _ _ h => h) (Or.inl ⟨by rfl, ?_⟩) hHeld ?_
    rotate_left
    · ((intro wS hSw; (try dsimp only at hSw); go_simp) <;> with_reducible rfl)
    try simp only [Act.put, List.setIfInBounds_toArray, List.set_cons_zero, List.set_cons_succ]
    refine wpAnyL_take (i := 5) (v := ?_) rfl (by kernel_rfl) (by kernel_rfl) (by kernel_rfl) (by kernel_rfl) (fun _ _ _ h => h) (Or.inl ⟨by rfl, ?_⟩) hHeld ?_
    rotate_left
    · ((intro wS hSw; (try dsimp only at hSw); go_simp) <;> with_reducible rfl)
    try simp only [Act.put, List.setIfInBounds_toArray, List.set_cons_zero, List.set_cons_succ]
    refine wpAnyL_take (i := 6) (v := ?_) rfl (by kernel_rfl) (by kernel_rfl) (by kernel_rfl) (by kernel_rfl) (fun _ _ _ h => h) (Or.inl ⟨by rfl, ?_⟩) hHeld ?_
    rotate_left
    · ((intro wS hSw; (try dsimp only at hSw); go_simp) <;> with_reducible rfl)
    try simp only [Act.put, List.setIfInBounds_toArray, List.set_cons_zero, List.set_cons_succ]
    refine wpAnyL_take (i := 7) (v := ?_) rfl (by kernel_rfl) (by kernel_rfl) (by kernel_rfl) (by kernel_rfl) (fun _ _ _ h => h) (Or.inl ⟨by rfl, ?_⟩) hHeld ?_
    rotate_left
    · ((intro wS hSw; (try dsimp only at hSw); go_simp) <;> with_reducible rfl)
    try simp only [Act.put, List.setIfInBounds_toArray, List.set_cons_zero, List.set_cons_succ]
    refine wpAnyL_take (i := 8) (v := ?_) rfl (by kernel_rfl) (by kernel_rfl) (by kernel_rfl) (by kernel_rfl) (fun _ _ _ h => h) (Or.inl ⟨by rfl, ?_⟩) hHeld ?_
    rotate_left
    · ((intro wS hSw; (try dsimp only at hSw); go_simp) <;> with_reducible rfl)
    try simp only [Act.put, List.setIfInBounds_toArray, List.set_cons_zero, List.set_cons_succ]
    refine wpAnyL_one (i := 9) rfl (by kernel_rfl) (fun K hK => ?_)
    go_simp
    refine hK.out _ _ (fun _ => ?_) ?_
    · exact ⟨g0a, g0b⟩
    clear hK K
    refine wpAnyL_one (i := 10) rfl (by kernel_rfl) (fun K hK => ?_)
    refine step_app (by rfl) _ _ 34 (by rfl) (Lof ao S.msgs.length cap) 60 i0 _ 3 32 Try.underlying34 hi0 hz0 hz1 hz2 rfl (by decide) (bo := some ⟨w3.heap.size, 0, none⟩) (m := 1) (c := 1) (news := [.int .i64 A, .int .i64 B, .string (⟨#[109]⟩ ++ s)]) ?_ ?_ Gr.out.row Gr.out.sp rfl (fun h => by cases h) Gr.out.news Gr.out.one hmax hbyt ?_
    rfl
    rfl
    intro ao4 cap4 w4 row4 frm4 loc4
    obtain ⟨kB, kq, kf⟩ := Gr.out.keep w4 frm4
    have Row4 := Lib.hid row4; clear row4
    have Loc4 := Lib.hid loc4; clear loc4
    refine hK.out _ _ (fun _ => ?_) ?_
    · exact ⟨kB, kq⟩
    clear hK K
    refine wpAnyL_one (i := 11) rfl (by kernel_rfl) (fun K hK => ?_)
    go_simp
    refine hK.out _ _ (fun _ => ?_) ?_
    · exact ⟨kB, kq⟩
    clear hK K
    refine wpAnyL_one (i := 12) rfl (by kernel_rfl) (fun K hK => ?_)
    go_simp
    refine hK.out _ _ (fun _ => ?_) ?_
    · exact ⟨kB, kq⟩
    clear hK K
    refine wpAnyL_one (i := 13) rfl (by kernel_rfl) (fun K hK => ?_)
    go_simp
    refine hK.out _ _ (fun h => absurd rfl h) ?_
    clear hK K
    refine wpAnyL_done (by kernel_rfl) ?_ _
    refine NoPanic.normal ?_
    have hmv := grow_close (m := ⟨A, B, ⟨#[109]⟩ ++ s⟩) HC3.out.w55 frm4 Row4.out Loc4.out
    have hsn := send_spec (NetG.moved HC3.out.net HC3.out.w55 hmv) hS (by omega) ⟨⟨hk1, hk2⟩, hk3, hk4⟩ (⟨#[109]⟩ ++ s) (pre_size hs3)
    have Hsn := Lib.hid hsn; clear hsn
    have Hmv := Lib.hid hmv; clear hmv
    go_wp2_with fail
    refine Hsn.out.mono ?_
    rintro e w6 ⟨rfl, ht⟩
    have Ht := Lib.hid ht; clear ht
    go_wp2_with fail
    go_ret
    exact ⟨_, pre_size hs3, Hap.of (v := .int .i64 0) (e := .returned (.int .i64 0)) Hw.out Hn.out HC3.out.below Hmv.out ⟨rfl, Ht.out⟩⟩

end Go.Proofs.Ytcjcccmlpilbbaa
