/- Hap23b: lemmas on the way to the law (no condition of their own beyond what each states). -/
import Derived.Test.YtcjcccmlpilbbaaHapJ
namespace Go.Proofs.Ytcjcccmlpilbbaa
open Go.RowKit Go.K55 Go.Maps
set_option linter.unusedVariables false
set_option linter.unusedSimpArgs false

set_option maxRecDepth 100000 in
set_option maxHeartbeats 2000000 in
theorem hap2_P {w : World} {p q : Nat} {S : NS} {G : Nat → Prop} {N : Nat} {ao : Option Addr} {cap : Nat} (hw : W55G w q S ao cap) (hn : NetG w p S G) (hS : Wf S N) (hN : N ≤ 800)
    (K fr tu ii nn num A B : Int) (i : Nat) (hK : K.tmod 9 = 2) (hm0 : 0 ≤ num) (hm1 : num ≤ 40) (hA : fr.tmod ((S.nodes : Int) + 2) = A) (hB : tu.tmod ((S.nodes : Int) + 2) = B) (hI : ii.tmod 4 = (i : Int)) (hf0 : 0 ≤ fr) (hf1 : fr ≤ 255) (ht0 : 0 ≤ tu) (ht1 : tu ≤ 255) (hi0 : 0 ≤ ii) (hi1 : ii ≤ 255) (hn0 : 0 ≤ nn) (hn1 : nn ≤ 255) (hA0 : 0 ≤ A) (hB0 : 0 ≤ B) (hI1 : (i : Int) ≤ 3) (hA1 : A ≤ 6) (hB1 : B ≤ 6)
    (hk : Knows S A B) (hO : i < (places A B S.msgs 0).length) (hsd : (S.side A.toNat != S.side B.toNat) = true) :
    Calls Try.prog 7 #[.pointer (some ⟨q, 0, none⟩), .pointer (some ⟨p, 0, none⟩), .agg #[.int .u8 K, .int .u8 fr, .int .u8 tu, .int .u8 ii, .int .u8 nn], .int .i64 num] w (Hap w p q S S G ao cap) := by
  have hq := hw.st.lt
  have c0 := hw.st.c0
  have hS1 := hS.n1
  have hS2 := hS.n2
  have hlen := hS.len
  have hI0 : (0 : Int) ≤ (i : Int) := by omega
  have hpl : (places A B S.msgs 0).length ≤ N := by rw [places_length]; exact Nat.le_trans (List.length_filter_le _ _) hlen
  have hnz : ((S.nodes : Int) + 2 == 0) = false := by simp; omega
  have hlk := fun n => link_walk q S ao cap A B ((W1 w q K fr tu ii nn).drewN n) ((hw.st.below (W1_below w q K fr tu ii nn)).kept (F := fun _ _ => False) ((Frm.refl _ _).drewN n) (fun _ h => h) (fun _ _ _ _ _ _ h => h)) (by omega)
  have Hlk := Lib.hid hlk; clear hlk
  have Hw := Lib.hid hw; clear hw
  have Hn := Lib.hid hn; clear hn
  have hk0 := hk
  obtain ⟨⟨hk1, hk2⟩, hk3, hk4⟩ := hk
  have hki := List.getElem?_eq_getElem hO
  generalize (places A B S.msgs 0)[i] = k at hki
  obtain ⟨m, hm, hkl, hmA, hmB⟩ := place_msg hki
  have Hki := Lib.hid hki; clear hki
  have Hm := Lib.hid hm; clear hm
  have HmA := Lib.hid hmA; clear hmA
  have HmB := Lib.hid hmB; clear hmB
  have hE' : decide ((places A B S.msgs 0).length ≤ i) = false := decide_eq_false (by omega)
  have hE'' : decide (((places A B S.msgs 0).length : Int) ≤ (i : Int)) = false := decide_eq_false (by omega)
  have hOI : (i : Int) < ((places A B S.msgs 0).length : Int) := by omega
  have hAB0 : A ≠ B := by
    rintro rfl; simp at hsd
  have hAB1 : (A == B) = false := by simpa using hAB0
  have hAB2 : (A != B) = true := by simpa using hAB0
  have hsd2 : (S.side A.toNat == S.side B.toNat) = false := by simpa [bne] using hsd
  have Hsd := Lib.hid hsd; clear hsd
  have hw1 : IntKind.i64.wrap ((S.nodes : Int) + 2) = (S.nodes : Int) + 2 := IntWalk.i64_in _ (by omega)
  go_enter Try.func7, Try.ntmps7
  go_wp2_with fail
  go_quiet (fail)
  clear hA hB hI hw1
  go_wp2_with fail
  refine (Hlk.out _).mono ?_
  rintro e w2 ⟨v, rfl, hv, hb⟩
  have hC : Ctx w w2 p q S G ao cap K fr tu ii nn := Ctx.of Hw.out Hn.out (by rw [World.heap_drewN, W1_size] at hb; exact hb)
  have hvB : w.heap.size ≤ (W1 w q K fr tu ii nn).heap.size := by rw [W1_size]; omega
  have cb := hC.cb
  have x0 := hC.x0
  have x4 := hC.x4
  have hw2 := hC.w55
  have d0 := hw2.st.c0
  have d1 := hw2.st.c1
  have df := hw2.st.fz 1
  have sA := hw2.st.sd A.toNat (by omega)
  have sB := hw2.st.sd B.toNat (by omega)
  obtain ⟨ai, ci, rfl, hri, hsi, hli⟩ := hv
  have HC := Lib.hid hC; clear hC hb
  have Hw2 := Lib.hid hw2; clear hw2
  have Hri := Lib.hid hri; clear hri hsi hli
  obtain ⟨lb2, lo2, hai, hlc⟩ := link_cell Hri.out Hki.out
  subst hai
  go_wp2_with fail
  go_quiet (fail)
  go_wp2_with fail
  have hsn := fun n => take_parted_spec (HC.out.drewN n).net hS (by omega) ⟨⟨hk1, hk2⟩, hk3, hk4⟩ Hki.out Hm.out Hsd.out
  have Hsn := Lib.hid hsn; clear hsn
  refine (Hsn.out _).mono ?_
  rintro e w4 ⟨rfl, hb4⟩
  have Hb4 := Lib.hid hb4; clear hb4
  unfold pkt0
  go_wp2_with fail
  go_ret
  exact Hap.sameA Hw.out Hn.out (HC.out.drewN _).below Hb4.out _

set_option maxRecDepth 100000 in
set_option maxHeartbeats 2000000 in
theorem hap3_P {w : World} {p q : Nat} {S : NS} {G : Nat → Prop} {N : Nat} {ao : Option Addr} {cap : Nat} (hw : W55G w q S ao cap) (hn : NetG w p S G) (hS : Wf S N) (hN : N ≤ 800)
    (K fr tu ii nn num A B : Int) (i : Nat) (hK : K.tmod 9 = 3) (hm0 : 0 ≤ num) (hm1 : num ≤ 40) (hA : fr.tmod ((S.nodes : Int) + 2) = A) (hB : tu.tmod ((S.nodes : Int) + 2) = B) (hI : ii.tmod 4 = (i : Int)) (hf0 : 0 ≤ fr) (hf1 : fr ≤ 255) (ht0 : 0 ≤ tu) (ht1 : tu ≤ 255) (hi0 : 0 ≤ ii) (hi1 : ii ≤ 255) (hn0 : 0 ≤ nn) (hn1 : nn ≤ 255) (hA0 : 0 ≤ A) (hB0 : 0 ≤ B) (hI1 : (i : Int) ≤ 3) (hA1 : A ≤ 6) (hB1 : B ≤ 6)
    (hk : Knows S A B) (hO : i < (places A B S.msgs 0).length) (hsd : (S.side A.toNat != S.side B.toNat) = true) :
    Calls Try.prog 7 #[.pointer (some ⟨q, 0, none⟩), .pointer (some ⟨p, 0, none⟩), .agg #[.int .u8 K, .int .u8 fr, .int .u8 tu, .int .u8 ii, .int .u8 nn], .int .i64 num] w (Hap w p q S S G ao cap) := by
  have hq := hw.st.lt
  have c0 := hw.st.c0
  have hS1 := hS.n1
  have hS2 := hS.n2
  have hlen := hS.len
  have hI0 : (0 : Int) ≤ (i : Int) := by omega
  have hpl : (places A B S.msgs 0).length ≤ N := by rw [places_length]; exact Nat.le_trans (List.length_filter_le _ _) hlen
  have hnz : ((S.nodes : Int) + 2 == 0) = false := by simp; omega
  have hlk := fun n => link_walk q S ao cap A B ((W1 w q K fr tu ii nn).drewN n) ((hw.st.below (W1_below w q K fr tu ii nn)).kept (F := fun _ _ => False) ((Frm.refl _ _).drewN n) (fun _ h => h) (fun _ _ _ _ _ _ h => h)) (by omega)
  have Hlk := Lib.hid hlk; clear hlk
  have Hw := Lib.hid hw; clear hw
  have Hn := Lib.hid hn; clear hn
  have hk0 := hk
  obtain ⟨⟨hk1, hk2⟩, hk3, hk4⟩ := hk
  have hki := List.getElem?_eq_getElem hO
  generalize (places A B S.msgs 0)[i] = k at hki
  obtain ⟨m, hm, hkl, hmA, hmB⟩ := place_msg hki
  have Hki := Lib.hid hki; clear hki
  have Hm := Lib.hid hm; clear hm
  have HmA := Lib.hid hmA; clear hmA
  have HmB := Lib.hid hmB; clear hmB
  have hE' : decide ((places A B S.msgs 0).length ≤ i) = false := decide_eq_false (by omega)
  have hE'' : decide (((places A B S.msgs 0).length : Int) ≤ (i : Int)) = false := decide_eq_false (by omega)
  have hOI : (i : Int) < ((places A B S.msgs 0).length : Int) := by omega
  have hAB0 : A ≠ B := by
    rintro rfl; simp at hsd
  have hAB1 : (A == B) = false := by simpa using hAB0
  have hAB2 : (A != B) = true := by simpa using hAB0
  have hsd2 : (S.side A.toNat == S.side B.toNat) = false := by simpa [bne] using hsd
  have Hsd := Lib.hid hsd; clear hsd
  have hw1 : IntKind.i64.wrap ((S.nodes : Int) + 2) = (S.nodes : Int) + 2 := IntWalk.i64_in _ (by omega)
  go_enter Try.func7, Try.ntmps7
  go_wp2_with fail
  go_quiet (fail)
  clear hA hB hI hw1
  go_wp2_with fail
  refine (Hlk.out _).mono ?_
  rintro e w2 ⟨v, rfl, hv, hb⟩
  have hC : Ctx w w2 p q S G ao cap K fr tu ii nn := Ctx.of Hw.out Hn.out (by rw [World.heap_drewN, W1_size] at hb; exact hb)
  have hvB : w.heap.size ≤ (W1 w q K fr tu ii nn).heap.size := by rw [W1_size]; omega
  have cb := hC.cb
  have x0 := hC.x0
  have x4 := hC.x4
  have hw2 := hC.w55
  have d0 := hw2.st.c0
  have d1 := hw2.st.c1
  have df := hw2.st.fz 1
  have sA := hw2.st.sd A.toNat (by omega)
  have sB := hw2.st.sd B.toNat (by omega)
  obtain ⟨ai, ci, rfl, hri, hsi, hli⟩ := hv
  have HC := Lib.hid hC; clear hC hb
  have Hw2 := Lib.hid hw2; clear hw2
  have Hri := Lib.hid hri; clear hri hsi hli
  obtain ⟨lb2, lo2, hai, hlc⟩ := link_cell Hri.out Hki.out
  subst hai
  go_wp2_with fail
  go_quiet (fail)
  go_wp2_with fail
  have hsn := fun n => take_parted_spec (HC.out.drewN n).net hS (by omega) ⟨⟨hk1, hk2⟩, hk3, hk4⟩ Hki.out Hm.out Hsd.out
  have Hsn := Lib.hid hsn; clear hsn
  refine (Hsn.out _).mono ?_
  rintro e w4 ⟨rfl, hb4⟩
  have Hb4 := Lib.hid hb4; clear hb4
  unfold pkt0
  go_wp2_with fail
  go_ret
  exact Hap.sameA Hw.out Hn.out (HC.out.drewN _).below Hb4.out _

set_option maxRecDepth 100000 in
set_option maxHeartbeats 2000000 in
theorem hap2_N {w : World} {p q : Nat} {S : NS} {G : Nat → Prop} {N : Nat} {ao : Option Addr} {cap : Nat} (hw : W55G w q S ao cap) (hn : NetG w p S G) (hS : Wf S N) (hN : N ≤ 800)
    (K fr tu ii nn num A B : Int) (i : Nat) (hK : K.tmod 9 = 2) (hm0 : 0 ≤ num) (hm1 : num ≤ 40) (hA : fr.tmod ((S.nodes : Int) + 2) = A) (hB : tu.tmod ((S.nodes : Int) + 2) = B) (hI : ii.tmod 4 = (i : Int)) (hf0 : 0 ≤ fr) (hf1 : fr ≤ 255) (ht0 : 0 ≤ tu) (ht1 : tu ≤ 255) (hi0 : 0 ≤ ii) (hi1 : ii ≤ 255) (hn0 : 0 ≤ nn) (hn1 : nn ≤ 255) (hA0 : 0 ≤ A) (hB0 : 0 ≤ B) (hI1 : (i : Int) ≤ 3) (hA1 : A ≤ 6) (hB1 : B ≤ 6)
    (hk : Knows S A B) (hO : i < (places A B S.msgs 0).length) (hAB : A ≠ B) (hsd : (S.side A.toNat != S.side B.toNat) = false) :
    Calls Try.prog 7 #[.pointer (some ⟨q, 0, none⟩), .pointer (some ⟨p, 0, none⟩), .agg #[.int .u8 K, .int .u8 fr, .int .u8 tu, .int .u8 ii, .int .u8 nn], .int .i64 num] w fun e w' => ∃ k m, (places A B S.msgs 0)[i]? = some k ∧ S.msgs[k]? = some m ∧ Hap w p q S (S.del k) G ao cap e w' := by
  have hmsgs : 0 < S.msgs.length := by
    have := List.length_filter_le (hit A B) S.msgs
    rw [places_length] at hO; omega
  obtain ⟨xb, off, rfl⟩ := hw.st.row.some (by have := hw.st.row.1; omega)
  have hq := hw.st.lt
  have c0 := hw.st.c0
  have hS1 := hS.n1
  have hS2 := hS.n2
  have hlen := hS.len
  have hI0 : (0 : Int) ≤ (i : Int) := by omega
  have hpl : (places A B S.msgs 0).length ≤ N := by rw [places_length]; exact Nat.le_trans (List.length_filter_le _ _) hlen
  have hnz : ((S.nodes : Int) + 2 == 0) = false := by simp; omega
  have hlk := fun n => link_walk q S (some ⟨xb, off, none⟩) cap A B ((W1 w q K fr tu ii nn).drewN n) ((hw.st.below (W1_below w q K fr tu ii nn)).kept (F := fun _ _ => False) ((Frm.refl _ _).drewN n) (fun _ h => h) (fun _ _ _ _ _ _ h => h)) (by omega)
  have Hlk := Lib.hid hlk; clear hlk
  have Hw := Lib.hid hw; clear hw
  have Hn := Lib.hid hn; clear hn
  have hk0 := hk
  obtain ⟨⟨hk1, hk2⟩, hk3, hk4⟩ := hk
  have hki := List.getElem?_eq_getElem hO
  generalize (places A B S.msgs 0)[i] = k at hki
  obtain ⟨m, hm, hkl, hmA, hmB⟩ := place_msg hki
  have Hki := Lib.hid hki; clear hki
  have Hm := Lib.hid hm; clear hm
  have HmA := Lib.hid hmA; clear hmA
  have HmB := Lib.hid hmB; clear hmB
  have hE' : decide ((places A B S.msgs 0).length ≤ i) = false := decide_eq_false (by omega)
  have hE'' : decide (((places A B S.msgs 0).length : Int) ≤ (i : Int)) = false := decide_eq_false (by omega)
  have hOI : (i : Int) < ((places A B S.msgs 0).length : Int) := by omega
  have hAB1 : (A == B) = false := by simpa using hAB
  have hAB2 : (A != B) = true := by simpa using hAB
  have hsd2 : (S.side A.toNat == S.side B.toNat) = true := by simpa [bne] using hsd
  have Hsd := Lib.hid hsd; clear hsd
  have hw1 : IntKind.i64.wrap ((S.nodes : Int) + 2) = (S.nodes : Int) + 2 := IntWalk.i64_in _ (by omega)
  go_enter Try.func7, Try.ntmps7
  go_wp2_with fail
  go_quiet (fail)
  clear hA hB hI hw1
  go_wp2_with fail
  refine (Hlk.out _).mono ?_
  rintro e w2 ⟨v, rfl, hv, hb⟩
  have hC : Ctx w w2 p q S G (some ⟨xb, off, none⟩) cap K fr tu ii nn := Ctx.of Hw.out Hn.out (by rw [World.heap_drewN, W1_size] at hb; exact hb)
  have hvB : w.heap.size ≤ (W1 w q K fr tu ii nn).heap.size := by rw [W1_size]; omega
  have cb := hC.cb
  have x0 := hC.x0
  have x4 := hC.x4
  have hw2 := hC.w55
  have d0 := hw2.st.c0
  have d1 := hw2.st.c1
  have df := hw2.st.fz 1
  have sA := hw2.st.sd A.toNat (by omega)
  have sB := hw2.st.sd B.toNat (by omega)
  obtain ⟨ai, ci, rfl, hri, hsi, hli⟩ := hv
  have HC := Lib.hid hC; clear hC hb
  have Hw2 := Lib.hid hw2; clear hw2
  have Hri := Lib.hid hri; have hlb : w.heap.size ≤ ((ai.getD ⟨0, 0, none⟩).block) := by
    obtain ⟨b0, o0, hai⟩ := hri.some (by have := hri.1; omega)
    have := hli _ hai (by have := hri.1; omega)
    rw [World.heap_drewN, W1_size] at this
    rw [hai]; simp only [Option.getD]; exact Nat.le_trans (Nat.le_add_right _ 2) this
  clear hri hsi hli
  obtain ⟨lb2, lo2, hai, hlc⟩ := link_cell Hri.out Hki.out
  subst hai
  simp only [Option.getD] at hlb
  go_wp2_with fail
  go_quiet (fail)
  go_wp2_with fail
  have hsn := fun n => take_spec (HC.out.drewN n).net hS (by omega) ⟨⟨hk1, hk2⟩, hk3, hk4⟩ Hki.out Hm.out Hsd.out
  have Hsn := Lib.hid hsn; clear hsn
  refine (Hsn.out _).mono ?_
  rintro e w4 ⟨rfl, ht⟩
  obtain ⟨G', g1, g2, g3⟩ := id ht
  have hw4 := W55G.turned (HC.out.drewN _).w55 (HC.out.drewN _).net g3
  have cb4 := Below.turn (HC.out.drewN _).net Hn.out.glt g3 (Nat.le_refl _) (HC.out.drewN _).cb
  have hlc4 := Below.turn (HC.out.drewN _).net Hn.out.glt g3 hlb (show (World.drewN w2 _).cell? _ = _ from hlc)
  obtain ⟨p0, p1, p2⟩ := pkts_get S.msgs k m Hm.out
  have e0 := hw4.st.row.cell p0
  have e1 : w4.cell? ⟨xb, off + k * 3 + 1, none⟩ = _ := hw4.st.row.cell p1
  have e2 : w4.cell? ⟨xb, off + k * 3 + 2, none⟩ = _ := hw4.st.row.cell p2
  have e3 := hw4.st.c1
  have hl4 : lb2 < w4.heap.size := World.block_lt_of_cell? _ _ hlc4
  have hx4 : xb < w4.heap.size := World.block_lt_of_cell? _ _ e0
  have hb4 : w.heap.size < w4.heap.size := World.block_lt_of_cell? _ _ cb4
  have hq4 : q < w4.heap.size := World.block_lt_of_cell? _ _ e3
  have Hw4 := Lib.hid hw4; clear hw4
  have Ht := Lib.hid ht; clear ht g1 g2 g3 p0 p1 p2
  unfold pkt
  go_wp2_with fail
  have h45 : Below w4.heap.size w4 ((w4.alloc (msgX m.fr m.to m.s)).alloc (msgX m.fr m.to m.s)) := ((Below.refl _ _).alloc (Nat.le_refl _) _).alloc (by simp) _
  refine (without_spec (Hw4.out.below h45) (Below.at h45 hb4 cb4) hkl (by omega)).mono ?_
  rintro e w6 ⟨rfl, hmv⟩
  obtain ⟨⟨u0, u1, u2⟩, u3, u4, u5⟩ := two_boxes Hw4.out hmv
  have Hmv := Lib.hid hmv; clear hmv
  have H45 := Lib.hid h45; clear h45
  go_wp2_with fail
  go_ret
  exact ⟨_, _, Hki.out, Hm.out, Hap.of2 Hw.out Hn.out (HC.out.drewN _).below Ht.out H45.out Hmv.out (Below.refl _ _)⟩

set_option maxRecDepth 100000 in
set_option maxHeartbeats 2000000 in
theorem hap3_N {w : World} {p q : Nat} {S : NS} {G : Nat → Prop} {N : Nat} {ao : Option Addr} {cap : Nat} (hw : W55G w q S ao cap) (hn : NetG w p S G) (hS : Wf S N) (hN : N ≤ 800)
    (K fr tu ii nn num A B : Int) (i : Nat) (hK : K.tmod 9 = 3) (hm0 : 0 ≤ num) (hm1 : num ≤ 40) (hA : fr.tmod ((S.nodes : Int) + 2) = A) (hB : tu.tmod ((S.nodes : Int) + 2) = B) (hI : ii.tmod 4 = (i : Int)) (hf0 : 0 ≤ fr) (hf1 : fr ≤ 255) (ht0 : 0 ≤ tu) (ht1 : tu ≤ 255) (hi0 : 0 ≤ ii) (hi1 : ii ≤ 255) (hn0 : 0 ≤ nn) (hn1 : nn ≤ 255) (hA0 : 0 ≤ A) (hB0 : 0 ≤ B) (hI1 : (i : Int) ≤ 3) (hA1 : A ≤ 6) (hB1 : B ≤ 6)
    (hk : Knows S A B) (hO : i < (places A B S.msgs 0).length) (hAB : A ≠ B) (hsd : (S.side A.toNat != S.side B.toNat) = false) :
    Calls Try.prog 7 #[.pointer (some ⟨q, 0, none⟩), .pointer (some ⟨p, 0, none⟩), .agg #[.int .u8 K, .int .u8 fr, .int .u8 tu, .int .u8 ii, .int .u8 nn], .int .i64 num] w fun e w' => ∃ k m, (places A B S.msgs 0)[i]? = some k ∧ S.msgs[k]? = some m ∧ Hap w p q S (S.del k) G ao cap e w' := by
  have hmsgs : 0 < S.msgs.length := by
    have := List.length_filter_le (hit A B) S.msgs
    rw [places_length] at hO; omega
  obtain ⟨xb, off, rfl⟩ := hw.st.row.some (by have := hw.st.row.1; omega)
  have hq := hw.st.lt
  have c0 := hw.st.c0
  have hS1 := hS.n1
  have hS2 := hS.n2
  have hlen := hS.len
  have hI0 : (0 : Int) ≤ (i : Int) := by omega
  have hpl : (places A B S.msgs 0).length ≤ N := by rw [places_length]; exact Nat.le_trans (List.length_filter_le _ _) hlen
  have hnz : ((S.nodes : Int) + 2 == 0) = false := by simp; omega
  have hlk := fun n => link_walk q S (some ⟨xb, off, none⟩) cap A B ((W1 w q K fr tu ii nn).drewN n) ((hw.st.below (W1_below w q K fr tu ii nn)).kept (F := fun _ _ => False) ((Frm.refl _ _).drewN n) (fun _ h => h) (fun _ _ _ _ _ _ h => h)) (by omega)
  have Hlk := Lib.hid hlk; clear hlk
  have Hw := Lib.hid hw; clear hw
  have Hn := Lib.hid hn; clear hn
  have hk0 := hk
  obtain ⟨⟨hk1, hk2⟩, hk3, hk4⟩ := hk
  have hki := List.getElem?_eq_getElem hO
  generalize (places A B S.msgs 0)[i] = k at hki
  obtain ⟨m, hm, hkl, hmA, hmB⟩ := place_msg hki
  have Hki := Lib.hid hki; clear hki
  have Hm := Lib.hid hm; clear hm
  have HmA := Lib.hid hmA; clear hmA
  have HmB := Lib.hid hmB; clear hmB
  have hE' : decide ((places A B S.msgs 0).length ≤ i) = false := decide_eq_false (by omega)
  have hE'' : decide (((places A B S.msgs 0).length : Int) ≤ (i : Int)) = false := decide_eq_false (by omega)
  have hOI : (i : Int) < ((places A B S.msgs 0).length : Int) := by omega
  have hAB1 : (A == B) = false := by simpa using hAB
  have hAB2 : (A != B) = true := by simpa using hAB
  have hsd2 : (S.side A.toNat == S.side B.toNat) = true := by simpa [bne] using hsd
  have Hsd := Lib.hid hsd; clear hsd
  have hw1 : IntKind.i64.wrap ((S.nodes : Int) + 2) = (S.nodes : Int) + 2 := IntWalk.i64_in _ (by omega)
  go_enter Try.func7, Try.ntmps7
  go_wp2_with fail
  go_quiet (fail)
  clear hA hB hI hw1
  go_wp2_with fail
  refine (Hlk.out _).mono ?_
  rintro e w2 ⟨v, rfl, hv, hb⟩
  have hC : Ctx w w2 p q S G (some ⟨xb, off, none⟩) cap K fr tu ii nn := Ctx.of Hw.out Hn.out (by rw [World.heap_drewN, W1_size] at hb; exact hb)
  have hvB : w.heap.size ≤ (W1 w q K fr tu ii nn).heap.size := by rw [W1_size]; omega
  have cb := hC.cb
  have x0 := hC.x0
  have x4 := hC.x4
  have hw2 := hC.w55
  have d0 := hw2.st.c0
  have d1 := hw2.st.c1
  have df := hw2.st.fz 1
  have sA := hw2.st.sd A.toNat (by omega)
  have sB := hw2.st.sd B.toNat (by omega)
  obtain ⟨ai, ci, rfl, hri, hsi, hli⟩ := hv
  have HC := Lib.hid hC; clear hC hb
  have Hw2 := Lib.hid hw2; clear hw2
  have Hri := Lib.hid hri; have hlb : w.heap.size ≤ ((ai.getD ⟨0, 0, none⟩).block) := by
    obtain ⟨b0, o0, hai⟩ := hri.some (by have := hri.1; omega)
    have := hli _ hai (by have := hri.1; omega)
    rw [World.heap_drewN, W1_size] at this
    rw [hai]; simp only [Option.getD]; exact Nat.le_trans (Nat.le_add_right _ 2) this
  clear hri hsi hli
  obtain ⟨lb2, lo2, hai, hlc⟩ := link_cell Hri.out Hki.out
  subst hai
  simp only [Option.getD] at hlb
  go_wp2_with fail
  go_quiet (fail)
  go_wp2_with fail
  have hsn := fun n => take_spec (HC.out.drewN n).net hS (by omega) ⟨⟨hk1, hk2⟩, hk3, hk4⟩ Hki.out Hm.out Hsd.out
  have Hsn := Lib.hid hsn; clear hsn
  refine (Hsn.out _).mono ?_
  rintro e w4 ⟨rfl, ht⟩
  obtain ⟨G', g1, g2, g3⟩ := id ht
  have hw4 := W55G.turned (HC.out.drewN _).w55 (HC.out.drewN _).net g3
  have cb4 := Below.turn (HC.out.drewN _).net Hn.out.glt g3 (Nat.le_refl _) (HC.out.drewN _).cb
  have hlc4 := Below.turn (HC.out.drewN _).net Hn.out.glt g3 hlb (show (World.drewN w2 _).cell? _ = _ from hlc)
  obtain ⟨p0, p1, p2⟩ := pkts_get S.msgs k m Hm.out
  have e0 := hw4.st.row.cell p0
  have e1 : w4.cell? ⟨xb, off + k * 3 + 1, none⟩ = _ := hw4.st.row.cell p1
  have e2 : w4.cell? ⟨xb, off + k * 3 + 2, none⟩ = _ := hw4.st.row.cell p2
  have e3 := hw4.st.c1
  have hl4 : lb2 < w4.heap.size := World.block_lt_of_cell? _ _ hlc4
  have hx4 : xb < w4.heap.size := World.block_lt_of_cell? _ _ e0
  have hb4 : w.heap.size < w4.heap.size := World.block_lt_of_cell? _ _ cb4
  have hq4 : q < w4.heap.size := World.block_lt_of_cell? _ _ e3
  have Hw4 := Lib.hid hw4; clear hw4
  have Ht := Lib.hid ht; clear ht g1 g2 g3 p0 p1 p2
  unfold pkt
  go_wp2_with fail
  have h45 : Below w4.heap.size w4 ((w4.alloc (msgX m.fr m.to m.s)).alloc (msgX m.fr m.to m.s)) := ((Below.refl _ _).alloc (Nat.le_refl _) _).alloc (by simp) _
  refine (without_spec (Hw4.out.below h45) (Below.at h45 hb4 cb4) hkl (by omega)).mono ?_
  rintro e w6 ⟨rfl, hmv⟩
  obtain ⟨⟨u0, u1, u2⟩, u3, u4, u5⟩ := two_boxes Hw4.out hmv
  have Hmv := Lib.hid hmv; clear hmv
  have H45 := Lib.hid h45; clear h45
  go_wp2_with fail
  go_ret
  exact ⟨_, _, Hki.out, Hm.out, Hap.of2 Hw.out Hn.out (HC.out.drewN _).below Ht.out H45.out Hmv.out (Below.refl _ _)⟩

set_option maxRecDepth 100000 in
set_option maxHeartbeats 2000000 in
theorem hap2_Q {w : World} {p q : Nat} {S : NS} {G : Nat → Prop} {N : Nat} {ao : Option Addr} {cap : Nat} (hw : W55G w q S ao cap) (hn : NetG w p S G) (hS : Wf S N) (hN : N ≤ 800)
    (K fr tu ii nn num A B : Int) (i : Nat) (hK : K.tmod 9 = 2) (hm0 : 0 ≤ num) (hm1 : num ≤ 40) (hA : fr.tmod ((S.nodes : Int) + 2) = A) (hB : tu.tmod ((S.nodes : Int) + 2) = B) (hI : ii.tmod 4 = (i : Int)) (hf0 : 0 ≤ fr) (hf1 : fr ≤ 255) (ht0 : 0 ≤ tu) (ht1 : tu ≤ 255) (hi0 : 0 ≤ ii) (hi1 : ii ≤ 255) (hn0 : 0 ≤ nn) (hn1 : nn ≤ 255) (hA0 : 0 ≤ A) (hB0 : 0 ≤ B) (hI1 : (i : Int) ≤ 3) (hA1 : A ≤ 6) (hB1 : B ≤ 6)
    (hk : Knows S A B) (hO : i < (places A B S.msgs 0).length) (hAB : A = B) :
    Calls Try.prog 7 #[.pointer (some ⟨q, 0, none⟩), .pointer (some ⟨p, 0, none⟩), .agg #[.int .u8 K, .int .u8 fr, .int .u8 tu, .int .u8 ii, .int .u8 nn], .int .i64 num] w fun e w' => ∃ k m, (places A B S.msgs 0)[i]? = some k ∧ S.msgs[k]? = some m ∧ Hap w p q S (S.del k) G ao cap e w' := by
  have hmsgs : 0 < S.msgs.length := by
    have := List.length_filter_le (hit A B) S.msgs
    rw [places_length] at hO; omega
  obtain ⟨xb, off, rfl⟩ := hw.st.row.some (by have := hw.st.row.1; omega)
  have hq := hw.st.lt
  have c0 := hw.st.c0
  have hS1 := hS.n1
  have hS2 := hS.n2
  have hlen := hS.len
  have hI0 : (0 : Int) ≤ (i : Int) := by omega
  have hpl : (places A B S.msgs 0).length ≤ N := by rw [places_length]; exact Nat.le_trans (List.length_filter_le _ _) hlen
  have hnz : ((S.nodes : Int) + 2 == 0) = false := by simp; omega
  have hlk := fun n => link_walk q S (some ⟨xb, off, none⟩) cap A B ((W1 w q K fr tu ii nn).drewN n) ((hw.st.below (W1_below w q K fr tu ii nn)).kept (F := fun _ _ => False) ((Frm.refl _ _).drewN n) (fun _ h => h) (fun _ _ _ _ _ _ h => h)) (by omega)
  have Hlk := Lib.hid hlk; clear hlk
  have Hw := Lib.hid hw; clear hw
  have Hn := Lib.hid hn; clear hn
  have hk0 := hk
  obtain ⟨⟨hk1, hk2⟩, hk3, hk4⟩ := hk
  have hki := List.getElem?_eq_getElem hO
  generalize (places A B S.msgs 0)[i] = k at hki
  obtain ⟨m, hm, hkl, hmA, hmB⟩ := place_msg hki
  have Hki := Lib.hid hki; clear hki
  have Hm := Lib.hid hm; clear hm
  have HmA := Lib.hid hmA; clear hmA
  have HmB := Lib.hid hmB; clear hmB
  have hE' : decide ((places A B S.msgs 0).length ≤ i) = false := decide_eq_false (by omega)
  have hE'' : decide (((places A B S.msgs 0).length : Int) ≤ (i : Int)) = false := decide_eq_false (by omega)
  have hOI : (i : Int) < ((places A B S.msgs 0).length : Int) := by omega
  have hAB1 : (A == B) = true := by simpa using hAB
  have hAB2 : (A != B) = false := by simpa using hAB
  have Hsd : RowKit.Hid ((S.side A.toNat != S.side B.toNat) = false) := Lib.hid (by rw [hAB]; simp)
  clear hAB
  have hw1 : IntKind.i64.wrap ((S.nodes : Int) + 2) = (S.nodes : Int) + 2 := IntWalk.i64_in _ (by omega)
  go_enter Try.func7, Try.ntmps7
  go_wp2_with fail
  go_quiet (fail)
  clear hA hB hI hw1
  go_wp2_with fail
  refine (Hlk.out _).mono ?_
  rintro e w2 ⟨v, rfl, hv, hb⟩
  have hC : Ctx w w2 p q S G (some ⟨xb, off, none⟩) cap K fr tu ii nn := Ctx.of Hw.out Hn.out (by rw [World.heap_drewN, W1_size] at hb; exact hb)
  have hvB : w.heap.size ≤ (W1 w q K fr tu ii nn).heap.size := by rw [W1_size]; omega
  have cb := hC.cb
  have x0 := hC.x0
  have x4 := hC.x4
  have hw2 := hC.w55
  have d0 := hw2.st.c0
  have d1 := hw2.st.c1
  have df := hw2.st.fz 1
  have sA := hw2.st.sd A.toNat (by omega)
  have sB := hw2.st.sd B.toNat (by omega)
  obtain ⟨ai, ci, rfl, hri, hsi, hli⟩ := hv
  have HC := Lib.hid hC; clear hC hb
  have Hw2 := Lib.hid hw2; clear hw2
  have Hri := Lib.hid hri; have hlb : w.heap.size ≤ ((ai.getD ⟨0, 0, none⟩).block) := by
    obtain ⟨b0, o0, hai⟩ := hri.some (by have := hri.1; omega)
    have := hli _ hai (by have := hri.1; omega)
    rw [World.heap_drewN, W1_size] at this
    rw [hai]; simp only [Option.getD]; exact Nat.le_trans (Nat.le_add_right _ 2) this
  clear hri hsi hli
  obtain ⟨lb2, lo2, hai, hlc⟩ := link_cell Hri.out Hki.out
  subst hai
  simp only [Option.getD] at hlb
  go_wp2_with fail
  go_quiet (fail)
  go_wp2_with fail
  have hsn := fun n => take_spec (HC.out.drewN n).net hS (by omega) ⟨⟨hk1, hk2⟩, hk3, hk4⟩ Hki.out Hm.out Hsd.out
  have Hsn := Lib.hid hsn; clear hsn
  refine (Hsn.out _).mono ?_
  rintro e w4 ⟨rfl, ht⟩
  obtain ⟨G', g1, g2, g3⟩ := id ht
  have hw4 := W55G.turned (HC.out.drewN _).w55 (HC.out.drewN _).net g3
  have cb4 := Below.turn (HC.out.drewN _).net Hn.out.glt g3 (Nat.le_refl _) (HC.out.drewN _).cb
  have hlc4 := Below.turn (HC.out.drewN _).net Hn.out.glt g3 hlb (show (World.drewN w2 _).cell? _ = _ from hlc)
  obtain ⟨p0, p1, p2⟩ := pkts_get S.msgs k m Hm.out
  have e0 := hw4.st.row.cell p0
  have e1 : w4.cell? ⟨xb, off + k * 3 + 1, none⟩ = _ := hw4.st.row.cell p1
  have e2 : w4.cell? ⟨xb, off + k * 3 + 2, none⟩ = _ := hw4.st.row.cell p2
  have e3 := hw4.st.c1
  have hl4 : lb2 < w4.heap.size := World.block_lt_of_cell? _ _ hlc4
  have hx4 : xb < w4.heap.size := World.block_lt_of_cell? _ _ e0
  have hb4 : w.heap.size < w4.heap.size := World.block_lt_of_cell? _ _ cb4
  have hq4 : q < w4.heap.size := World.block_lt_of_cell? _ _ e3
  have Hw4 := Lib.hid hw4; clear hw4
  have Ht := Lib.hid ht; clear ht g1 g2 g3 p0 p1 p2
  unfold pkt
  go_wp2_with fail
  have h45 : Below w4.heap.size w4 ((w4.alloc (msgX m.fr m.to m.s)).alloc (msgX m.fr m.to m.s)) := ((Below.refl _ _).alloc (Nat.le_refl _) _).alloc (by simp) _
  refine (without_spec (Hw4.out.below h45) (Below.at h45 hb4 cb4) hkl (by omega)).mono ?_
  rintro e w6 ⟨rfl, hmv⟩
  obtain ⟨⟨u0, u1, u2⟩, u3, u4, u5⟩ := two_boxes Hw4.out hmv
  have Hmv := Lib.hid hmv; clear hmv
  have H45 := Lib.hid h45; clear h45
  go_wp2_with fail
  go_ret
  exact ⟨_, _, Hki.out, Hm.out, Hap.of2 Hw.out Hn.out (HC.out.drewN _).below Ht.out H45.out Hmv.out (Below.refl _ _)⟩

set_option maxRecDepth 100000 in
set_option maxHeartbeats 2000000 in
theorem hap3_Q {w : World} {p q : Nat} {S : NS} {G : Nat → Prop} {N : Nat} {ao : Option Addr} {cap : Nat} (hw : W55G w q S ao cap) (hn : NetG w p S G) (hS : Wf S N) (hN : N ≤ 800)
    (K fr tu ii nn num A B : Int) (i : Nat) (hK : K.tmod 9 = 3) (hm0 : 0 ≤ num) (hm1 : num ≤ 40) (hA : fr.tmod ((S.nodes : Int) + 2) = A) (hB : tu.tmod ((S.nodes : Int) + 2) = B) (hI : ii.tmod 4 = (i : Int)) (hf0 : 0 ≤ fr) (hf1 : fr ≤ 255) (ht0 : 0 ≤ tu) (ht1 : tu ≤ 255) (hi0 : 0 ≤ ii) (hi1 : ii ≤ 255) (hn0 : 0 ≤ nn) (hn1 : nn ≤ 255) (hA0 : 0 ≤ A) (hB0 : 0 ≤ B) (hI1 : (i : Int) ≤ 3) (hA1 : A ≤ 6) (hB1 : B ≤ 6)
    (hk : Knows S A B) (hO : i < (places A B S.msgs 0).length) (hAB : A = B) :
    Calls Try.prog 7 #[.pointer (some ⟨q, 0, none⟩), .pointer (some ⟨p, 0, none⟩), .agg #[.int .u8 K, .int .u8 fr, .int .u8 tu, .int .u8 ii, .int .u8 nn], .int .i64 num] w fun e w' => ∃ k m, (places A B S.msgs 0)[i]? = some k ∧ S.msgs[k]? = some m ∧ Hap w p q S (S.del k) G ao cap e w' := by
  have hmsgs : 0 < S.msgs.length := by
    have := List.length_filter_le (hit A B) S.msgs
    rw [places_length] at hO; omega
  obtain ⟨xb, off, rfl⟩ := hw.st.row.some (by have := hw.st.row.1; omega)
  have hq := hw.st.lt
  have c0 := hw.st.c0
  have hS1 := hS.n1
  have hS2 := hS.n2
  have hlen := hS.len
  have hI0 : (0 : Int) ≤ (i : Int) := by omega
  have hpl : (places A B S.msgs 0).length ≤ N := by rw [places_length]; exact Nat.le_trans (List.length_filter_le _ _) hlen
  have hnz : ((S.nodes : Int) + 2 == 0) = false := by simp; omega
  have hlk := fun n => link_walk q S (some ⟨xb, off, none⟩) cap A B ((W1 w q K fr tu ii nn).drewN n) ((hw.st.below (W1_below w q K fr tu ii nn)).kept (F := fun _ _ => False) ((Frm.refl _ _).drewN n) (fun _ h => h) (fun _ _ _ _ _ _ h => h)) (by omega)
  have Hlk := Lib.hid hlk; clear hlk
  have Hw := Lib.hid hw; clear hw
  have Hn := Lib.hid hn; clear hn
  have hk0 := hk
  obtain ⟨⟨hk1, hk2⟩, hk3, hk4⟩ := hk
  have hki := List.getElem?_eq_getElem hO
  generalize (places A B S.msgs 0)[i] = k at hki
  obtain ⟨m, hm, hkl, hmA, hmB⟩ := place_msg hki
  have Hki := Lib.hid hki; clear hki
  have Hm := Lib.hid hm; clear hm
  have HmA := Lib.hid hmA; clear hmA
  have HmB := Lib.hid hmB; clear hmB
  have hE' : decide ((places A B S.msgs 0).length ≤ i) = false := decide_eq_false (by omega)
  have hE'' : decide (((places A B S.msgs 0).length : Int) ≤ (i : Int)) = false := decide_eq_false (by omega)
  have hOI : (i : Int) < ((places A B S.msgs 0).length : Int) := by omega
  have hAB1 : (A == B) = true := by simpa using hAB
  have hAB2 : (A != B) = false := by simpa using hAB
  have Hsd : RowKit.Hid ((S.side A.toNat != S.side B.toNat) = false) := Lib.hid (by rw [hAB]; simp)
  clear hAB
  have hw1 : IntKind.i64.wrap ((S.nodes : Int) + 2) = (S.nodes : Int) + 2 := IntWalk.i64_in _ (by omega)
  go_enter Try.func7, Try.ntmps7
  go_wp2_with fail
  go_quiet (fail)
  clear hA hB hI hw1
  go_wp2_with fail
  refine (Hlk.out _).mono ?_
  rintro e w2 ⟨v, rfl, hv, hb⟩
  have hC : Ctx w w2 p q S G (some ⟨xb, off, none⟩) cap K fr tu ii nn := Ctx.of Hw.out Hn.out (by rw [World.heap_drewN, W1_size] at hb; exact hb)
  have hvB : w.heap.size ≤ (W1 w q K fr tu ii nn).heap.size := by rw [W1_size]; omega
  have cb := hC.cb
  have x0 := hC.x0
  have x4 := hC.x4
  have hw2 := hC.w55
  have d0 := hw2.st.c0
  have d1 := hw2.st.c1
  have df := hw2.st.fz 1
  have sA := hw2.st.sd A.toNat (by omega)
  have sB := hw2.st.sd B.toNat (by omega)
  obtain ⟨ai, ci, rfl, hri, hsi, hli⟩ := hv
  have HC := Lib.hid hC; clear hC hb
  have Hw2 := Lib.hid hw2; clear hw2
  have Hri := Lib.hid hri; have hlb : w.heap.size ≤ ((ai.getD ⟨0, 0, none⟩).block) := by
    obtain ⟨b0, o0, hai⟩ := hri.some (by have := hri.1; omega)
    have := hli _ hai (by have := hri.1; omega)
    rw [World.heap_drewN, W1_size] at this
    rw [hai]; simp only [Option.getD]; exact Nat.le_trans (Nat.le_add_right _ 2) this
  clear hri hsi hli
  obtain ⟨lb2, lo2, hai, hlc⟩ := link_cell Hri.out Hki.out
  subst hai
  simp only [Option.getD] at hlb
  go_wp2_with fail
  go_quiet (fail)
  go_wp2_with fail
  have hsn := fun n => take_spec (HC.out.drewN n).net hS (by omega) ⟨⟨hk1, hk2⟩, hk3, hk4⟩ Hki.out Hm.out Hsd.out
  have Hsn := Lib.hid hsn; clear hsn
  refine (Hsn.out _).mono ?_
  rintro e w4 ⟨rfl, ht⟩
  obtain ⟨G', g1, g2, g3⟩ := id ht
  have hw4 := W55G.turned (HC.out.drewN _).w55 (HC.out.drewN _).net g3
  have cb4 := Below.turn (HC.out.drewN _).net Hn.out.glt g3 (Nat.le_refl _) (HC.out.drewN _).cb
  have hlc4 := Below.turn (HC.out.drewN _).net Hn.out.glt g3 hlb (show (World.drewN w2 _).cell? _ = _ from hlc)
  obtain ⟨p0, p1, p2⟩ := pkts_get S.msgs k m Hm.out
  have e0 := hw4.st.row.cell p0
  have e1 : w4.cell? ⟨xb, off + k * 3 + 1, none⟩ = _ := hw4.st.row.cell p1
  have e2 : w4.cell? ⟨xb, off + k * 3 + 2, none⟩ = _ := hw4.st.row.cell p2
  have e3 := hw4.st.c1
  have hl4 : lb2 < w4.heap.size := World.block_lt_of_cell? _ _ hlc4
  have hx4 : xb < w4.heap.size := World.block_lt_of_cell? _ _ e0
  have hb4 : w.heap.size < w4.heap.size := World.block_lt_of_cell? _ _ cb4
  have hq4 : q < w4.heap.size := World.block_lt_of_cell? _ _ e3
  have Hw4 := Lib.hid hw4; clear hw4
  have Ht := Lib.hid ht; clear ht g1 g2 g3 p0 p1 p2
  unfold pkt
  go_wp2_with fail
  have h45 : Below w4.heap.size w4 ((w4.alloc (msgX m.fr m.to m.s)).alloc (msgX m.fr m.to m.s)) := ((Below.refl _ _).alloc (Nat.le_refl _) _).alloc (by simp) _
  refine (without_spec (Hw4.out.below h45) (Below.at h45 hb4 cb4) hkl (by omega)).mono ?_
  rintro e w6 ⟨rfl, hmv⟩
  obtain ⟨⟨u0, u1, u2⟩, u3, u4, u5⟩ := two_boxes Hw4.out hmv
  have Hmv := Lib.hid hmv; clear hmv
  have H45 := Lib.hid h45; clear h45
  go_wp2_with fail
  go_ret
  exact ⟨_, _, Hki.out, Hm.out, Hap.of2 Hw.out Hn.out (HC.out.drewN _).below Ht.out H45.out Hmv.out (Below.refl _ _)⟩

end Go.Proofs.Ytcjcccmlpilbbaa
