/- StandW: lemmas on the way to the law (no condition of their own beyond what each states). -/
import Derived.Test.YtcjcccmlpilbbaaStand0
import Derived.Test.YtcjcccmlpilbbaaHapStep
import Derived.Deep.CutBlock
import Derived.BigQuiet
namespace Go.Proofs.Ytcjcccmlpilbbaa
open Go.RowKit Go.K55 Go.Maps
set_option linter.unusedVariables false
set_option linter.unusedSimpArgs false

set_option maxRecDepth 100000 in
set_option maxHeartbeats 4000000 in
theorem stands_walk {w : World} {p q : Nat} {S : NS} {G : Nat → Prop} {N : Nat} {ao : Option Addr} {cap : Nat} (hw : W55 w q S ao cap) (hn : NetG w p S G) (hS : Wf S N) (hN : N ≤ 800) :
    Calls Try.prog 8 #[.pointer (some ⟨q, 0, none⟩), .pointer (some ⟨p, 0, none⟩)] w (fun e w' => e = .returned (.bool true) ∧ Below w.heap.size w w') := by
  have n1 := hS.n1
  have n2 := hS.n2
  have hlen := hS.len
  have hw0 := hw.c0
  have hn1 : IntKind.i64.wrap ((S.nodes : Int) + 1) = (S.nodes : Int) + 1 := IntWalk.i64_in _ (by omega)
  have Hw := Lib.hid hw; clear hw
  have Hn := Lib.hid hn; clear hn
  go_enter Try.func8, Try.ntmps8
  go_wp2_with fail
  refine (waiting_walk Hn.out hS (by omega)).mono ?_
  rintro e w1 ⟨v, rfl, ⟨aa, ca, rfl, hra, hsa, hla⟩, hb1⟩
  have d0 := Below.at hb1 (World.block_lt_of_cell? _ _ hw0) hw0
  have Hra := Lib.hid hra; clear hra hsa
  have Hla := Lib.hid hla; clear hla
  have Hb1 := Lib.hid hb1; clear hb1
  go_wp2_with fail
  go_loopw [6, 7] (fun k i wr => ∃ f : Nat, f ≤ S.nodes + 2 ∧ i = .int .i64 (f : Int) ∧ k = .int .i64 ((S.allS f).length : Int) ∧ Below w1.heap.size w1 wr) (fun _ i _ => S.nodes + 2 - (intOf i).toNat)
  case atStart => exact ⟨0, Nat.zero_le _, rfl, rfl, Below.refl _ _⟩
  case round =>
    obtain ⟨f, hf, rfl, rfl, hb2⟩ := hrel
    have d1 := Below.at hb2 (World.block_lt_of_cell? _ _ d0) d0
    have hb02 := Hb1.out.trans (hb2.mono Hb1.out.size)
    by_cases hlt : f < S.nodes + 2
    · have hlt' : (f : Int) ≤ (S.nodes : Int) + 1 := by omega
      have Hb02 := Lib.hid hb02; clear hb02
      have Hb2 := Lib.hid hb2; clear hb2
      obtain ⟨w2, hw2⟩ : ∃ x, x = wr := ⟨_, rfl⟩
      subst hw2
      go_wp2_with fail
      go_loopw [6, 8] (fun k i wr => ∃ t : Nat, t ≤ S.nodes + 2 ∧ i = .int .i64 (t : Int) ∧ k = .int .i64 ((S.allS f ++ S.rowS f t).length : Int) ∧ Below w1.heap.size w1 wr) (fun _ i _ => S.nodes + 2 - (intOf i).toNat)
      case atStart => exact ⟨0, Nat.zero_le _, rfl, by simp [NS.rowS], Hb2.out⟩
      case round =>
        obtain ⟨t, ht, rfl, rfl, hb3⟩ := hrel
        have d2 := Below.at hb3 (World.block_lt_of_cell? _ _ d0) d0
        have hb03 := Hb1.out.trans (hb3.mono Hb1.out.size)
        obtain ⟨w3, hw3⟩ : ∃ x, x = wr := ⟨_, rfl⟩
        subst hw3
        generalize hP : S.allS f ++ S.rowS f t = P at *
        have HP := Lib.hid hP; clear hP
        by_cases hlt2 : t < S.nodes + 2
        · have hlt2' : (t : Int) ≤ (S.nodes : Int) + 1 := by omega
          have Hb03 := Lib.hid hb03; clear hb03
          have Hb3 := Lib.hid hb3; clear hb3
          go_wp2_with fail
          refine (link_walk q S ao cap (f : Int) (t : Int) _ (Hw.out.below Hb03.out) (by omega)).mono ?_
          rintro e w4 ⟨v, rfl, ⟨al, cl, rfl, hrl, hsl, hll⟩, hb4⟩
          have d3 := Below.at hb4 (World.block_lt_of_cell? _ _ d2) d2
          have Hrl := Lib.hid hrl; clear hrl hsl hll
          have Hb4 := Lib.hid hb4; clear hb4
          go_upto_region 10 with fail
          go_cut [10] from 40 to 61 (fun kn wx => kn = .bool (decide (Knows S (f : Int) (t : Int))) ∧ w4 = wx)
          case first =>
            rcases (show (f : Int) < 1 ∨ (1 ≤ (f : Int) ∧ (S.nodes : Int) < (f : Int)) ∨ ((1 ≤ (f : Int) ∧ (f : Int) ≤ (S.nodes : Int)) ∧ (t : Int) < 1) ∨ ((1 ≤ (f : Int) ∧ (f : Int) ≤ (S.nodes : Int)) ∧ 1 ≤ (t : Int) ∧ (S.nodes : Int) < (t : Int)) ∨ ((1 ≤ (f : Int) ∧ (f : Int) ≤ (S.nodes : Int)) ∧ 1 ≤ (t : Int) ∧ (t : Int) ≤ (S.nodes : Int)) by omega) with hu | ⟨hu1, hu⟩ | ⟨⟨hu1, hu2⟩, hu⟩ | ⟨⟨hu1, hu2⟩, hu3, hu⟩ | ⟨⟨hu1, hu2⟩, hu3, hu4⟩
            · have hun : decide (1 ≤ (f : Int)) = false := decide_eq_false (by omega)
              go_wp2_with fail
              go_meet
              case rel => exact ⟨by rw [decide_eq_false (by simp only [Knows]; omega)], rfl⟩
            · have hun : decide ((f : Int) ≤ (S.nodes : Int)) = false := decide_eq_false (by omega)
              have hun2 : decide (f ≤ S.nodes) = false := decide_eq_false (by omega)
              go_wp2_with fail
              go_meet
              case rel => exact ⟨by rw [decide_eq_false (by simp only [Knows]; omega)], rfl⟩
            · have hun : decide (1 ≤ (t : Int)) = false := decide_eq_false (by omega)
              go_wp2_with fail
              go_meet
              case rel => exact ⟨by rw [decide_eq_false (by simp only [Knows]; omega)], rfl⟩
            · have hun : decide ((t : Int) ≤ (S.nodes : Int)) = false := decide_eq_false (by omega)
              have hun2 : decide (t ≤ S.nodes) = false := decide_eq_false (by omega)
              go_wp2_with fail
              go_meet
              case rel => exact ⟨by rw [decide_eq_false (by simp only [Knows]; omega)], rfl⟩
            · go_wp2_with fail
              go_meet
              case rel => exact ⟨by rw [decide_eq_true (by simp only [Knows]; omega)], rfl⟩
          case rest =>
            obtain ⟨rfl, rfl⟩ := hcut
            go_upto_region 11 with fail
            go_cut [10, 96] from 62 to 96 (fun kn r wx => r = .bool false ∧ ∃ n, w4.drewN n = wx)
            case first =>
              have hlen4 := fun n => (len_spec ((Hn.out.below (Hb03.out.trans (Hb4.out.mono Hb03.out.size))).drewN n) (a := (f : Int)) (b := (t : Int)) (WalkArith.wf_i64 (by omega)) (WalkArith.wf_i64 (by omega))).mono (fun e w' h => (⟨h.1, h.2.symm⟩ : e = _ ∧ w' = _))
              have Hlen4 := Lib.hid hlen4; clear hlen4
              by_cases hk : Knows S (f : Int) (t : Int)
              · have hkd : decide (Knows S (f : Int) (t : Int)) = true := decide_eq_true hk
                have hpar := fun n => parted_spec ((Hn.out.below (Hb03.out.trans (Hb4.out.mono Hb03.out.size))).drewN n) hS hk
                have Hpar := Lib.hid hpar; clear hpar
                have h55 := Hw.out.below (Hb03.out.trans (Hb4.out.mono Hb03.out.size))
                obtain ⟨⟨hk1, hk2⟩, hk3, hk4⟩ := hk
                have sA := h55.sd (f : Int).toNat (by omega)
                have sB := h55.sd (t : Int).toNat (by omega)
                clear h55
                rw [hkd]
                clear hkd
                by_cases hAB : f = t
                · have hAB1 : ((f : Int) == (t : Int)) = true := by simp; omega
                  have hAB2 : (f == t) = true := by simpa using hAB
                  have hAB3 : ((f : Int) != (t : Int)) = false := by simp; omega
                  have hsd : (S.side (f : Int).toNat != S.side (t : Int).toNat) = false := by rw [hAB]; simp
                  rw [hsd] at Hpar
                  clear hAB
                  go_quiet (first | (go_at_call 23; refine Calls.quiet_of_same (Hlen4.out _)) | (go_at_call 24; refine Calls.quiet_of (Hpar.out _)))
                  go_wp2_with fail
                  go_meet
                  case rel => exact ⟨rfl, _, rfl⟩
                · have hAB1 : ((f : Int) == (t : Int)) = false := by simp; omega
                  have hAB2 : (f == t) = false := by simpa using hAB
                  have hAB3 : ((f : Int) != (t : Int)) = true := by simp; omega
                  have hpar2 := Hpar.out
                  simp only [Int.toNat_natCast] at hpar2 sA sB
                  clear Hpar
                  cases hA : S.side f <;> cases hB : S.side t <;> simp only [hA, hB] at hpar2 sA sB
                  all_goals
                    have Hpar := Lib.hid hpar2
                    clear hpar2 hA hB
                    go_quiet (first | (go_at_call 23; refine Calls.quiet_of_same (Hlen4.out _)) | (go_at_call 24; refine Calls.quiet_of (Hpar.out _)))
                    go_wp2_with fail
                    go_meet
                    case rel => exact ⟨rfl, _, rfl⟩
              · have hkd : decide (Knows S (f : Int) (t : Int)) = false := decide_eq_false hk
                have hpar := fun n => parted_bad_spec ((Hn.out.below (Hb03.out.trans (Hb4.out.mono Hb03.out.size))).drewN n) hS (a := (f : Int)) (b := (t : Int)) (by simp only [Knows] at hk; simp only [Unknown]; omega)
                have Hpar := Lib.hid hpar; clear hpar
                rw [hkd]
                clear hkd hk
                go_quiet (first | (go_at_call 23; refine Calls.quiet_of_same (Hlen4.out _)) | (go_at_call 24; refine Calls.quiet_of (Hpar.out _)))
                go_wp2_with fail
                go_meet
                case rel => exact ⟨rfl, _, rfl⟩
            case rest =>
              obtain ⟨rfl, n5, rfl⟩ := hcut
              have hb5 : Below w1.heap.size w1 (w4.drewN n5) := (Hb3.out.trans (Hb4.out.mono Hb3.out.size)).trans ⟨rfl, rfl, rfl, Nat.le_refl _, fun _ _ => rfl⟩
              have Hb5 := Lib.hid hb5; clear hb5
              have Hrl5 := Lib.hid (show Row (w4.drewN n5) 3 1 al (places (f : Int) (t : Int) S.msgs 0).length cl (ints (natInts (places (f : Int) (t : Int) S.msgs 0))) from Hrl.out.kept (F := fun _ _ => False) ((Frm.refl _ _).drewN n5) (fun _ _ _ _ _ _ h => h))
              have d5 : (w4.drewN n5).cell? ⟨q, 0, none⟩ = _ := d3
              obtain ⟨w5, hw5⟩ : ∃ x, x = w4.drewN n5 := ⟨_, rfl⟩
              rw [← hw5] at Hb5 Hrl5 d5 ⊢
              clear hw5
              go_wp2_with fail
              go_loopw [6, 99] (fun k i wr => ∃ j : Nat, j ≤ (places (f : Int) (t : Int) S.msgs 0).length ∧ i = .int .i64 (j : Int) ∧ k = .int .i64 ((P.length + j : Nat) : Int) ∧ Below w5.heap.size w5 wr) (fun _ i _ => (places (f : Int) (t : Int) S.msgs 0).length - (intOf i).toNat)
              case atStart => exact ⟨0, Nat.zero_le _, rfl, rfl, Below.refl _ _⟩
              case round =>
                obtain ⟨j, hj, rfl, rfl, hb6⟩ := hrel
                by_cases hlt3 : j < (places (f : Int) (t : Int) S.msgs 0).length
                · have hki := List.getElem?_eq_getElem hlt3
                  generalize (places (f : Int) (t : Int) S.msgs 0)[j] = kk at hki
                  obtain ⟨m, hm, hkl, hcm⟩ := place_cell hki
                  have hkn := cell_knows hS hcm
                  have hag := all_get hS hlt hlt2 hcm
                  rw [HP.out] at hag
                  generalize hcc : P.length + j = c at hag ⊢
                  have hcl := (List.getElem?_eq_some_iff.1 hag).1
                  have hb16 := Hb5.out.trans (hb6.mono Hb5.out.size)
                  have hb06 := Hb1.out.trans (hb16.mono Hb1.out.size)
                  have h55 := Hw.out.below hb06
                  have hpk := peek_spec (Hn.out.below hb06) hS (by omega) hkn hki hm
                  obtain ⟨lb, lo, rfl, hlc⟩ := link_cell Hrl5.out hki
                  have hlc6 := Below.at hb6 (World.block_lt_of_cell? _ _ hlc) hlc
                  obtain ⟨xb, off, rfl⟩ := h55.row.some (by have := h55.row.1; omega)
                  obtain ⟨ab, aof, rfl⟩ := Hra.out.some (by have := Hra.out.1; omega)
                  obtain ⟨p0, p1, p2⟩ := pkts_get S.msgs kk m hm
                  have e0 := h55.row.cell p0
                  have e1 : wr.cell? ⟨xb, off + kk * 3 + 1, none⟩ = _ := h55.row.cell p1
                  have e2 : wr.cell? ⟨xb, off + kk * 3 + 2, none⟩ = _ := h55.row.cell p2
                  obtain ⟨r0, r1, r2⟩ := pkts_get (S.allW S.nodes) c m hag
                  have hr6 := Hra.out.kept (F := fun _ _ => False) (Frm.of_below hb16) (fun _ _ _ _ _ _ h => h)
                  have a0 := hr6.cell r0
                  have a1 : wr.cell? ⟨ab, aof + c * 3 + 1, none⟩ = _ := hr6.cell r1
                  have a2 : wr.cell? ⟨ab, aof + c * 3 + 2, none⟩ = _ := hr6.cell r2
                  have f1 := h55.c1
                  have hj0 : (0 : Int) ≤ (j : Int) := by omega
                  have hj2 : (j : Int) ≤ 800 := by
                    have h1 : (places (f : Int) (t : Int) S.msgs 0).length ≤ N := by rw [places_length]; exact Nat.le_trans (List.length_filter_le _ _) hlen
                    omega
                  have hj1 : (j : Int) < ((places (f : Int) (t : Int) S.msgs 0).length : Int) := by omega
                  have hk0 : (0 : Int) ≤ (kk : Int) := by omega
                  have hk1 : (kk : Int) < (S.msgs.length : Int) := by omega
                  have hc0 : (0 : Int) ≤ (c : Int) := by omega
                  have hc1 : (c : Int) < ((S.allW S.nodes).length : Int) := by omega
                  have hal := allW_length S S.nodes
                  have hal2 : S.nodes * (S.nodes * S.msgs.length) ≤ 5 * (5 * 800) := Nat.mul_le_mul (by omega) (Nat.mul_le_mul (by omega) (by omega))
                  have hcb : c ≤ 20000 := by omega
                  have Hpk := Lib.hid hpk; clear hpk
                  have Hcc := Lib.hid hcc; clear hcc
                  have Hb6 := Lib.hid hb6; clear hb6
                  clear hki hm hcm hag p0 p1 p2 r0 r1 r2 hr6 h55 hb16 hb06 hlc hal hal2 hkn
                  go_wp2_with fail
                  refine Hpk.out.mono ?_
                  rintro e w' ⟨rfl, rfl⟩
                  go_wp2_with fail
                  go_quiet (fail)
                  go_wp2_with fail
                  go_roundw
                  case rel =>
                    have := Hcc.out
                    refine ⟨j + 1, by omega, by go_num, ?_, Hb6.out.trans ⟨rfl, rfl, rfl, Nat.le_refl _, fun _ _ => rfl⟩⟩
                    rw [← Nat.add_assoc, this]
                    go_num
                  case measure => simp [intOf]; omega
                · obtain rfl : j = (places (f : Int) (t : Int) S.msgs 0).length := by omega
                  have hPn : (S.allS f ++ S.rowS f (t + 1)).length = P.length + (places (f : Int) (t : Int) S.msgs 0).length := by
                    rw [rowS_succ, ← List.append_assoc, HP.out, List.length_append, places_length]; rfl
                  have HPn := Lib.hid hPn; clear hPn
                  have hb7 := Hb5.out.trans (hb6.mono Hb5.out.size)
                  have Hb7 := Lib.hid hb7; clear hb7 hb6
                  go_wp2_with fail
                  go_roundw
                  case rel => exact ⟨t + 1, by omega, by go_num, by rw [HPn.out], Hb7.out⟩
                  case measure => simp [intOf]; omega
        · obtain rfl : t = S.nodes + 2 := by omega
          have hPn : (S.allS (f + 1)).length = P.length := by rw [allS_succ, HP.out]
          have HPn := Lib.hid hPn; clear hPn
          have Hb3 := Lib.hid hb3; clear hb3
          rcases (show (f : Int) < 1 ∨ (1 ≤ (f : Int) ∧ (S.nodes : Int) < (f : Int)) ∨ (1 ≤ (f : Int) ∧ (f : Int) ≤ (S.nodes : Int)) by omega) with hu | ⟨hu1, hu⟩ | ⟨hu1, hu2⟩
          · have hun : decide (1 ≤ (f : Int)) = false := decide_eq_false (by omega)
            have htk := ticks_bad_spec (Hn.out.below hb03) hS (a := (f : Int)) (Or.inl hu)
            have Htk := Lib.hid htk; clear htk hb03
            go_wp2_with fail
            refine Htk.out.mono ?_
            rintro e w' ⟨rfl, rfl⟩
            go_wp2_with fail
            go_roundw
            case rel => exact ⟨f + 1, by omega, by go_num, by rw [HPn.out], Hb3.out⟩
            case measure => simp [intOf]; omega
          · have hun : decide ((f : Int) ≤ (S.nodes : Int)) = false := decide_eq_false (by omega)
            have hun2 : decide (f ≤ S.nodes) = false := decide_eq_false (by omega)
            have htk := ticks_bad_spec (Hn.out.below hb03) hS (a := (f : Int)) (Or.inr hu)
            have Htk := Lib.hid htk; clear htk hb03
            go_wp2_with fail
            refine Htk.out.mono ?_
            rintro e w' ⟨rfl, rfl⟩
            go_wp2_with fail
            go_roundw
            case rel => exact ⟨f + 1, by omega, by go_num, by rw [HPn.out], Hb3.out⟩
            case measure => simp [intOf]; omega
          · have htk := ticks_spec (Hn.out.below hb03) hS (a := (f : Int)) hu1 hu2
            have htc := (Hw.out.below hb03).tk f (by omega)
            simp only [Int.toNat_natCast] at htk
            have Htk := Lib.hid htk; clear htk hb03
            have hf7 : (f : Int) < 8 := by omega
            go_wp2_with fail
            refine Htk.out.mono ?_
            rintro e w' ⟨rfl, rfl⟩
            go_wp2_with fail
            go_roundw
            case rel => exact ⟨f + 1, by omega, by go_num, by rw [HPn.out], Hb3.out⟩
            case measure => simp [intOf]; omega
    · obtain rfl : f = S.nodes + 2 := by omega
      have hal : (S.allS (S.nodes + 2)).length = (S.allW S.nodes).length := by rw [allS_eq hS]
      rw [hal]
      clear hal
      have hnd := fun n => (nodes_spec ((Hn.out.below hb02).drewN n)).mono (fun e w' h => (⟨h.1, h.2.symm⟩ : e = _ ∧ w' = _))
      have Hnd := Lib.hid hnd; clear hnd
      have Hb02 := Lib.hid hb02; clear hb02
      go_wp2_with fail
      go_quiet (first | (go_at_call 27; refine Calls.quiet_of_same (Hnd.out _)))
      go_wp2_with fail
      go_ret
      exact ⟨rfl, Hb02.out.trans ⟨rfl, rfl, rfl, Nat.le_refl _, fun _ _ => rfl⟩⟩

end Go.Proofs.Ytcjcccmlpilbbaa
