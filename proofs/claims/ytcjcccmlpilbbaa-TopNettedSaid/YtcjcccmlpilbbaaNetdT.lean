/- NetdT: lemmas on the way to the law (no condition of their own beyond what each states). -/
import Derived.Test.YtcjcccmlpilbbaaNetdB
import Derived.Deep.CutBlock
namespace Go.Proofs.Ytcjcccmlpilbbaa
open Go.RowKit Go.K55 Go.Maps
set_option linter.unusedVariables false
set_option linter.unusedSimpArgs false

/-- What the check of a net answers. -/
def NettedPost (w : World) (nd : Nat) (seed : Int) (xs : List Stp) (e : Ending) (w' : World) : Prop :=
  ∃ S : NS, e = .returned (.tuple #[.int .i64 (S.msgs.length : Int), .bool true]) ∧ Reach (NS.fresh nd seed) (xs.take 40) S ∧ Below w.heap.size w w'

set_option maxRecDepth 100000 in
set_option maxHeartbeats 4000000 in
theorem netted_walk (nd : Nat) (seed : Int) (ao : Option Addr) (n cap : Nat) (xs : List Stp) (w : World) (hxs : ∀ x ∈ xs, x.ok) (hrow : RowC w 5 ao n (stps xs)) (h1 : 1 ≤ nd) (h2 : nd ≤ 5) (hs0 : 0 ≤ seed) (hs1 : seed < 18446744073709551616) : Calls Try.prog 4 #[.int .i64 (nd : Int), .int .u64 seed, .slice ao n cap] w (NettedPost w nd seed xs) := by
  have hxl : xs.length = n := by have := hrow.1; rw [stps_length] at this; omega
  have Hxs := Lib.hid hxs; clear hxs
  have Hrow := Lib.hid hrow; clear hrow
  have Hxl := Lib.hid hxl; clear hxl
  go_enter Try.func4, Try.ntmps4
  go_wp2_with fail
  refine (new_walk nd seed _ h1 h2).mono ?_
  rintro e w1 ⟨rfl, hR⟩
  have hN := hR.net h1 h2
  have HR := Lib.hid hR; clear hR
  have HN := Lib.hid hN; clear hN
  go_wp2_with fail
  go_loopw [31] (fun i wr => ∃ k : Nat, k ≤ 8 ∧ i = .int .i64 (k : Int) ∧ Fill w1 wr nd seed k) (fun i _ => 8 - (intOf i).toNat)
  case atStart => exact ⟨0, Nat.zero_le _, rfl, Fill.start w1 nd seed⟩
  case round =>
    obtain ⟨k, hk, rfl, hF⟩ := hrel
    by_cases hlt : k < 8
    · have hk1 : (k : Int) < 8 := by omega
      have hk0 : (0 : Int) ≤ (k : Int) := by omega
      have hd := hF.dr k hlt
      have hf := hF.frozen (18 + k)
      have hb := bumpN_is seed hs0 hs1 k hlt
      rw [if_neg (by omega)] at hd
      have HF := Lib.hid hF; clear hF
      go_wp2_with fail
      go_roundw
      case rel => exact ⟨k + 1, by omega, by go_num, HF.out.next hlt⟩
      case measure => simp [intOf]; omega
    · obtain rfl : k = 8 := by omega
      have h55 := hF.done
      have hbel := hF.bel
      have c0 := h55.st.c0
      go_upto_region 10 with fail
      have Hf := Lib.hid hF; clear hF
      have Hbel := Lib.hid hbel; clear hbel
      have H55 := Lib.hid h55; clear h55
      obtain ⟨w2, hw2⟩ : ∃ x, x = wr := ⟨_, rfl⟩
      subst hw2
      go_cut [12] from 45 to 47 (fun m wx => m = .int .i64 ((min n 40 : Nat) : Int) ∧ w2 = wx)
      case first =>
        go_wp2_with fail
        · go_meet
          case rel => exact ⟨by congr 1; omega, rfl⟩
        · go_meet
          case rel => exact ⟨by congr 1; omega, rfl⟩
      case rest =>
        obtain ⟨rfl, rfl⟩ := hcut
        obtain ⟨many, hmany⟩ : ∃ x, x = min n 40 := ⟨_, rfl⟩
        rw [← hmany]
        go_wp2_with fail
        have hst := Loop.start (xs := xs) (many := many) (cp := .pointer none) (HR.out.bel) HN.out Hf.out h1 h2
        obtain ⟨w3, hw3⟩ : ∃ x, x = w2.alloc box0 := ⟨_, rfl⟩
        rw [← hw3] at hst
        unfold box0 at hw3
        rw [← hw3]
        have hm40 : many ≤ 40 := by omega
        have hmn : many ≤ n := by omega
        have Hmany := Lib.hid hmany; clear hmany
        have Hst := Lib.hid hst
        clear hw3 hst c0
        generalize w1.heap.size = q at *
        generalize w2.heap.size = b at *
        generalize w.heap.size + 2 = p at *
        go_loopw [13, 15] (fun cp i wr => ∃ (k : Nat) (S : NS) (G : Nat → Prop) (aoS : Option Addr) (capS : Nat), k ≤ many ∧ i = .int .i64 (k : Int) ∧ Loop w wr nd seed xs p q b k many cp S G aoS capS) (fun _ i _ => many - (intOf i).toNat)
        case atStart => exact ⟨0, _, _, _, _, Nat.zero_le _, rfl, Hst.out⟩
        case round =>
          obtain ⟨k, S, G, aoS, capS, hkm, rfl, hL⟩ := hrel
          have HL := Lib.hid hL; clear hL
          by_cases hlt : k < many
          · have hk1 : (k : Int) < (many : Int) := by omega
            go_upto_if 56 with fail
            go_cut [13, 15] from 53 to 61 (fun cp i wx => i = .int .i64 (k : Int) ∧ Loop w wx nd seed xs p q b k many cp S G aoS capS ∧ (many / 2 < k + 1 → Left w.heap.size wx q b cp G aoS S.msgs.length capS))
            case first =>
              by_cases hmid : k = many / 2
              · have hmid2 : ((k : Int) == (many : Int) / 2) = true := by simp; omega
                have Hmid := Lib.hid hmid; clear hmid
                go_wp2_with fail
                refine wp_region_noPanic ?_
                have hLd := HL.out.below (show Below wr.heap.size wr wr.drew from ⟨rfl, rfl, rfl, Nat.le_refl _, fun _ _ => rfl⟩)
                have hrg := hLd.st.st.range
                have HLd := Lib.hid hLd; clear hLd
                refine wp_region_L (fun W => W.rangeAt q 0 (cells55 S aoS capS)) 6 (by kernel_rfl) hrg (fun hHeld => ?_)
                refine wpAnyL_take (i := 0) (v := ?_) rfl (by kernel_rfl) (by kernel_rfl) (by kernel_rfl) (by kernel_rfl) (fun _ _ _ h => h) (Or.inl ⟨by rfl, ?_⟩) hHeld ?_
                rotate_left
                · ((intro wS hSw; (try dsimp only at hSw); go_simp) <;> with_reducible rfl)
                try simp only [Act.put, List.setIfInBounds_toArray, List.set_cons_zero, List.set_cons_succ]
                refine wpAnyL_take (i := 2) (v := ?_) rfl (by kernel_rfl) (by kernel_rfl) (by kernel_rfl) (by kernel_rfl) (fun _ _ _ h => h) (Or.inl ⟨by rfl, ?_⟩) hHeld ?_
                rotate_left
                · ((intro wS hSw; (try dsimp only at hSw); go_simp) <;> with_reducible rfl)
                try simp only [Act.put, List.setIfInBounds_toArray, List.set_cons_zero, List.set_cons_succ]
                refine wpAnyL_take (i := 3) (v := ?_) rfl (by kernel_rfl) (by kernel_rfl) (by kernel_rfl) (by kernel_rfl) (fun _ _ _ h => h) (Or.inl ⟨by rfl, ?_⟩) hHeld ?_
                rotate_left
                · ((intro wS hSw; (try dsimp only at hSw); go_simp) <;> with_reducible rfl)
                try simp only [Act.put, List.setIfInBounds_toArray, List.set_cons_zero, List.set_cons_succ]
                refine wpAnyL_take (i := 4) (v := .agg (cells55 S aoS capS).toArray) rfl (by kernel_rfl) (by kernel_rfl) (by kernel_rfl) (by kernel_rfl) (fun _ _ _ h => h) (yieldsIf_load_mid (by rfl) 39 _ rfl q 0 rfl (cells55 S aoS capS) _ (fun _ h => h) Try.underlying39 (by rfl) Try.size39) hHeld ?_
                try simp only [Act.put, List.setIfInBounds_toArray, List.set_cons_zero, List.set_cons_succ]
                refine wpAnyL_one (i := 1) rfl (by kernel_rfl) (fun K hK => ?_)
                go_simp
                refine (copy_walk HLd.out.net HLd.out.wf (by omega)).mono ?_
                rintro e w4 ⟨c, G2, rfl, hnc, hG2, hb4⟩
                have hrg4 := (HLd.out.st.st.below hb4).range
                obtain ⟨hL5, hleft⟩ := HLd.out.copy (by omega) hnc hG2 hb4
                have hroom := (HLd.out.room.kept (F := fun _ _ => False) (Frm.of_below hb4) (fun _ h => h))
                have hthere : w4.there b 0 (cells55 S aoS capS).toArray.size := fun j hj => by rw [Nat.zero_add]; exact ⟨hroom.some j hj, hroom.fz j⟩
                have HL5 := Lib.hid hL5; clear hL5
                have Hleft := Lib.hid hleft; clear hleft
                clear hnc hG2 hroom
                go_simp
                refine hK.out _ _ (fun _ => hrg4) ?_
                clear hK K
                refine wpAnyL_one (i := 5) rfl (by kernel_rfl) (fun K hK => ?_)
                go_simp
                refine hK.out _ _ (fun _ => hrg4) ?_
                clear hK K
                refine wpAnyL_one (i := 6) rfl (by kernel_rfl) (fun K hK => ?_)
                rw [if_pos (by rfl)]
                refine wp_store_mid 39 _ _ rfl b 0 (cells55 S aoS capS).toArray rfl rfl hthere Try.size39 (cells55_one _ _ _) ?_
                refine hK.out _ _ (fun h => absurd rfl h) ?_
                clear hK K
                refine wpAnyL_done (by kernel_rfl) ?_ _
                refine NoPanic.normal ?_
                try simp only [Act.put, List.setIfInBounds_toArray, List.set_cons_zero, List.set_cons_succ]
                go_wp2_with fail
                go_meet
                case rel => exact ⟨by have := Hmid.out; first | rfl | (congr 1; omega), HL5.out, fun _ => Hleft.out⟩
              · have hmid2 : ((k : Int) == (many : Int) / 2) = false := by simp; omega
                go_wp2_with fail
                go_meet
                case rel => exact ⟨rfl, HL.out, fun h => HL.out.left (by omega)⟩
            case rest =>
              obtain ⟨rfl, hLc, hlf⟩ := hcut
              have hkx : k < xs.length := by rw [Hxl.out]; omega
              have hx := List.getElem?_eq_getElem hkx
              have hxm : xs[k] ∈ xs := List.getElem_mem hkx
              generalize xs[k] = x at hx hxm
              obtain ⟨⟨x1, x2⟩, ⟨x3, x4⟩, ⟨x5, x6⟩, ⟨x7, x8⟩, x9, x10⟩ := Hxs.out x hxm
              have hrc := Hrow.out.below hLc.bel
              obtain ⟨ab, aof, rfl⟩ := hrc.2.1 (by omega)
              obtain ⟨g0, g1, g2, g3, g4⟩ := stps_get xs k x hx
              have e0 := hrc.2.2 _ _ rfl _ _ g0
              have e1 : wc.cell? ⟨ab, aof + k * 5 + 1, none⟩ = _ := hrc.2.2 _ _ rfl _ _ g1
              have e2 : wc.cell? ⟨ab, aof + k * 5 + 2, none⟩ = _ := hrc.2.2 _ _ rfl _ _ g2
              have e3 : wc.cell? ⟨ab, aof + k * 5 + 3, none⟩ = _ := hrc.2.2 _ _ rfl _ _ g3
              have e4 : wc.cell? ⟨ab, aof + k * 5 + 4, none⟩ = _ := hrc.2.2 _ _ rfl _ _ g4
              have hk0 : (0 : Int) ≤ (k : Int) := by omega
              have hkn : (k : Int) < (n : Int) := by omega
              have hk40 : (k : Int) ≤ 40 := by omega
              have hhp := happens_spec hLc.st hLc.net hLc.wf (by omega) x.k x.fr x.tu x.ii x.nn (k : Int) x1 hk0 hk40 x3 x4 x5 x6 x7 x8 x9 x10
              have Hhp := Lib.hid hhp; clear hhp
              have HLc := Lib.hid hLc; clear hLc
              have Hlf := Lib.hid hlf; clear hlf
              have Hx := Lib.hid hx; clear hx
              clear g0 g1 g2 g3 g4 hrc hxm hkx
              go_wp2_with fail
              refine Hhp.out.mono ?_
              rintro e w5 ⟨st, hst, hhap⟩
              obtain ⟨S', G', ao', cap', hL5⟩ := HLc.out.turn Hx.out Hlf.out hst hhap
              obtain rfl : e = .returned (.bool true) := hhap.1
              have hsd := stands_walk hL5.st.st hL5.net hL5.wf (by omega)
              have HL5 := Lib.hid hL5; clear hL5 hhap
              have Hsd := Lib.hid hsd; clear hsd
              go_wp2_with fail
              refine Hsd.out.mono ?_
              rintro e w6 ⟨rfl, hb6⟩
              have hL6 := HL5.out.below hb6
              have HL6 := Lib.hid hL6; clear hL6 hb6
              go_wp2_with fail
              go_roundw
              case rel => (repeat apply Exists.intro); exact ⟨⟨k + 1, S', G', ao', cap', by omega, by go_num, HL6.out⟩, rfl⟩
              case measure => simp [intOf]; omega
          · obtain rfl : k = many := by omega
            have hLd := HL.out.below (show Below wr.heap.size wr wr.drew from ⟨rfl, rfl, rfl, Nat.le_refl _, fun _ _ => rfl⟩)
            have d1 := hLd.st.st.c1
            have htk : xs.take 40 = xs.take k := by
              have h1 := Hmany.out
              have h2 := Hxl.out
              by_cases h3 : n ≤ 40
              · rw [List.take_of_length_le (by omega), List.take_of_length_le (by omega)]
              · rw [show k = 40 by omega]
            have Htk := Lib.hid htk; clear htk
            have HLd := Lib.hid hLd; clear hLd
            by_cases hz : k = 0
            · have hz1 : ((k : Int) == 0) = true := by simp; omega
              have Hz := Lib.hid hz; clear hz
              go_upto_region 20 with fail
              refine wp_region_noPanic ?_
              refine wp_region_L (fun W => W.cell? ⟨q, 1, none⟩ = some (.slice aoS S.msgs.length capS)) 17 (by kernel_rfl) d1 (fun hHeld => ?_)
              refine wpAnyL_take (i := 0) (v := ?_) rfl (by kernel_rfl) (by kernel_rfl) (by kernel_rfl) (by kernel_rfl) (fun _ _ _ h => h) (Or.inl ⟨by rfl, ?_⟩) hHeld ?_
              rotate_left
              · ((intro wS hSw; (try dsimp only at hSw); go_simp) <;> with_reducible rfl)
              try simp only [Act.put, List.getElem_toArray, List.getElem_cons_zero, List.getElem_cons_succ, List.setIfInBounds_toArray, List.set_cons_zero, List.set_cons_succ]
              refine wpAnyL_take (i := 1) (v := ?_) rfl (by kernel_rfl) (by kernel_rfl) (by kernel_rfl) (by kernel_rfl) (fun _ _ _ h => h) (Or.inl ⟨by rfl, ?_⟩) hHeld ?_
              rotate_left
              · ((intro wS hSw; (try dsimp only at hSw); go_simp) <;> with_reducible rfl)
              try simp only [Act.put, List.getElem_toArray, List.getElem_cons_zero, List.getElem_cons_succ, List.setIfInBounds_toArray, List.set_cons_zero, List.set_cons_succ]
              refine wpAnyL_take (i := 2) (v := ?_) rfl (by kernel_rfl) (by kernel_rfl) (by kernel_rfl) (by kernel_rfl) (fun _ _ _ h => h) (Or.inl ⟨by rfl, ?_⟩) hHeld ?_
              rotate_left
              · ((intro wS hSw; (try dsimp only at hSw); go_simp) <;> with_reducible rfl)
              try simp only [Act.put, List.getElem_toArray, List.getElem_cons_zero, List.getElem_cons_succ, List.setIfInBounds_toArray, List.set_cons_zero, List.set_cons_succ]
              refine wpAnyL_take (i := 3) (v := ?_) rfl (by kernel_rfl) (by kernel_rfl) (by kernel_rfl) (by kernel_rfl) (fun _ _ _ h => h) (Or.inl ⟨by rfl, ?_⟩) hHeld ?_
              rotate_left
              · ((intro wS hSw; (try dsimp only at hSw); go_simp) <;> with_reducible rfl)
              try simp only [Act.put, List.getElem_toArray, List.getElem_cons_zero, List.getElem_cons_succ, List.setIfInBounds_toArray, List.set_cons_zero, List.set_cons_succ]
              refine wpAnyL_take (i := 4) (v := ?_) rfl (by kernel_rfl) (by kernel_rfl) (by kernel_rfl) (by kernel_rfl) (fun _ _ _ h => h) (Or.inl ⟨by rfl, ?_⟩) hHeld ?_
              rotate_left
              · ((intro wS hSw; (try dsimp only at hSw); go_simp) <;> with_reducible rfl)
              try simp only [Act.put, List.getElem_toArray, List.getElem_cons_zero, List.getElem_cons_succ, List.setIfInBounds_toArray, List.set_cons_zero, List.set_cons_succ]
              refine wpAnyL_take (i := 5) (v := ?_) rfl (by kernel_rfl) (by kernel_rfl) (by kernel_rfl) (by kernel_rfl) (fun _ _ _ h => h) (Or.inl ⟨by rfl, ?_⟩) hHeld ?_
              rotate_left
              · ((intro wS hSw; (try dsimp only at hSw); go_simp) <;> with_reducible rfl)
              try simp only [Act.put, List.getElem_toArray, List.getElem_cons_zero, List.getElem_cons_succ, List.setIfInBounds_toArray, List.set_cons_zero, List.set_cons_succ]
              refine wpAnyL_take (i := 6) (v := ?_) rfl (by kernel_rfl) (by kernel_rfl) (by kernel_rfl) (by kernel_rfl) (fun _ _ _ h => h) (Or.inl ⟨by rfl, ?_⟩) hHeld ?_
              rotate_left
              · ((intro wS hSw; (try dsimp only at hSw); go_simp) <;> with_reducible rfl)
              try simp only [Act.put, List.getElem_toArray, List.getElem_cons_zero, List.getElem_cons_succ, List.setIfInBounds_toArray, List.set_cons_zero, List.set_cons_succ]
              refine wpAnyL_take (i := 7) (v := ?_) rfl (by kernel_rfl) (by kernel_rfl) (by kernel_rfl) (by kernel_rfl) (fun _ _ _ h => h) (Or.inl ⟨by rfl, ?_⟩) hHeld ?_
              rotate_left
              · ((intro wS hSw; (try dsimp only at hSw); go_simp) <;> with_reducible rfl)
              try simp only [Act.put, List.getElem_toArray, List.getElem_cons_zero, List.getElem_cons_succ, List.setIfInBounds_toArray, List.set_cons_zero, List.set_cons_succ]
              refine wpAnyL_take (i := 8) (v := undef) rfl (by kernel_rfl) (by kernel_rfl) (by kernel_rfl) (by kernel_rfl) (fun _ _ _ h => h) (Or.inr ⟨by rfl, rfl⟩) hHeld ?_
              try simp only [Act.put, List.getElem_toArray, List.getElem_cons_zero, List.getElem_cons_succ, List.setIfInBounds_toArray, List.set_cons_zero, List.set_cons_succ]
              refine wpAnyL_take (i := 9) (v := undef) rfl (by kernel_rfl) (by kernel_rfl) (by kernel_rfl) (by kernel_rfl) (fun _ _ _ h => h) (Or.inr ⟨by rfl, rfl⟩) hHeld ?_
              try simp only [Act.put, List.getElem_toArray, List.getElem_cons_zero, List.getElem_cons_succ, List.setIfInBounds_toArray, List.set_cons_zero, List.set_cons_succ]
              refine wpAnyL_take (i := 10) (v := undef) rfl (by kernel_rfl) (by kernel_rfl) (by kernel_rfl) (by kernel_rfl) (fun _ _ _ h => h) (Or.inr ⟨by rfl, rfl⟩) hHeld ?_
              try simp only [Act.put, List.getElem_toArray, List.getElem_cons_zero, List.getElem_cons_succ, List.setIfInBounds_toArray, List.set_cons_zero, List.set_cons_succ]
              refine wpAnyL_take (i := 11) (v := undef) rfl (by kernel_rfl) (by kernel_rfl) (by kernel_rfl) (by kernel_rfl) (fun _ _ _ h => h) (Or.inr ⟨by rfl, rfl⟩) hHeld ?_
              try simp only [Act.put, List.getElem_toArray, List.getElem_cons_zero, List.getElem_cons_succ, List.setIfInBounds_toArray, List.set_cons_zero, List.set_cons_succ]
              refine wpAnyL_take (i := 12) (v := undef) rfl (by kernel_rfl) (by kernel_rfl) (by kernel_rfl) (by kernel_rfl) (fun _ _ _ h => h) (Or.inr ⟨by rfl, rfl⟩) hHeld ?_
              try simp only [Act.put, List.getElem_toArray, List.getElem_cons_zero, List.getElem_cons_succ, List.setIfInBounds_toArray, List.set_cons_zero, List.set_cons_succ]
              refine wpAnyL_take (i := 13) (v := undef) rfl (by kernel_rfl) (by kernel_rfl) (by kernel_rfl) (by kernel_rfl) (fun _ _ _ h => h) (Or.inr ⟨by rfl, rfl⟩) hHeld ?_
              try simp only [Act.put, List.getElem_toArray, List.getElem_cons_zero, List.getElem_cons_succ, List.setIfInBounds_toArray, List.set_cons_zero, List.set_cons_succ]
              refine wpAnyL_take (i := 14) (v := undef) rfl (by kernel_rfl) (by kernel_rfl) (by kernel_rfl) (by kernel_rfl) (fun _ _ _ h => h) (Or.inr ⟨by rfl, rfl⟩) hHeld ?_
              try simp only [Act.put, List.getElem_toArray, List.getElem_cons_zero, List.getElem_cons_succ, List.setIfInBounds_toArray, List.set_cons_zero, List.set_cons_succ]
              refine wpAnyL_take (i := 15) (v := ?_) rfl (by kernel_rfl) (by kernel_rfl) (by kernel_rfl) (by kernel_rfl) (fun _ _ _ h => h) (Or.inl ⟨by rfl, ?_⟩) hHeld ?_
              rotate_left
              · ((intro wS hSw; (try dsimp only at hSw); go_simp) <;> with_reducible rfl)
              try simp only [Act.put, List.getElem_toArray, List.getElem_cons_zero, List.getElem_cons_succ, List.setIfInBounds_toArray, List.set_cons_zero, List.set_cons_succ]
              refine wpAnyL_one (i := 16) rfl (by kernel_rfl) (fun K hK => ?_)
              go_simp
              refine hK.out _ _ (fun _ => d1) ?_
              clear hK K
              refine wpAnyL_one (i := 17) rfl (by kernel_rfl) (fun K hK => ?_)
              go_simp
              refine hK.out _ _ (fun h => absurd rfl h) ?_
              clear hK K
              refine wpAnyL_done (by kernel_rfl) ?_ _
              refine NoPanic.normal ?_
              go_wp2_with fail
              go_ret2
              exact ⟨S, rfl, by rw [Htk.out]; exact HLd.out.reach, HLd.out.bel⟩
            · have hz1 : ((k : Int) == 0) = false := by simp; omega
              have hm1 : k / 2 < k := by omega
              obtain ⟨c, S2, G2, ao2, cap2, N2, rfl, hnc, h552, hS2, hN2, hdis, hGB, hrw2⟩ := (HLd.out.left hm1).all
              have hsd := stands_walk h552 hnc hS2 (by omega)
              have Hsd := Lib.hid hsd; clear hsd
              have Hnc := Lib.hid hnc; clear hnc
              have H552 := Lib.hid h552; clear h552
              clear hdis hrw2
              go_upto_region 20 with fail
              refine wp_region_noPanic ?_
              refine wp_region_L (fun W => W.cell? ⟨q, 1, none⟩ = some (.slice aoS S.msgs.length capS)) 17 (by kernel_rfl) d1 (fun hHeld => ?_)
              refine wpAnyL_take (i := 0) (v := ?_) rfl (by kernel_rfl) (by kernel_rfl) (by kernel_rfl) (by kernel_rfl) (fun _ _ _ h => h) (Or.inl ⟨by rfl, ?_⟩) hHeld ?_
              rotate_left
              · ((intro wS hSw; (try dsimp only at hSw); go_simp) <;> with_reducible rfl)
              try simp only [Act.put, List.getElem_toArray, List.getElem_cons_zero, List.getElem_cons_succ, List.setIfInBounds_toArray, List.set_cons_zero, List.set_cons_succ]
              refine wpAnyL_take (i := 1) (v := ?_) rfl (by kernel_rfl) (by kernel_rfl) (by kernel_rfl) (by kernel_rfl) (fun _ _ _ h => h) (Or.inl ⟨by rfl, ?_⟩) hHeld ?_
              rotate_left
              · ((intro wS hSw; (try dsimp only at hSw); go_simp) <;> with_reducible rfl)
              try simp only [Act.put, List.getElem_toArray, List.getElem_cons_zero, List.getElem_cons_succ, List.setIfInBounds_toArray, List.set_cons_zero, List.set_cons_succ]
              refine wpAnyL_take (i := 2) (v := ?_) rfl (by kernel_rfl) (by kernel_rfl) (by kernel_rfl) (by kernel_rfl) (fun _ _ _ h => h) (Or.inl ⟨by rfl, ?_⟩) hHeld ?_
              rotate_left
              · ((intro wS hSw; (try dsimp only at hSw); go_simp) <;> with_reducible rfl)
              try simp only [Act.put, List.getElem_toArray, List.getElem_cons_zero, List.getElem_cons_succ, List.setIfInBounds_toArray, List.set_cons_zero, List.set_cons_succ]
              refine wpAnyL_take (i := 3) (v := ?_) rfl (by kernel_rfl) (by kernel_rfl) (by kernel_rfl) (by kernel_rfl) (fun _ _ _ h => h) (Or.inl ⟨by rfl, ?_⟩) hHeld ?_
              rotate_left
              · ((intro wS hSw; (try dsimp only at hSw); go_simp) <;> with_reducible rfl)
              try simp only [Act.put, List.getElem_toArray, List.getElem_cons_zero, List.getElem_cons_succ, List.setIfInBounds_toArray, List.set_cons_zero, List.set_cons_succ]
              refine wpAnyL_take (i := 4) (v := ?_) rfl (by kernel_rfl) (by kernel_rfl) (by kernel_rfl) (by kernel_rfl) (fun _ _ _ h => h) (Or.inl ⟨by rfl, ?_⟩) hHeld ?_
              rotate_left
              · ((intro wS hSw; (try dsimp only at hSw); go_simp) <;> with_reducible rfl)
              try simp only [Act.put, List.getElem_toArray, List.getElem_cons_zero, List.getElem_cons_succ, List.setIfInBounds_toArray, List.set_cons_zero, List.set_cons_succ]
              refine wpAnyL_take (i := 5) (v := ?_) rfl (by kernel_rfl) (by kernel_rfl) (by kernel_rfl) (by kernel_rfl) (fun _ _ _ h => h) (Or.inl ⟨by rfl, ?_⟩) hHeld ?_
              rotate_left
              · ((intro wS hSw; (try dsimp only at hSw); go_simp) <;> with_reducible rfl)
              try simp only [Act.put, List.getElem_toArray, List.getElem_cons_zero, List.getElem_cons_succ, List.setIfInBounds_toArray, List.set_cons_zero, List.set_cons_succ]
              refine wpAnyL_take (i := 6) (v := ?_) rfl (by kernel_rfl) (by kernel_rfl) (by kernel_rfl) (by kernel_rfl) (fun _ _ _ h => h) (Or.inl ⟨by rfl, ?_⟩) hHeld ?_
              rotate_left
              · ((intro wS hSw; (try dsimp only at hSw); go_simp) <;> with_reducible rfl)
              try simp only [Act.put, List.getElem_toArray, List.getElem_cons_zero, List.getElem_cons_succ, List.setIfInBounds_toArray, List.set_cons_zero, List.set_cons_succ]
              refine wpAnyL_take (i := 7) (v := ?_) rfl (by kernel_rfl) (by kernel_rfl) (by kernel_rfl) (by kernel_rfl) (fun _ _ _ h => h) (Or.inl ⟨by rfl, ?_⟩) hHeld ?_
              rotate_left
              · ((intro wS hSw; (try dsimp only at hSw); go_simp) <;> with_reducible rfl)
              try simp only [Act.put, List.getElem_toArray, List.getElem_cons_zero, List.getElem_cons_succ, List.setIfInBounds_toArray, List.set_cons_zero, List.set_cons_succ]
              refine wpAnyL_take (i := 8) (v := ?_) rfl (by kernel_rfl) (by kernel_rfl) (by kernel_rfl) (by kernel_rfl) (fun _ _ _ h => h) (Or.inl ⟨by rfl, ?_⟩) hHeld ?_
              rotate_left
              · ((intro wS hSw; (try dsimp only at hSw); go_simp) <;> with_reducible rfl)
              try simp only [Act.put, List.getElem_toArray, List.getElem_cons_zero, List.getElem_cons_succ, List.setIfInBounds_toArray, List.set_cons_zero, List.set_cons_succ]
              refine wpAnyL_one (i := 9) rfl (by kernel_rfl) (fun K hK => ?_)
              go_simp
              refine Hsd.out.mono ?_
              rintro e w5 ⟨rfl, hb5⟩
              have d5 := Below.at hb5 (World.block_lt_of_cell? _ _ d1) d1
              have h555 := H552.out.below hb5
              have hn5 := Hnc.out.below hb5
              have hL5 := HLd.out.below hb5
              have hbh := behind_walk h555 hn5 hS2 (by omega) 8 1 0 0 99 0 1 0 0 rfl (by omega) (by omega) (Int.tmod_eq_of_lt (by omega) (by have := hS2.n1; omega)) (by simp) rfl (by omega) (by omega) (by omega) (by omega) (by omega) (by omega) (by omega) (by omega) (by omega) (by omega) (by omega) (by omega) (by omega) (by omega) (by have := hS2.n1; omega) (by omega) (by omega)
              have Hbh := Lib.hid hbh; clear hbh
              have Hn5 := Lib.hid hn5; clear hn5
              have HL5 := Lib.hid hL5; clear hL5 h555 hb5
              go_simp
              refine hK.out _ _ (fun _ => d5) ?_
              clear hK K
              have hHeld := d5
              refine wpAnyL_take (i := 10) (v := ?_) rfl (by kernel_rfl) (by kernel_rfl) (by kernel_rfl) (by kernel_rfl) (fun _ _ _ h => h) (Or.inl ⟨by rfl, ?_⟩) hHeld ?_
              rotate_left
              · ((intro wS hSw; (try dsimp only at hSw); go_simp) <;> with_reducible rfl)
              try simp only [Act.put, List.getElem_toArray, List.getElem_cons_zero, List.getElem_cons_succ, List.setIfInBounds_toArray, List.set_cons_zero, List.set_cons_succ]
              refine wpAnyL_take (i := 11) (v := ?_) rfl (by kernel_rfl) (by kernel_rfl) (by kernel_rfl) (by kernel_rfl) (fun _ _ _ h => h) (Or.inl ⟨by rfl, ?_⟩) hHeld ?_
              rotate_left
              · ((intro wS hSw; (try dsimp only at hSw); go_simp) <;> with_reducible rfl)
              try simp only [Act.put, List.getElem_toArray, List.getElem_cons_zero, List.getElem_cons_succ, List.setIfInBounds_toArray, List.set_cons_zero, List.set_cons_succ]
              refine wpAnyL_take (i := 12) (v := ?_) rfl (by kernel_rfl) (by kernel_rfl) (by kernel_rfl) (by kernel_rfl) (fun _ _ _ h => h) (Or.inl ⟨by rfl, ?_⟩) hHeld ?_
              rotate_left
              · ((intro wS hSw; (try dsimp only at hSw); go_simp) <;> with_reducible rfl)
              try simp only [Act.put, List.getElem_toArray, List.getElem_cons_zero, List.getElem_cons_succ, List.setIfInBounds_toArray, List.set_cons_zero, List.set_cons_succ]
              refine wpAnyL_one (i := 13) rfl (by kernel_rfl) (fun K hK => ?_)
              go_simp
              refine Hbh.out.mono ?_
              rintro e w6 ⟨rfl, hf6⟩
              have hbelF : Below w.heap.size w w6 := by
                refine HL5.out.bel.trans (hf6.below HL5.out.bel.size ?_)
                rintro x o hx (e | e)
                · have := hGB x e; omega
                · have := HL5.out.hb; omega
              have d6 : w6.cell? ⟨q, 1, none⟩ = some (.slice aoS S.msgs.length capS) := by
                refine (hf6.cel q 1 (World.block_lt_of_cell? _ _ d5) ?_).trans d5
                rintro (e | e)
                · rcases Hn5.out.gty _ e with e2 | e2 | e2 | e2 <;> (rw [HL5.out.st.st.eq] at e2; cases e2)
                · exact HL5.out.room.ne e.symm
              have HbelF := Lib.hid hbelF; clear hbelF hf6
              go_simp
              refine hK.out _ _ (fun _ => d6) ?_
              clear hK K
              have hHeld := d6
              refine wpAnyL_take (i := 14) (v := ?_) rfl (by kernel_rfl) (by kernel_rfl) (by kernel_rfl) (by kernel_rfl) (fun _ _ _ h => h) (Or.inl ⟨by rfl, ?_⟩) hHeld ?_
              rotate_left
              · ((intro wS hSw; (try dsimp only at hSw); go_simp) <;> with_reducible rfl)
              try simp only [Act.put, List.getElem_toArray, List.getElem_cons_zero, List.getElem_cons_succ, List.setIfInBounds_toArray, List.set_cons_zero, List.set_cons_succ]
              refine wpAnyL_take (i := 15) (v := ?_) rfl (by kernel_rfl) (by kernel_rfl) (by kernel_rfl) (by kernel_rfl) (fun _ _ _ h => h) (Or.inl ⟨by rfl, ?_⟩) hHeld ?_
              rotate_left
              · ((intro wS hSw; (try dsimp only at hSw); go_simp) <;> with_reducible rfl)
              try simp only [Act.put, List.getElem_toArray, List.getElem_cons_zero, List.getElem_cons_succ, List.setIfInBounds_toArray, List.set_cons_zero, List.set_cons_succ]
              refine wpAnyL_one (i := 16) rfl (by kernel_rfl) (fun K hK => ?_)
              go_simp
              refine hK.out _ _ (fun _ => d6) ?_
              clear hK K
              refine wpAnyL_one (i := 17) rfl (by kernel_rfl) (fun K hK => ?_)
              go_simp
              refine hK.out _ _ (fun h => absurd rfl h) ?_
              clear hK K
              refine wpAnyL_done (by kernel_rfl) ?_ _
              refine NoPanic.normal ?_
              go_wp2_with fail
              go_ret2
              exact ⟨S, rfl, by rw [Htk.out]; exact HLd.out.reach, HbelF.out⟩

end Go.Proofs.Ytcjcccmlpilbbaa
