/- CopyT: lemmas on the way to the law (no condition of their own beyond what each states). -/
import Derived.Test.YtcjcccmlpilbbaaCopyL
import Derived.Test.YtcjcccmlpilbbaaReg
import Derived.Deep.CutBlock
namespace Go.Proofs.Ytcjcccmlpilbbaa
open Go.RowKit Go.K55 Go.Maps
set_option linter.unusedVariables false
set_option linter.unusedSimpArgs false

/-- What a copy is. -/
def CopyPost (w : World) (S : NS) (e : Ending) (w' : World) : Prop := ∃ c G', e = .returned (.pointer (some ⟨c, 0, none⟩)) ∧ NetG w' c S G' ∧ (∀ x, G' x → w.heap.size ≤ x) ∧ Below w.heap.size w w'

set_option maxRecDepth 100000 in
set_option maxHeartbeats 1000000 in
theorem copy_walk {w : World} {p : Nat} {S : NS} {G : Nat → Prop} {N : Nat} (hn : NetG w p S G) (hS : Wf S N) (hN : N ≤ 800) : Calls Try.prog 6 #[.pointer (some ⟨p, 0, none⟩)] w (CopyPost w S) := by
  have hnil := fun W A n c => Lib.run_eql_slice_nil (P := Try.prog) W 44 48 A n c 0 0 Try.underlying44
  obtain ⟨lb, mb, mcap, M, hW, hmc⟩ := hn
  have c0 := hW.c0
  have c1 := hW.c1
  have c2 := hW.c2
  have hp : p < w.heap.size := World.block_lt_of_cell? _ _ c0
  have fA : Frm (fun _ _ => False) w (w.drew.alloc (.map #[] 0)) := ((Frm.refl _ w).drew).alloc _
  have a1 := (fA.cel p 1 hp (fun h => h)).trans c1
  have a2 := (fA.cel p 2 hp (fun h => h)).trans c2
  have hrow := hW.machRow hmc
  have Hrow := Lib.hid hrow; clear hrow
  have hS2 := hS.n2
  have hS1 := hS.n1
  have fA0 : Below w.heap.size w (w.drew.alloc (.map #[] 0)) := fA.below (Nat.le_refl _) (fun _ _ _ h => h.elim)
  have hlt0 : w.heap.size ≤ (w.drew.alloc (.map #[] 0)).heap.size := fA0.size
  have mk := make43
  go_enter Try.func6, Try.ntmps6
  go_wp2_with fail
  go_cut [3] from 15 to 26 (fun v wx => ∃ c cl b cap', v = .pointer (some ⟨c, 0, none⟩) ∧ CopyM w wx S c cl b cap')
  case rest =>
    obtain ⟨c, cl, b, cap', rfl, hM⟩ := hcut
    have c0c := Below.at hM.bel hp c0
    have HW := Lib.hid hW
    have hmap : MapAt Try.prog 51 wc lb M := hW.map.of_heap (hM.bel.block _ (hW.glt _ hW.gl))
    go_wp2_with (at_range; refine wpList_range_at _ rfl _ 43 rfl Try.underlying43 rfl hmap ?_; intro w0 hrg0 hb0 hs0)
    go_frame
    have hst := CopyL.start hM hrg0 hb0 rfl
    obtain ⟨r, hr⟩ : ∃ r, r = wc.heap.size := ⟨_, rfl⟩
    rw [← hr] at hst ⊢
    clear hr hrg0 hb0 hs0 hmap c0c
    have Hst := Lib.hid hst; clear hst hM
    go_loopw [5] (fun _ wr => ∃ T, CopyL w wr S lb r c cl b cap' M T) (fun _ wr => leftN wr lb r)
    case atStart => exact ⟨_, Hst.out⟩
    case round =>
      obtain ⟨T, hL⟩ := hrel
      have hran := hL.ran
      have HL := Lib.hid hL; clear hL
      go_wp2_with (at_next; refine wpList_next_at _ rfl _ rfl rfl hran ?_ ?_)
      · intro hdone
        have Hdone := Lib.hid hdone; clear hdone
        go_wp2_with fail
        go_ret
        obtain ⟨G', h1, h2⟩ := HL.out.done hW Hdone.out hS1
        exact ⟨c, G', rfl, h1, h2, HL.out.bel⟩
      · intro key v w1 hv hnT ran1 hlt hb1 hf1 hs1 hen
        obtain ⟨x, y, rfl, hx1, hx2, hy1, hy2⟩ := hW.dom key v hv
        obtain ⟨ao, cap, e1, hrow1, _, hG1⟩ := hW.row x y
        rw [hv] at e1
        obtain rfl : v = _ := e1
        have hen1 := hen w1 rfl rfl
        have frm1 := hf1 (fun x _ => x = r) (fun _ => rfl)
        have Hv := Lib.hid hv
        have HnT := Lib.hid hnT
        have Hran1 := Lib.hid ran1
        have Hlt := Lib.hid hlt
        have Hfrm1 := Lib.hid frm1
        have Hrow1 := Lib.hid hrow1
        clear hv hnT ran1 hlt hb1 hf1 hs1 hen frm1 hrow1 hG1 hran
        unfold Ytcjcccmlpilbbaa.key at hen1
        go_upto_region 7 with fail
        have hcw : c < wr.heap.size := World.block_lt_of_cell? _ _ HL.out.c0
        have hcr : c ≠ r := fun e => by
          have h1 := HL.out.ep
          obtain ⟨es, clock, since, c0, seen, hb, hst, hks, hr, hit, _⟩ := HL.out.ran
          unfold elemAt at h1
          rw [e, hit] at h1; cases h1
        have hs1 : wr.heap.size ≤ w1.heap.size := Hfrm1.out.size
        have bA : Below w1.heap.size w1 (w1.alloc (.cells #[.int .i64 x, .int .i64 y] 51)) := (Below.refl _ w1).alloc (Nat.le_refl _) _
        have cA0 : (w1.alloc (.cells #[.int .i64 x, .int .i64 y] 51)).cell? ⟨c, 0, none⟩ = some (.map (some cl)) := by
          rw [Below.at bA (by omega) ((Hfrm1.out.cel c 0 hcw hcr).trans HL.out.c0)]
        have cA1 : (w1.alloc (.cells #[.int .i64 x, .int .i64 y] 51)).cell? ⟨w1.heap.size, 0, none⟩ = some (.int .i64 x) := by simp [World.cell?_alloc_at]
        have cA2 : (w1.alloc (.cells #[.int .i64 x, .int .i64 y] 51)).cell? ⟨w1.heap.size, 1, none⟩ = some (.int .i64 y) := by simp [World.cell?_alloc_at]
        have hA : w1.heap.size < (w1.alloc (.cells #[.int .i64 x, .int .i64 y] 51)).heap.size := by simp
        have bw : Below w.heap.size w (w1.alloc (.cells #[.int .i64 x, .int .i64 y] 51)) := by
          have f1 : Frm (fun x _ => x = r) w1 (w1.alloc (.cells #[.int .i64 x, .int .i64 y] 51)) := Frm.alloc1 _ _
          refine HL.out.bel.trans ((Hfrm1.out.trans f1 (fun _ _ _ h => h)).below HL.out.bel.size (fun b' o hb' e => ?_))
          have e : b' = r := e
          have := HL.out.hr
          omega
        obtain ⟨wA, hwA⟩ : ∃ z, z = w1.alloc (.cells #[.int .i64 x, .int .i64 y] 51) := ⟨_, rfl⟩
        rw [← hwA] at bA cA0 cA1 cA2 hA bw ⊢
        have rowA : Row wA.drew 9 1 ao (S.link x y).length cap (strs (S.link x y)) := Hrow1.out.kept (F := fun _ _ => False) ((Frm.of_below bw).drew) (fun _ _ _ _ _ _ h => h)
        have hlen := link_len hS x y
        have HrowA := Lib.hid rowA
        have HbA := Lib.hid bA
        have Hbw := Lib.hid bw
        clear rowA bA bw hwA hs1 hcr
        refine wp_region_noPanic ?_
        refine wp_region_L (fun W => W.cell? ⟨c, 0, none⟩ = some (.map (some cl)) ∧ W.cell? ⟨w1.heap.size, 0, none⟩ = some (.int .i64 x) ∧ W.cell? ⟨w1.heap.size, 1, none⟩ = some (.int .i64 y)) 7 (by kernel_rfl) ?_ (fun hHeld => ?_)
        · exact ⟨cA0, cA1, cA2⟩
        refine wpAnyL_take (i := 0) (v := ?_) rfl (by kernel_rfl) (by kernel_rfl) (by kernel_rfl) (by kernel_rfl) (fun _ _ _ h => h) (Or.inl ⟨by rfl, ?_⟩) hHeld ?_
        rotate_left
        · ((intro wS hSw; (try dsimp only at hSw); go_simp) <;> with_reducible rfl)
        try simp only [Act.put, List.setIfInBounds_toArray, List.set_cons_zero, List.set_cons_succ]
        refine wpAnyL_take (i := 1) (v := ?_) rfl (by kernel_rfl) (by kernel_rfl) (by kernel_rfl) (by kernel_rfl) (fun _ _ _ h => h) (Or.inl ⟨by rfl, ?_⟩) hHeld ?_
        rotate_left
        · ((intro wS hSw; (try dsimp only at hSw); go_simp) <;> with_reducible rfl)
        try simp only [Act.put, List.setIfInBounds_toArray, List.set_cons_zero, List.set_cons_succ]
        refine wpAnyL_take (i := 2) (v := ?_) rfl (by kernel_rfl) (by kernel_rfl) (by kernel_rfl) (by kernel_rfl) (fun _ _ _ h => h) (Or.inl ⟨by rfl, ?_⟩) hHeld ?_
        rotate_left
        · ((intro wS hSw; (try dsimp only at hSw); go_simp) <;> with_reducible rfl)
        try simp only [Act.put, List.setIfInBounds_toArray, List.set_cons_zero, List.set_cons_succ]
        refine wpAnyL_take (i := 3) (v := ?_) rfl (by kernel_rfl) (by kernel_rfl) (by kernel_rfl) (by kernel_rfl) (fun _ _ _ h => h) (Or.inl ⟨by rfl, ?_⟩) hHeld ?_
        rotate_left
        · ((intro wS hSw; (try dsimp only at hSw); go_simp) <;> with_reducible rfl)
        try simp only [Act.put, List.setIfInBounds_toArray, List.set_cons_zero, List.set_cons_succ]
        refine wpAnyL_take (i := 4) (v := ?_) rfl (by kernel_rfl) (by kernel_rfl) (by kernel_rfl) (by kernel_rfl) (fun _ _ _ h => h) (Or.inl ⟨by rfl, ?_⟩) hHeld ?_
        rotate_left
        · ((intro wS hSw; (try dsimp only at hSw); go_simp) <;> with_reducible rfl)
        try simp only [Act.put, List.setIfInBounds_toArray, List.set_cons_zero, List.set_cons_succ]
        refine wpAnyL_take (i := 5) (v := ?_) rfl (by kernel_rfl) (by kernel_rfl) (by kernel_rfl) (by kernel_rfl) (fun _ _ _ h => h) (Or.inl ⟨by rfl, ?_⟩) hHeld ?_
        rotate_left
        · ((intro wS hSw; (try dsimp only at hSw); go_simp) <;> with_reducible rfl)
        try simp only [Act.put, List.setIfInBounds_toArray, List.set_cons_zero, List.set_cons_succ]
        refine wpAnyL_one (i := 6) rfl (by kernel_rfl) (fun K hK => ?_)
        go_simp
        refine (clone52 ao (S.link x y).length cap (strs (S.link x y)) _ HrowA.out (strs_one _) (by omega)).mono ?_
        rintro e w2 ⟨ao', cap1, rfl, row2, sp2, lo2, bl2, _⟩
        have k0 := Below.at bl2 (World.block_lt_of_cell? _ _ (show wA.drew.cell? _ = _ from cA0)) cA0
        have k1 := Below.at bl2 (World.block_lt_of_cell? _ _ (show wA.drew.cell? _ = _ from cA1)) cA1
        have k2 := Below.at bl2 (World.block_lt_of_cell? _ _ (show wA.drew.cell? _ = _ from cA2)) cA2
        go_simp
        refine hK.out _ _ (fun _ => ⟨k0, k1, k2⟩) ?_
        clear hK K
        obtain ⟨kl, hkey⟩ := keyOf_key (a := x) (b := y) (wf_small hx1 (by omega)) (wf_small hy1 (by omega))
        have b12 : Below w1.heap.size w1 w2 := (HbA.out.trans (show Below w1.heap.size wA wA.drew from ⟨rfl, rfl, rfl, Nat.le_refl _, fun _ _ => rfl⟩)).trans (bl2.mono (by simp only [World.size_drew]; omega))
        obtain ⟨w3, run3, hupd, frm3⟩ : ∃ w3, (Instr.mapUpdate 43 (.map (some cl)) (.agg #[.int .i64 x, .int .i64 y]) (.slice ao' (S.link x y).length cap1)).run Try.prog w2 = .ok () w3 ∧
            (∀ M', MapAt Try.prog 51 w2 cl M' → MapAt Try.prog 51 w3 cl (putM M' (Ytcjcccmlpilbbaa.key x y) (.slice ao' (S.link x y).length cap1))) ∧ Frm (fun x _ => x = cl) w2 w3 := by
          obtain ⟨M', hm, _⟩ := HL.out.map
          have hm2 : MapAt Try.prog 51 w2 cl M' := (hm.of_heap (Hfrm1.out.blk _ hm.lt (fun _ => HL.out.hlr))).of_heap (b12.block _ (Nat.lt_of_lt_of_le hm.lt Hfrm1.out.size))
          obtain ⟨w3, run3, map3, frm3, _⟩ := run_mapUpdate_at hm2 Try.keyed51 Try.underlying43 (val := .slice ao' (S.link x y).length cap1) hkey
          refine ⟨w3, run3, fun M2 h2 => ?_, frm3 _ (fun _ => rfl)⟩
          obtain ⟨w3', run3', map3', _⟩ := run_mapUpdate_at h2 Try.keyed51 Try.underlying43 (val := .slice ao' (S.link x y).length cap1) hkey
          rw [run3] at run3'
          cases run3'
          exact map3'
        refine wpAnyL_one (i := 7) rfl (by kernel_rfl) (fun K hK => ?_)
        go_simp
        refine hK.out _ _ (fun h => absurd rfl h) ?_
        clear hK K
        refine wpAnyL_done (by kernel_rfl) ?_ _
        refine NoPanic.normal ?_
        have hcopy := CopyL.next HL.out (HW.out.glt _ HW.out.gl) (fun k v hk => by obtain ⟨a', b', e, _⟩ := HW.out.dom k v hk; exact ⟨a', b', e⟩) Hv.out HnT.out Hran1.out Hfrm1.out b12 rfl row2 sp2 (fun z hz hc => by have := lo2 z hz hc; simp only [World.size_drew] at this; omega) hupd frm3
        have hl3 : leftN w3 lb r < leftN wr lb r := by
          have h1 := HW.out.glt _ HW.out.gl
          have h2 := HL.out.bel.size
          have h3 := HL.out.hcl
          have h4 : wr.heap.size ≤ w1.heap.size := Hfrm1.out.size
          have hr1 : r < w1.heap.size := by
            obtain ⟨es, clock, since, c0, seen, hb, hst, hks, hr, hit, _⟩ := Hran1.out
            exact (Array.getElem?_eq_some_iff.1 hit).1
          have h5 := b12.size
          rw [(Hran1.out.of_heap ((frm3.blk _ (by omega) (fun _ e => by have e : lb = cl := e; omega)).trans (b12.block _ (by omega))) ((frm3.blk _ (by omega) (fun _ e => HL.out.hlr (by have e : r = cl := e; exact e.symm))).trans (b12.block _ hr1))).2]
          exact Hlt.out
        have Hcopy := Lib.hid hcopy
        clear hcopy
        go_wp2_with fail
        go_roundw
        case rel => exact ⟨_, Hcopy.out⟩
        case measure => exact hl3
  case first =>
    refine wp_region_noPanic ?_
    refine wp_region_L (fun W => W.cell? ⟨p, 1, none⟩ = some (.slice (some ⟨mb, 0, none⟩) S.nodes mcap) ∧ W.cell? ⟨p, 2, none⟩ = some (.int .i64 (S.msgs.length : Int))) 12 (by kernel_rfl) ?_ (fun hHeld => ?_)
    · exact ⟨(by simpa using c1), (by simpa using c2)⟩
    refine wpAnyL_take (i := 1) (v := ?_) rfl (by kernel_rfl) (by kernel_rfl) (by kernel_rfl) (by kernel_rfl) (fun _ _ _ h => h) (Or.inl ⟨by rfl, ?_⟩) hHeld ?_
    rotate_left
    · ((intro wS hSw; (try dsimp only at hSw); go_simp) <;> with_reducible rfl)
    try simp only [Act.put, List.setIfInBounds_toArray, List.set_cons_zero, List.set_cons_succ]
    refine wpAnyL_take (i := 2) (v := ?_) rfl (by kernel_rfl) (by kernel_rfl) (by kernel_rfl) (by kernel_rfl) (fun _ _ _ h => h) (Or.inl ⟨by rfl, ?_⟩) hHeld ?_
    rotate_left
    · ((intro wS hSw; (try dsimp only at hSw); go_simp) <;> with_reducible rfl)
    try simp only [Act.put, List.setIfInBounds_toArray, List.set_cons_zero, List.set_cons_succ]
    refine wpAnyL_take (i := 3) (v := ?_) rfl (by kernel_rfl) (by kernel_rfl) (by kernel_rfl) (by kernel_rfl) (fun _ _ _ h => h) (Or.inl ⟨by rfl, ?_⟩) hHeld ?_
    rotate_left
    · ((intro wS hSw; (try dsimp only at hSw); go_simp) <;> with_reducible rfl)
    try simp only [Act.put, List.setIfInBounds_toArray, List.set_cons_zero, List.set_cons_succ]
    refine wpAnyL_take (i := 4) (v := ?_) rfl (by kernel_rfl) (by kernel_rfl) (by kernel_rfl) (by kernel_rfl) (fun _ _ _ h => h) (Or.inl ⟨by rfl, ?_⟩) hHeld ?_
    rotate_left
    · ((intro wS hSw; (try dsimp only at hSw); go_simp) <;> with_reducible rfl)
    try simp only [Act.put, List.setIfInBounds_toArray, List.set_cons_zero, List.set_cons_succ]
    refine wpAnyL_take (i := 6) (v := ?_) rfl (by kernel_rfl) (by kernel_rfl) (by kernel_rfl) (by kernel_rfl) (fun _ _ _ h => h) (Or.inl ⟨by rfl, ?_⟩) hHeld ?_
    rotate_left
    · ((intro wS hSw; (try dsimp only at hSw); go_simp) <;> with_reducible rfl)
    try simp only [Act.put, List.setIfInBounds_toArray, List.set_cons_zero, List.set_cons_succ]
    refine wpAnyL_take (i := 7) (v := ?_) rfl (by kernel_rfl) (by kernel_rfl) (by kernel_rfl) (by kernel_rfl) (fun _ _ _ h => h) (Or.inl ⟨by rfl, ?_⟩) hHeld ?_
    rotate_left
    · ((intro wS hSw; (try dsimp only at hSw); go_simp) <;> with_reducible rfl)
    try simp only [Act.put, List.setIfInBounds_toArray, List.set_cons_zero, List.set_cons_succ]
    refine wpAnyL_take (i := 8) (v := ?_) rfl (by kernel_rfl) (by kernel_rfl) (by kernel_rfl) (by kernel_rfl) (fun _ _ _ h => h) (Or.inl ⟨by rfl, ?_⟩) hHeld ?_
    rotate_left
    · ((intro wS hSw; (try dsimp only at hSw); go_simp) <;> with_reducible rfl)
    try simp only [Act.put, List.setIfInBounds_toArray, List.set_cons_zero, List.set_cons_succ]
    refine wpAnyL_take (i := 9) (v := ?_) rfl (by kernel_rfl) (by kernel_rfl) (by kernel_rfl) (by kernel_rfl) (fun _ _ _ h => h) (Or.inl ⟨by rfl, ?_⟩) hHeld ?_
    rotate_left
    · ((intro wS hSw; (try dsimp only at hSw); go_simp) <;> with_reducible rfl)
    try simp only [Act.put, List.setIfInBounds_toArray, List.set_cons_zero, List.set_cons_succ]
    refine wpAnyL_two (i := 0) (j := 5) rfl rfl (by kernel_rfl) (fun K hK => ?_) (fun K hK => ?_)
    · go_simp
      refine hK.out _ _ (fun _ => ⟨a1, a2⟩) ?_
      clear hK K
      refine wpAnyL_one (i := 5) rfl (by kernel_rfl) (fun K hK => ?_)
      go_simp
      refine (clone44 (some ⟨mb, 0, none⟩) S.nodes mcap (machV S S.nodes) _ (Hrow.out.kept (F := fun _ _ => False) fA (fun _ _ _ _ _ _ h => h)) (machV_one _ _) (by omega)).mono ?_
      rintro e w2 ⟨ao', cap', rfl, row2, sp2, lo2, bl2, fz2⟩
      obtain ⟨b, rfl, hb, hfz⟩ := fz2 (by omega)
      have k1 := Below.at bl2 (by simp; omega) a1
      have k2 := Below.at bl2 (by simp; omega) a2
      go_simp
      refine hK.out _ _ (fun _ => ⟨k1, k2⟩) ?_
      clear hK K
      refine wpAnyL_one (i := 10) rfl (by kernel_rfl) (fun K hK => ?_)
      go_simp
      refine hK.out _ _ (fun _ => ⟨k1, k2⟩) ?_
      clear hK K
      refine wpAnyL_one (i := 11) rfl (by kernel_rfl) (fun K hK => ?_)
      go_simp
      refine hK.out _ _ (fun _ => ⟨(((Frm.alloc1 (F := fun _ _ => False) _ _).cel p 1 (World.block_lt_of_cell? _ _ k1) (fun h => h)).trans k1), (((Frm.alloc1 (F := fun _ _ => False) _ _).cel p 2 (World.block_lt_of_cell? _ _ k2) (fun h => h)).trans k2)⟩) ?_
      clear hK K
      refine wpAnyL_one (i := 12) rfl (by kernel_rfl) (fun K hK => ?_)
      go_simp
      refine hK.out _ _ (fun h => absurd rfl h) ?_
      clear hK K
      refine wpAnyL_done (by kernel_rfl) ?_ _
      refine NoPanic.normal ?_
      go_wp2_with fail
      go_meet
      case rel => exact ⟨_, _, _, _, rfl, CopyM.of (fA0.trans (bl2.mono hlt0)) row2 hfz ((MapAt.made w.drew).of_heap (bl2.block _ (by simp))) (Nat.le_refl _) (by simp at hb; omega) (((row2.2.2.2 _ rfl).2.1 (by have := row2.1; omega)).1)⟩
    · go_simp
      refine (clone44 (some ⟨mb, 0, none⟩) S.nodes mcap (machV S S.nodes) _ (Hrow.out.kept (F := fun _ _ => False) ((Frm.refl _ w).drew) (fun _ _ _ _ _ _ h => h)) (machV_one _ _) (by omega)).mono ?_
      rintro e w2 ⟨ao', cap', rfl, row2, sp2, lo2, bl2, fz2⟩
      obtain ⟨b, rfl, hb, hfz⟩ := fz2 (by omega)
      have b1 := Below.at bl2 hp c1
      have b2 := Below.at bl2 hp c2
      go_simp
      refine hK.out _ _ (fun _ => ⟨b1, b2⟩) ?_
      clear hK K
      refine wpAnyL_one (i := 0) rfl (by kernel_rfl) (fun K hK => ?_)
      go_simp
      have k1 := ((Frm.alloc1 (F := fun _ _ => False) w2 (.map #[] 0)).cel p 1 (World.block_lt_of_cell? _ _ b1) (fun h => h)).trans b1
      have k2 := ((Frm.alloc1 (F := fun _ _ => False) w2 (.map #[] 0)).cel p 2 (World.block_lt_of_cell? _ _ b2) (fun h => h)).trans b2
      refine hK.out _ _ (fun _ => ⟨k1, k2⟩) ?_
      clear hK K
      refine wpAnyL_one (i := 10) rfl (by kernel_rfl) (fun K hK => ?_)
      go_simp
      refine hK.out _ _ (fun _ => ⟨k1, k2⟩) ?_
      clear hK K
      refine wpAnyL_one (i := 11) rfl (by kernel_rfl) (fun K hK => ?_)
      go_simp
      refine hK.out _ _ (fun _ => ⟨(((Frm.alloc1 (F := fun _ _ => False) _ _).cel p 1 (World.block_lt_of_cell? _ _ k1) (fun h => h)).trans k1), (((Frm.alloc1 (F := fun _ _ => False) _ _).cel p 2 (World.block_lt_of_cell? _ _ k2) (fun h => h)).trans k2)⟩) ?_
      clear hK K
      refine wpAnyL_one (i := 12) rfl (by kernel_rfl) (fun K hK => ?_)
      go_simp
      refine hK.out _ _ (fun h => absurd rfl h) ?_
      clear hK K
      refine wpAnyL_done (by kernel_rfl) ?_ _
      refine NoPanic.normal ?_
      go_wp2_with fail
      go_meet
      case rel => exact ⟨_, _, _, _, rfl, (by
        have hbl := ((row2.2.2.2 _ rfl).2.1 (by have := row2.1; omega)).1
        have bel : Below w.heap.size w w2 := (show Below w.heap.size w w.drew from ⟨rfl, rfl, rfl, Nat.le_refl _, fun _ _ => rfl⟩).trans bl2
        have h := CopyM.of (bel.alloc bel.size (.map #[] 0)) (row2.kept (F := fun _ _ => False) (Frm.alloc1 _ _) (fun _ _ _ _ _ _ h => h)) (fun j hj => by rw [World.frozen?_alloc_past _ _ _ hbl]; exact hfz j hj) (MapAt.made w2) bel.size hb (by simp at hbl ⊢; omega)
        rw [show (w2.alloc (.map #[] 0)).heap.size = w2.heap.size + 1 by simp] at h
        exact h)⟩

end Go.Proofs.Ytcjcccmlpilbbaa
