/- Hap6: lemmas on the way to the law (no condition of their own beyond what each states). -/
import Derived.Test.YtcjcccmlpilbbaaHapJ
import Derived.Deep.CutBlock
namespace Go.Proofs.Ytcjcccmlpilbbaa
open Go.RowKit Go.K55 Go.Maps
set_option linter.unusedVariables false
set_option linter.unusedSimpArgs false

set_option maxRecDepth 100000 in
set_option maxHeartbeats 2000000 in
theorem hap6_W {w : World} {p q : Nat} {S : NS} {G : Nat → Prop} {N : Nat} {ao : Option Addr} {cap : Nat} (hw : W55G w q S ao cap) (hn : NetG w p S G) (hS : Wf S N) (hN : N ≤ 800)
    (K fr tu ii nn num A B : Int) (i : Nat) (hK : K.tmod 9 = 6) (hm0 : 0 ≤ num) (hm1 : num ≤ 40) (hA : fr.tmod ((S.nodes : Int) + 2) = A) (hB : tu.tmod ((S.nodes : Int) + 2) = B) (hI : ii.tmod 4 = (i : Int)) (hf0 : 0 ≤ fr) (hf1 : fr ≤ 255) (ht0 : 0 ≤ tu) (ht1 : tu ≤ 255) (hi0 : 0 ≤ ii) (hi1 : ii ≤ 255) (hn0 : 0 ≤ nn) (hn1 : nn ≤ 255) (hA0 : 0 ≤ A) (hB0 : 0 ≤ B) (hI1 : (i : Int) ≤ 3) (hA1 : A ≤ 6) (hB1 : B ≤ 6)
    (hwr : bit nn S.nodes = true) :
    Calls Try.prog 7 #[.pointer (some ⟨q, 0, none⟩), .pointer (some ⟨p, 0, none⟩), .agg #[.int .u8 K, .int .u8 fr, .int .u8 tu, .int .u8 ii, .int .u8 nn], .int .i64 num] w (Hap w p q S S G ao cap) := by
  have hq := hw.st.lt
  have c0 := hw.st.c0
  have hS1 := hS.n1
  have hS2 := hS.n2
  have hlen := hS.len
  have hI0 : (0 : Int) ≤ (i : Int) := by omega
  have hpl : (places A B S.msgs 0).length ≤ N := by rw [places_length]; exact Nat.le_trans (List.length_filter_le _ _) hlen
  have hnz : ((S.nodes : Int) + 2 == 0) = false := by simp; omega
  have hlk := fun n => link_walk q S ao cap A B ((W1 w q K fr tu ii nn).drewN n) ((hw.st.below (W1_below w q K fr tu ii nn)).kept (F := fun _ _ => False) ((Frm.refl _ _).drewN n) (fun _ h => h) (fun _ _ _ _ _ _ h => h)) (by omega)
  have Hlk := Lib.hid hlk; clear hlk
  have Hw := Lib.hid hw; clear hw
  have Hn := Lib.hid hn; clear hn
  obtain ⟨i0, hi0, hz0, hz1, hz2⟩ := info_parts Try.info3
  have hw1 : IntKind.i64.wrap ((S.nodes : Int) + 2) = (S.nodes : Int) + 2 := IntWalk.i64_in _ (by omega)
  go_enter Try.func7, Try.ntmps7
  go_wp2_with fail
  go_quiet (fail)
  clear hA hB hI hw1
  go_upto_region 2 with fail
  go_cut [12] from 52 to 73 (fun kn wx => ∃ b n, kn = .bool b ∧ wx = (W1 w q K fr tu ii nn).drewN n)
  case first =>
    rcases (show A < 1 ∨ (1 ≤ A ∧ (S.nodes : Int) < A) ∨ ((1 ≤ A ∧ A ≤ (S.nodes : Int)) ∧ B < 1) ∨ ((1 ≤ A ∧ A ≤ (S.nodes : Int)) ∧ 1 ≤ B ∧ (S.nodes : Int) < B) ∨ ((1 ≤ A ∧ A ≤ (S.nodes : Int)) ∧ 1 ≤ B ∧ B ≤ (S.nodes : Int)) by omega) with hu | ⟨hu1, hu⟩ | ⟨⟨hu1, hu2⟩, hu⟩ | ⟨⟨hu1, hu2⟩, hu3, hu⟩ | ⟨⟨hu1, hu2⟩, hu3, hu4⟩
    · have hun : decide (1 ≤ A) = false := decide_eq_false (by omega)
      go_wp2_with fail
      go_meet
      case rel => exact ⟨_, _, rfl, rfl⟩
    · have hun : decide (A ≤ (S.nodes : Int)) = false := decide_eq_false (by omega)
      go_wp2_with fail
      go_meet
      case rel => exact ⟨_, _, rfl, rfl⟩
    · have hun : decide (1 ≤ B) = false := decide_eq_false (by omega)
      go_wp2_with fail
      go_meet
      case rel => exact ⟨_, _, rfl, rfl⟩
    · have hun : decide (B ≤ (S.nodes : Int)) = false := decide_eq_false (by omega)
      go_wp2_with fail
      go_meet
      case rel => exact ⟨_, _, rfl, rfl⟩
    · go_wp2_with fail
      go_meet
      case rel => exact ⟨_, _, rfl, rfl⟩
  case rest =>
    obtain ⟨kn, nq2, rfl, rfl⟩ := hcut
    have cbw : ((W1 w q K fr tu ii nn).drewN nq2).cell? ⟨w.heap.size, 0, none⟩ = some (.pointer (some ⟨q, 0, none⟩)) := by simp [W1, World.cell?_alloc_at, World.cell?_alloc_past]
    go_wp2_with fail
    refine (Hlk.out _).mono ?_
    rintro e w2 ⟨v, rfl, hv, hb⟩
    have hC : Ctx w w2 p q S G ao cap K fr tu ii nn := Ctx.of Hw.out Hn.out (by rw [World.heap_drewN, W1_size] at hb; exact hb)
    have hvB : w.heap.size ≤ (W1 w q K fr tu ii nn).heap.size := by rw [W1_size]; omega
    have cb := hC.cb
    have x4 := hC.x4
    have hw2 := hC.w55
    have d0 := hw2.st.c0
    obtain ⟨ai, ci, rfl, hri, hsi, hli⟩ := hv
    have HC := Lib.hid hC; clear hC hb
    clear hri hsi hli hw2
    go_upto_block 0 with fail
    go_cut [14] from 78 to 85 (fun du wx => wx = w2)
    case first =>
      cases kn
      · go_wp2_with fail
        go_meet
        case rel => rfl
      · by_cases hE : (places A B S.msgs 0).length ≤ i
        · go_wp2_with fail
          go_meet
          case rel => rfl
        · have hE' : decide ((places A B S.msgs 0).length ≤ i) = false := decide_eq_false hE
          have hE'' : decide (((places A B S.msgs 0).length : Int) ≤ (i : Int)) = false := decide_eq_false (by omega)
          go_wp2_with fail
          go_meet
          case rel => rfl
    case rest =>
      subst hcut
      have x04 := HC.out.x0
      go_wp2_with fail
      go_loopw [21, 22, 23] (fun v c i wr => ∃ k : Nat, k ≤ S.nodes + 1 ∧ i = .int .i64 (k : Int) ∧ IntsAt wc.heap.size wr v (sideOf nn k) ∧ ((k ≤ S.nodes ∧ c = .bool false) ∨ (k = S.nodes + 1 ∧ c = .bool (bit nn S.nodes))) ∧ Below wc.heap.size wc wr) (fun _ _ i _ => S.nodes + 1 - (intOf i).toNat)
      case atStart => exact ⟨0, Nat.zero_le _, rfl, IntsAt.nil _ _, Or.inl ⟨Nat.zero_le _, rfl⟩, Below.refl _ _⟩
      case round =>
        obtain ⟨k, hk, rfl, ⟨al, cl, rfl, hrl, hsl, hll⟩, hc, hbl⟩ := hrel
        have hsz := hbl.size
        have hBc : w.heap.size < wc.heap.size := World.block_lt_of_cell? _ _ cb
        have hqc : q < wc.heap.size := World.block_lt_of_cell? _ _ d0
        have cbr := Below.at hbl (World.block_lt_of_cell? _ _ cb) cb
        have x4r := Below.at hbl (World.block_lt_of_cell? _ _ x4) x4
        have d0r := Below.at hbl (World.block_lt_of_cell? _ _ d0) d0
        have hw2 : IntKind.i64.wrap ((S.nodes : Int) + 1) = (S.nodes : Int) + 1 := IntWalk.i64_in _ (by omega)
        have Hrl := Lib.hid hrl; clear hrl
        have Hsl := Lib.hid hsl; clear hsl
        have Hll := Lib.hid hll; clear hll
        by_cases hlt : k < S.nodes + 1
        · have hk1 : (k : Int) < (S.nodes : Int) + 1 := by omega
          have hk0 : (0 : Int) ≤ (k : Int) := by omega
          rcases hc with ⟨hkn, rfl⟩ | ⟨hkn, -⟩
          · by_cases hb : (bits BinOp.and IntKind.u8 (nn / 2 ^ k) 1 == 1) = true
            · have rowX : Row (wr.alloc (.cells #[.int .i64 ((k : Int) + 1)] 3)) 3 1 al (sideOf nn k).length cl (ints (natInts (sideOf nn k))) := Hrl.out.kept (F := fun _ _ => False) (Frm.alloc1 _ _) (fun _ _ _ _ _ _ h => h)
              have spX : Spare (fun b _ => wc.heap.size ≤ b) (wr.alloc (.cells #[.int .i64 ((k : Int) + 1)] 3)) 1 al (sideOf nn k).length cl := Hsl.out.kept (H := fun _ _ => False) (Frm.alloc1 _ _) (fun _ _ _ h => h)
              have fA : Frm (fun _ _ => False) wr (wr.alloc (.cells #[.int .i64 ((k : Int) + 1)] 3)) := Frm.alloc1 _ _
              have kp : ∀ w3, Frm (fun b _ => wc.heap.size ≤ b) (wr.alloc (.cells #[.int .i64 ((k : Int) + 1)] 3)) w3 → w3.cell? ⟨w.heap.size, 0, none⟩ = some (.pointer (some ⟨q, 0, none⟩)) ∧ w3.cell? ⟨q, 0, none⟩ = some (.int .i64 (S.nodes : Int)) := fun w3 f3 =>
                ⟨(f3.cel _ _ (by simp; omega) (by omega)).trans ((fA.cel _ _ (by omega) (fun h => h)).trans cbr), (f3.cel _ _ (by simp; omega) (by omega)).trans ((fA.cel _ _ (by omega) (fun h => h)).trans d0r)⟩
              have Kp := Lib.hid kp; clear kp
              have hone : ∀ u ∈ [Value.int .i64 ((k : Int) + 1)], u.oneCell' = true := by simp [Value.oneCell']
              have hsl := sideOf_length nn k
              have hmax : (sideOf nn k).length + 1 ≤ maxLen := by simp only [maxLen]; omega
              have hbyt : ((sideOf nn k).length + 1) * 8 ≤ 140737488355328 := by omega
              have hcn : (wr.alloc (.cells #[.int .i64 ((k : Int) + 1)] 3)).cell? ⟨wr.heap.size, 0, none⟩ = some (.int .i64 ((k : Int) + 1)) := by simp [World.cell?_alloc_at]
              have hso : sideOf nn (k + 1) = sideOf nn k ++ [k + 1] := by rw [sideOf_succ, show bit nn k = true from hb]; rfl
              have Hso := Lib.hid hso; clear hso
              have Hb := Lib.hid (show bit nn k = true from hb)
              generalize hL : sideOf nn k = L at *
              have HL := Lib.hid hL; clear hL
              by_cases hke : k < S.nodes
              · have hg : decide ((S.nodes : Int) < (k : Int) + 1) = false := decide_eq_false (by omega)
                go_wp2_with (at_builtin; refine wpList_app _ rfl _ _ 54 rfl (fun b _ => wc.heap.size ≤ b) 3 i0 _ 1 8 Try.underlying54 hi0 hz0 hz1 hz2 rfl (by decide) (bo := some ⟨wr.heap.size, 0, none⟩) (m := 1) (c := 1) (news := [.int .i64 ((k : Int) + 1)]) rfl rfl rowX spX rfl (fun h => by cases h) (news_one hcn) hone hmax hbyt ?_; intro ao' cap' w2 row2 frm2 loc2; have Row2 := Lib.hid row2; clear row2; have Loc2 := Lib.hid loc2; clear loc2; obtain ⟨cb3, d03⟩ := Kp.out _ frm2)
                go_roundw
                case rel =>
                  refine ⟨k + 1, by omega, by go_num, ?_, Or.inl ⟨by omega, rfl⟩, ?_⟩
                  · rw [Hso.out]
                    exact IntsAt.more (k := k + 1) Hll.out (by simp; omega) Row2.out Loc2.out
                  · have g := (Frm.of_below (F := fun b _ => wc.heap.size ≤ b) hbl).alloc (.cells #[.int .i64 ((k : Int) + 1)] 3)
                    exact (g.trans frm2 (fun _ _ _ h => h)).below (Nat.le_refl _) (fun b _ hb h => by omega)
                case measure => simp [intOf]; omega
              · have hg : decide ((S.nodes : Int) < (k : Int) + 1) = true := decide_eq_true (by omega)
                go_wp2_with (at_builtin; refine wpList_app _ rfl _ _ 54 rfl (fun b _ => wc.heap.size ≤ b) 3 i0 _ 1 8 Try.underlying54 hi0 hz0 hz1 hz2 rfl (by decide) (bo := some ⟨wr.heap.size, 0, none⟩) (m := 1) (c := 1) (news := [.int .i64 ((k : Int) + 1)]) rfl rfl rowX spX rfl (fun h => by cases h) (news_one hcn) hone hmax hbyt ?_; intro ao' cap' w2 row2 frm2 loc2; have Row2 := Lib.hid row2; clear row2; have Loc2 := Lib.hid loc2; clear loc2; obtain ⟨cb3, d03⟩ := Kp.out _ frm2)
                go_roundw
                case rel =>
                  refine ⟨k + 1, by omega, by go_num, ?_, Or.inr ⟨by omega, ?_⟩, ?_⟩
                  · rw [Hso.out]
                    exact IntsAt.more (k := k + 1) Hll.out (by simp; omega) Row2.out Loc2.out
                  · rw [show S.nodes = k by omega, Hb.out]
                  · have g := (Frm.of_below (F := fun b _ => wc.heap.size ≤ b) hbl).alloc (.cells #[.int .i64 ((k : Int) + 1)] 3)
                    exact (g.trans frm2 (fun _ _ _ h => h)).below (Nat.le_refl _) (fun b _ hb h => by omega)
                case measure => simp [intOf]; omega
            · have hso : sideOf nn (k + 1) = sideOf nn k := by rw [sideOf_succ, show bit nn k = false from by simpa [bit] using hb]; simp
              have Hso := Lib.hid hso; clear hso
              have hb0 : (bits BinOp.and IntKind.u8 (nn / 2 ^ k) 1 == 1) = false := by simpa using hb
              have Hb := Lib.hid (show bit nn k = false from hb0)
              go_wp2_with fail
              go_roundw
              case rel =>
                refine ⟨k + 1, by omega, by go_num, ?_, ?_, hbl⟩
                · rw [Hso.out]; exact ⟨al, cl, rfl, Hrl.out, Hsl.out, Hll.out⟩
                · by_cases hke : k < S.nodes
                  · exact Or.inl ⟨by omega, rfl⟩
                  · refine Or.inr ⟨by omega, ?_⟩
                    rw [show S.nodes = k by omega, Hb.out]
              case measure => simp [intOf]; omega
          · omega
        · obtain rfl : k = S.nodes + 1 := by omega
          rcases hc with ⟨hx, -⟩ | ⟨-, hcc⟩
          · omega
          · rw [hwr] at hcc
            subst hcc
            have hbel := HC.out.below.trans (hbl.mono HC.out.below.size)
            go_wp2_with fail
            refine (part_bad_spec (HC.out.net.below hbl) hS al _ cl _ Hrl.out (by have := sideOf_length nn (S.nodes + 1); omega) (side_bad hwr)).mono ?_
            rintro e w6 ⟨rfl, hb6⟩
            have Hb6 := Lib.hid hb6; clear hb6
            go_wp2_with fail
            go_ret
            exact Hap.same Hw.out Hn.out (hbel.trans (Hb6.out.mono hbel.size))

set_option maxRecDepth 100000 in
set_option maxHeartbeats 2000000 in
theorem hap6_K {w : World} {p q : Nat} {S : NS} {G : Nat → Prop} {N : Nat} {ao : Option Addr} {cap : Nat} (hw : W55G w q S ao cap) (hn : NetG w p S G) (hS : Wf S N) (hN : N ≤ 800)
    (K fr tu ii nn num A B : Int) (i : Nat) (hK : K.tmod 9 = 6) (hm0 : 0 ≤ num) (hm1 : num ≤ 40) (hA : fr.tmod ((S.nodes : Int) + 2) = A) (hB : tu.tmod ((S.nodes : Int) + 2) = B) (hI : ii.tmod 4 = (i : Int)) (hf0 : 0 ≤ fr) (hf1 : fr ≤ 255) (ht0 : 0 ≤ tu) (ht1 : tu ≤ 255) (hi0 : 0 ≤ ii) (hi1 : ii ≤ 255) (hn0 : 0 ≤ nn) (hn1 : nn ≤ 255) (hA0 : 0 ≤ A) (hB0 : 0 ≤ B) (hI1 : (i : Int) ≤ 3) (hA1 : A ≤ 6) (hB1 : B ≤ 6)
    (hwr : bit nn S.nodes = false) :
    Calls Try.prog 7 #[.pointer (some ⟨q, 0, none⟩), .pointer (some ⟨p, 0, none⟩), .agg #[.int .u8 K, .int .u8 fr, .int .u8 tu, .int .u8 ii, .int .u8 nn], .int .i64 num] w (Hap w p q S (S.sided nn 7) G ao cap) := by
  have hq := hw.st.lt
  have c0 := hw.st.c0
  have hS1 := hS.n1
  have hS2 := hS.n2
  have hlen := hS.len
  have hI0 : (0 : Int) ≤ (i : Int) := by omega
  have hpl : (places A B S.msgs 0).length ≤ N := by rw [places_length]; exact Nat.le_trans (List.length_filter_le _ _) hlen
  have hnz : ((S.nodes : Int) + 2 == 0) = false := by simp; omega
  have hlk := fun n => link_walk q S ao cap A B ((W1 w q K fr tu ii nn).drewN n) ((hw.st.below (W1_below w q K fr tu ii nn)).kept (F := fun _ _ => False) ((Frm.refl _ _).drewN n) (fun _ h => h) (fun _ _ _ _ _ _ h => h)) (by omega)
  have Hlk := Lib.hid hlk; clear hlk
  have Hw := Lib.hid hw; clear hw
  have Hn := Lib.hid hn; clear hn
  obtain ⟨i0, hi0, hz0, hz1, hz2⟩ := info_parts Try.info3
  have hw1 : IntKind.i64.wrap ((S.nodes : Int) + 2) = (S.nodes : Int) + 2 := IntWalk.i64_in _ (by omega)
  go_enter Try.func7, Try.ntmps7
  go_wp2_with fail
  go_quiet (fail)
  clear hA hB hI hw1
  go_upto_region 2 with fail
  go_cut [12] from 52 to 73 (fun kn wx => ∃ b n, kn = .bool b ∧ wx = (W1 w q K fr tu ii nn).drewN n)
  case first =>
    rcases (show A < 1 ∨ (1 ≤ A ∧ (S.nodes : Int) < A) ∨ ((1 ≤ A ∧ A ≤ (S.nodes : Int)) ∧ B < 1) ∨ ((1 ≤ A ∧ A ≤ (S.nodes : Int)) ∧ 1 ≤ B ∧ (S.nodes : Int) < B) ∨ ((1 ≤ A ∧ A ≤ (S.nodes : Int)) ∧ 1 ≤ B ∧ B ≤ (S.nodes : Int)) by omega) with hu | ⟨hu1, hu⟩ | ⟨⟨hu1, hu2⟩, hu⟩ | ⟨⟨hu1, hu2⟩, hu3, hu⟩ | ⟨⟨hu1, hu2⟩, hu3, hu4⟩
    · have hun : decide (1 ≤ A) = false := decide_eq_false (by omega)
      go_wp2_with fail
      go_meet
      case rel => exact ⟨_, _, rfl, rfl⟩
    · have hun : decide (A ≤ (S.nodes : Int)) = false := decide_eq_false (by omega)
      go_wp2_with fail
      go_meet
      case rel => exact ⟨_, _, rfl, rfl⟩
    · have hun : decide (1 ≤ B) = false := decide_eq_false (by omega)
      go_wp2_with fail
      go_meet
      case rel => exact ⟨_, _, rfl, rfl⟩
    · have hun : decide (B ≤ (S.nodes : Int)) = false := decide_eq_false (by omega)
      go_wp2_with fail
      go_meet
      case rel => exact ⟨_, _, rfl, rfl⟩
    · go_wp2_with fail
      go_meet
      case rel => exact ⟨_, _, rfl, rfl⟩
  case rest =>
    obtain ⟨kn, nq2, rfl, rfl⟩ := hcut
    have cbw : ((W1 w q K fr tu ii nn).drewN nq2).cell? ⟨w.heap.size, 0, none⟩ = some (.pointer (some ⟨q, 0, none⟩)) := by simp [W1, World.cell?_alloc_at, World.cell?_alloc_past]
    go_wp2_with fail
    refine (Hlk.out _).mono ?_
    rintro e w2 ⟨v, rfl, hv, hb⟩
    have hC : Ctx w w2 p q S G ao cap K fr tu ii nn := Ctx.of Hw.out Hn.out (by rw [World.heap_drewN, W1_size] at hb; exact hb)
    have hvB : w.heap.size ≤ (W1 w q K fr tu ii nn).heap.size := by rw [W1_size]; omega
    have cb := hC.cb
    have x4 := hC.x4
    have hw2 := hC.w55
    have d0 := hw2.st.c0
    obtain ⟨ai, ci, rfl, hri, hsi, hli⟩ := hv
    have HC := Lib.hid hC; clear hC hb
    clear hri hsi hli hw2
    go_upto_block 0 with fail
    go_cut [14] from 78 to 85 (fun du wx => wx = w2)
    case first =>
      cases kn
      · go_wp2_with fail
        go_meet
        case rel => rfl
      · by_cases hE : (places A B S.msgs 0).length ≤ i
        · go_wp2_with fail
          go_meet
          case rel => rfl
        · have hE' : decide ((places A B S.msgs 0).length ≤ i) = false := decide_eq_false hE
          have hE'' : decide (((places A B S.msgs 0).length : Int) ≤ (i : Int)) = false := decide_eq_false (by omega)
          go_wp2_with fail
          go_meet
          case rel => rfl
    case rest =>
      subst hcut
      have x04 := HC.out.x0
      go_wp2_with fail
      go_loopw [21, 22, 23] (fun v c i wr => ∃ k : Nat, k ≤ S.nodes + 1 ∧ i = .int .i64 (k : Int) ∧ IntsAt wc.heap.size wr v (sideOf nn k) ∧ ((k ≤ S.nodes ∧ c = .bool false) ∨ (k = S.nodes + 1 ∧ c = .bool (bit nn S.nodes))) ∧ Below wc.heap.size wc wr) (fun _ _ i _ => S.nodes + 1 - (intOf i).toNat)
      case atStart => exact ⟨0, Nat.zero_le _, rfl, IntsAt.nil _ _, Or.inl ⟨Nat.zero_le _, rfl⟩, Below.refl _ _⟩
      case round =>
        obtain ⟨k, hk, rfl, ⟨al, cl, rfl, hrl, hsl, hll⟩, hc, hbl⟩ := hrel
        have hsz := hbl.size
        have hBc : w.heap.size < wc.heap.size := World.block_lt_of_cell? _ _ cb
        have hqc : q < wc.heap.size := World.block_lt_of_cell? _ _ d0
        have cbr := Below.at hbl (World.block_lt_of_cell? _ _ cb) cb
        have x4r := Below.at hbl (World.block_lt_of_cell? _ _ x4) x4
        have d0r := Below.at hbl (World.block_lt_of_cell? _ _ d0) d0
        have hw2 : IntKind.i64.wrap ((S.nodes : Int) + 1) = (S.nodes : Int) + 1 := IntWalk.i64_in _ (by omega)
        have Hrl := Lib.hid hrl; clear hrl
        have Hsl := Lib.hid hsl; clear hsl
        have Hll := Lib.hid hll; clear hll
        by_cases hlt : k < S.nodes + 1
        · have hk1 : (k : Int) < (S.nodes : Int) + 1 := by omega
          have hk0 : (0 : Int) ≤ (k : Int) := by omega
          rcases hc with ⟨hkn, rfl⟩ | ⟨hkn, -⟩
          · by_cases hb : (bits BinOp.and IntKind.u8 (nn / 2 ^ k) 1 == 1) = true
            · have rowX : Row (wr.alloc (.cells #[.int .i64 ((k : Int) + 1)] 3)) 3 1 al (sideOf nn k).length cl (ints (natInts (sideOf nn k))) := Hrl.out.kept (F := fun _ _ => False) (Frm.alloc1 _ _) (fun _ _ _ _ _ _ h => h)
              have spX : Spare (fun b _ => wc.heap.size ≤ b) (wr.alloc (.cells #[.int .i64 ((k : Int) + 1)] 3)) 1 al (sideOf nn k).length cl := Hsl.out.kept (H := fun _ _ => False) (Frm.alloc1 _ _) (fun _ _ _ h => h)
              have fA : Frm (fun _ _ => False) wr (wr.alloc (.cells #[.int .i64 ((k : Int) + 1)] 3)) := Frm.alloc1 _ _
              have kp : ∀ w3, Frm (fun b _ => wc.heap.size ≤ b) (wr.alloc (.cells #[.int .i64 ((k : Int) + 1)] 3)) w3 → w3.cell? ⟨w.heap.size, 0, none⟩ = some (.pointer (some ⟨q, 0, none⟩)) ∧ w3.cell? ⟨q, 0, none⟩ = some (.int .i64 (S.nodes : Int)) := fun w3 f3 =>
                ⟨(f3.cel _ _ (by simp; omega) (by omega)).trans ((fA.cel _ _ (by omega) (fun h => h)).trans cbr), (f3.cel _ _ (by simp; omega) (by omega)).trans ((fA.cel _ _ (by omega) (fun h => h)).trans d0r)⟩
              have Kp := Lib.hid kp; clear kp
              have hone : ∀ u ∈ [Value.int .i64 ((k : Int) + 1)], u.oneCell' = true := by simp [Value.oneCell']
              have hsl := sideOf_length nn k
              have hmax : (sideOf nn k).length + 1 ≤ maxLen := by simp only [maxLen]; omega
              have hbyt : ((sideOf nn k).length + 1) * 8 ≤ 140737488355328 := by omega
              have hcn : (wr.alloc (.cells #[.int .i64 ((k : Int) + 1)] 3)).cell? ⟨wr.heap.size, 0, none⟩ = some (.int .i64 ((k : Int) + 1)) := by simp [World.cell?_alloc_at]
              have hso : sideOf nn (k + 1) = sideOf nn k ++ [k + 1] := by rw [sideOf_succ, show bit nn k = true from hb]; rfl
              have Hso := Lib.hid hso; clear hso
              have Hb := Lib.hid (show bit nn k = true from hb)
              generalize hL : sideOf nn k = L at *
              have HL := Lib.hid hL; clear hL
              by_cases hke : k < S.nodes
              · have hg : decide ((S.nodes : Int) < (k : Int) + 1) = false := decide_eq_false (by omega)
                go_wp2_with (at_builtin; refine wpList_app _ rfl _ _ 54 rfl (fun b _ => wc.heap.size ≤ b) 3 i0 _ 1 8 Try.underlying54 hi0 hz0 hz1 hz2 rfl (by decide) (bo := some ⟨wr.heap.size, 0, none⟩) (m := 1) (c := 1) (news := [.int .i64 ((k : Int) + 1)]) rfl rfl rowX spX rfl (fun h => by cases h) (news_one hcn) hone hmax hbyt ?_; intro ao' cap' w2 row2 frm2 loc2; have Row2 := Lib.hid row2; clear row2; have Loc2 := Lib.hid loc2; clear loc2; obtain ⟨cb3, d03⟩ := Kp.out _ frm2)
                go_roundw
                case rel =>
                  refine ⟨k + 1, by omega, by go_num, ?_, Or.inl ⟨by omega, rfl⟩, ?_⟩
                  · rw [Hso.out]
                    exact IntsAt.more (k := k + 1) Hll.out (by simp; omega) Row2.out Loc2.out
                  · have g := (Frm.of_below (F := fun b _ => wc.heap.size ≤ b) hbl).alloc (.cells #[.int .i64 ((k : Int) + 1)] 3)
                    exact (g.trans frm2 (fun _ _ _ h => h)).below (Nat.le_refl _) (fun b _ hb h => by omega)
                case measure => simp [intOf]; omega
              · have hg : decide ((S.nodes : Int) < (k : Int) + 1) = true := decide_eq_true (by omega)
                go_wp2_with (at_builtin; refine wpList_app _ rfl _ _ 54 rfl (fun b _ => wc.heap.size ≤ b) 3 i0 _ 1 8 Try.underlying54 hi0 hz0 hz1 hz2 rfl (by decide) (bo := some ⟨wr.heap.size, 0, none⟩) (m := 1) (c := 1) (news := [.int .i64 ((k : Int) + 1)]) rfl rfl rowX spX rfl (fun h => by cases h) (news_one hcn) hone hmax hbyt ?_; intro ao' cap' w2 row2 frm2 loc2; have Row2 := Lib.hid row2; clear row2; have Loc2 := Lib.hid loc2; clear loc2; obtain ⟨cb3, d03⟩ := Kp.out _ frm2)
                go_roundw
                case rel =>
                  refine ⟨k + 1, by omega, by go_num, ?_, Or.inr ⟨by omega, ?_⟩, ?_⟩
                  · rw [Hso.out]
                    exact IntsAt.more (k := k + 1) Hll.out (by simp; omega) Row2.out Loc2.out
                  · rw [show S.nodes = k by omega, Hb.out]
                  · have g := (Frm.of_below (F := fun b _ => wc.heap.size ≤ b) hbl).alloc (.cells #[.int .i64 ((k : Int) + 1)] 3)
                    exact (g.trans frm2 (fun _ _ _ h => h)).below (Nat.le_refl _) (fun b _ hb h => by omega)
                case measure => simp [intOf]; omega
            · have hso : sideOf nn (k + 1) = sideOf nn k := by rw [sideOf_succ, show bit nn k = false from by simpa [bit] using hb]; simp
              have Hso := Lib.hid hso; clear hso
              have hb0 : (bits BinOp.and IntKind.u8 (nn / 2 ^ k) 1 == 1) = false := by simpa using hb
              have Hb := Lib.hid (show bit nn k = false from hb0)
              go_wp2_with fail
              go_roundw
              case rel =>
                refine ⟨k + 1, by omega, by go_num, ?_, ?_, hbl⟩
                · rw [Hso.out]; exact ⟨al, cl, rfl, Hrl.out, Hsl.out, Hll.out⟩
                · by_cases hke : k < S.nodes
                  · exact Or.inl ⟨by omega, rfl⟩
                  · refine Or.inr ⟨by omega, ?_⟩
                    rw [show S.nodes = k by omega, Hb.out]
              case measure => simp [intOf]; omega
          · omega
        · obtain rfl : k = S.nodes + 1 := by omega
          rcases hc with ⟨hx, -⟩ | ⟨-, hcc⟩
          · omega
          · rw [hwr] at hcc
            subst hcc
            have hbel := HC.out.below.trans (hbl.mono HC.out.below.size)
            obtain ⟨w5, hw5⟩ : ∃ x, x = wr := ⟨_, rfl⟩
            subst hw5
            have hn5 := HC.out.net.below hbl
            have h55 := HC.out.w55.below hbl
            have Hn5 := Lib.hid hn5; clear hn5
            have H55 := Lib.hid h55; clear h55
            have HBL := Lib.hid hbl; clear hbl
            have HBE := Lib.hid hbel; clear hbel
            go_wp2_with fail
            go_loopw [24] (fun i ws => ∃ j : Nat, j ≤ 7 ∧ i = .int .i64 ((j : Int) + 1) ∧ W55G ws q (S.sided nn j) ao cap ∧ Frm (fun b _ => b = q) w5 ws) (fun i _ => 9 - (intOf i).toNat)
            case atStart => exact ⟨0, by omega, rfl, by rw [sided_zero]; exact H55.out, Frm.refl _ _⟩
            case round =>
              obtain ⟨j, hj, rfl, h55s, hfs⟩ := hrel
              have cbs := (hfs.cel _ _ (World.block_lt_of_cell? _ _ cbr) (by show w.heap.size ≠ q; omega)).trans cbr
              have x4s := (hfs.cel _ _ (World.block_lt_of_cell? _ _ x4r) (by show w.heap.size + 1 ≠ q; omega)).trans x4r
              have hfz := h55s.st.fz (2 + (j + 1))
              have hbq : w.heap.size ≠ q := by omega
              have H55s := Lib.hid h55s; clear h55s
              have Hfs := Lib.hid hfs; clear hfs
              by_cases hlt : j < 7
              · have hj1 : (j : Int) + 1 < 8 := by omega
                have hsd := H55s.out.st.sd (j + 1) (by omega)
                go_wp2_with fail
                go_region
                go_wp2_with fail
                go_roundw
                case rel =>
                  refine ⟨j + 1, by omega, by go_num, ?_, ?_⟩
                  · exact (H55s.out.sidedS (by omega)).drewN 1
                  · exact Hfs.out.trans ((Frm.setCell1 (F := fun b _ => b = q) _ _ (Or.inl rfl)).drew) (fun _ _ _ h => h)
                case measure => simp [intOf]; omega
              · obtain rfl : j = 7 := by omega
                have hns : NetG wr p S G := Hn5.out.kept Hfs.out (fun b o hb e => by
                  subst e
                  rcases Hn5.out.gty _ hb with e | e | e | e <;> (rw [H55.out.st.eq] at e; cases e))
                have hrs := Hrl.out.kept Hfs.out (fun b o hb hc _ _ e => by
                  have := Hll.out _ hb hc
                  have e' : _ = q := e
                  dsimp only at this
                  omega)
                have Hns := Lib.hid hns; clear hns
                have Hrs := Lib.hid hrs; clear hrs
                go_wp2_with fail
                refine (part_spec Hns.out hS al _ cl _ Hrs.out (by have := sideOf_length nn (S.nodes + 1); omega) (side_ok hwr)).mono ?_
                rintro e w6 ⟨rfl, G', g1, g2, g3⟩
                have Ht := Lib.hid (show Turned wr p (S.sided nn 7) G (.int .i64 0) (.returned (.int .i64 0)) w6 from ⟨rfl, G', g1.congr rfl rfl (fun _ _ _ => rfl) (fun _ _ _ => rfl) (fun i h1 h2 => part_sided S nn i h1 h2 hS2), g2, g3⟩)
                clear g1 g2 g3
                go_wp2_with fail
                go_ret
                exact Hap.of Hw.out Hn.out HBE.out ⟨ao, cap, H55s.out, Hfs.out.mono (fun _ _ _ h => Or.inl h), fun b o h => Or.inl h⟩ Ht.out

end Go.Proofs.Ytcjcccmlpilbbaa
