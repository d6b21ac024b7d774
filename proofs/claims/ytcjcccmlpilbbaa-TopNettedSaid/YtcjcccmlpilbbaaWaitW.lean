/- WaitW: lemmas on the way to the law (no condition of their own beyond what each states). -/
import Derived.Test.YtcjcccmlpilbbaaWait
import Derived.Test.YtcjcccmlpilbbaaHapG
namespace Go.Proofs.Ytcjcccmlpilbbaa
open Go.RowKit Go.K55 Go.Maps
set_option linter.unusedVariables false
set_option linter.unusedSimpArgs false

theorem news_msg (w3 : World) (A C : Int) (t : ByteArray) : ∀ y, some (⟨w3.heap.size, 0, none⟩ : Addr) = some y → ∀ j u, [Value.int .i64 A, .int .i64 C, .string t][j]? = some u → (w3.alloc (msgX A C t)).cell? (y.add j) = some u := by
  intro y hy j u hj
  obtain rfl := Option.some.inj hy
  obtain ⟨hj', e⟩ := List.getElem?_eq_some_iff.1 hj
  rw [Addr.add_lit]
  match j, hj' with
  | 0, _ => simp at e; subst e; simp [msgX, World.cell?_alloc_at]
  | 1, _ => simp at e; subst e; simp [msgX, World.cell?_alloc_at]
  | 2, _ => simp at e; subst e; simp [msgX, World.cell?_alloc_at]

theorem clip_walk (ar : Option Addr) (n cr : Nat) (w : World) (h : n ≤ cr) : Calls Try.prog 33 #[.slice ar n cr] w fun e w' => e = .returned (.slice ar n n) ∧ w = w' := by
  have h1 : (n : Int) ≤ (cr : Int) := by omega
  have h0 : (0 : Int) ≤ (n : Int) := by omega
  cases ar with
  | none =>
    go_enter Try.func33, Try.ntmps33
    go_wp2_with fail
    go_ret
    exact ⟨rfl, rfl⟩
  | some y =>
    go_enter Try.func33, Try.ntmps33
    go_wp2_with fail
    go_ret
    exact ⟨by simp, rfl⟩

def WaitPost (w : World) (l : List Msg) (e : Ending) (w' : World) : Prop := ∃ v, e = .returned v ∧ PktsAt w.heap.size w' v l ∧ Below w.heap.size w w'

set_option maxRecDepth 100000 in
set_option maxHeartbeats 2000000 in
theorem waiting_walk {w : World} {p : Nat} {S : NS} {G : Nat → Prop} {N : Nat} (h : NetG w p S G) (hS : Wf S N) (hN : N ≤ 900) :
    Calls Try.prog 22 #[.pointer (some ⟨p, 0, none⟩)] w (fun e w' => ∃ v, e = .returned v ∧ PktsAt w.heap.size w' v (S.allW S.nodes) ∧ Below w.heap.size w w') := by
  obtain ⟨i0, hi0, hz0, hz1, hz2⟩ := info_parts Try.info60
  have n1 := hS.n1
  have n2 := hS.n2
  have hlen := hS.len
  have H := Lib.hid h; clear h
  go_enter Try.func22, Try.ntmps22
  go_wp2_with fail
  refine (nodes_spec H.out).mono ?_; rintro e w' ⟨rfl, rfl⟩
  go_wp2_with fail
  go_loopw [3, 10] (fun v i wr => ∃ f : Nat, f ≤ S.nodes ∧ i = .int .i64 (f : Int) ∧ PktsAt w.heap.size wr v (S.allW f) ∧ Below w.heap.size w wr) (fun _ i _ => S.nodes - (intOf i).toNat)
  case atStart => exact ⟨0, Nat.zero_le _, rfl, PktsAt.nil _ _, Below.refl _ _⟩
  case round =>
    obtain ⟨f, hf, rfl, hp1, hb1⟩ := hrel
    by_cases hlt : f < S.nodes
    · have hlt' : (f : Int) < (S.nodes : Int) := by omega
      have Hp1 := Lib.hid hp1; clear hp1
      obtain ⟨w1, hw1⟩ : ∃ x, x = wr := ⟨_, rfl⟩
      subst hw1
      go_wp2_with fail
      refine (nodes_spec (H.out.below hb1)).mono ?_; rintro e w' ⟨rfl, rfl⟩
      go_wp2_with fail
      go_loopw [3, 15] (fun v i wr => ∃ t : Nat, t ≤ S.nodes ∧ i = .int .i64 (t : Int) ∧ PktsAt w.heap.size wr v (S.allW f ++ S.rowW ((f : Int) + 1) t) ∧ Below w.heap.size w wr) (fun _ i _ => S.nodes - (intOf i).toNat)
      case atStart => exact ⟨0, Nat.zero_le _, rfl, by simpa [NS.rowW] using Hp1.out, hb1⟩
      case round =>
        obtain ⟨t, ht, rfl, hp2, hb2⟩ := hrel
        by_cases hlt2 : t < S.nodes
        · have hlt2' : (t : Int) < (S.nodes : Int) := by omega
          have Hp2 := Lib.hid hp2; clear hp2
          obtain ⟨w2, hw2⟩ : ∃ x, x = wr := ⟨_, rfl⟩
          subst hw2
          obtain ⟨lb, mb, mcap, M, hW0, hmc⟩ := H.out
          have hW := hW0.kept (F := fun _ _ => False) (Frm.of_below hb2) (fun _ _ _ h => h)
          obtain ⟨ao, cap, g1, g2, g3, g4⟩ := hW0.row ((f : Int) + 1) ((t : Int) + 1)
          have hl := hW.lookup (a := (f : Int) + 1) (b := (t : Int) + 1) (wf_small (by omega) (by omega)) (wf_small (by omega) (by omega))
          rw [g1] at hl
          have c0 := hW.c0
          have G2 := Lib.hid g2; clear g1 g2 g3 g4 hW hW0
          have hll : (S.link ((f : Int) + 1) ((t : Int) + 1)).length ≤ N := link_len hS _ _
          go_wp2_with fail
          go_loopw [3, 29] (fun v i wr => ∃ j : Nat, j ≤ (S.link ((f : Int) + 1) ((t : Int) + 1)).length ∧ i = .int .i64 (j : Int) ∧ PktsAt w.heap.size wr v ((S.allW f ++ S.rowW ((f : Int) + 1) t) ++ (S.cell ((f : Int) + 1) ((t : Int) + 1)).take j) ∧ Below w.heap.size w wr) (fun _ i _ => (S.link ((f : Int) + 1) ((t : Int) + 1)).length - (intOf i).toNat)
          case atStart => exact ⟨0, Nat.zero_le _, rfl, by simpa using Hp2.out, hb2⟩
          case round =>
            obtain ⟨j, hj, rfl, hp3, hb3⟩ := hrel
            by_cases hlt3 : j < (S.link ((f : Int) + 1) ((t : Int) + 1)).length
            · obtain ⟨m, hm⟩ : ∃ m, (S.cell ((f : Int) + 1) ((t : Int) + 1))[j]? = some m := ⟨_, List.getElem?_eq_getElem (by rw [link_cell_eq, List.length_map] at hlt3; exact hlt3)⟩
              obtain ⟨e1, e2⟩ := cell_msg hm
              obtain ⟨xb, off, rfl⟩ := G2.out.some (by have := G2.out.1; omega)
              have hc2 := G2.out.cell (j := j) (u := .string m.s) (by simp [strs, link_cell_eq, hm])
              have hcell := Below.at hb3 (World.block_lt_of_cell? _ _ hc2) hc2
              have hsn := take_snoc _ _ _ hm
              have hj0 : (0 : Int) ≤ (j : Int) := by omega
              have hj1 : (j : Int) < ((S.link ((f : Int) + 1) ((t : Int) + 1)).length : Int) := by omega
              have hX1 := allW_length S f
              have hX2 := rowW_length S ((f : Int) + 1) t
              have hX3 : f * (S.nodes * S.msgs.length) ≤ 5 * (5 * 900) := Nat.mul_le_mul (by omega) (Nat.mul_le_mul (by omega) (by omega))
              have hX4 : t * S.msgs.length ≤ 5 * 900 := Nat.mul_le_mul (by omega) (by omega)
              have hXl : ((S.allW f ++ S.rowW ((f : Int) + 1) t) ++ (S.cell ((f : Int) + 1) ((t : Int) + 1)).take j).length ≤ 30000 := by
                rw [List.length_append, List.length_append]
                have := List.length_take_le j (S.cell ((f : Int) + 1) ((t : Int) + 1))
                omega
              have hXs : (S.allW f ++ S.rowW ((f : Int) + 1) t) ++ (S.cell ((f : Int) + 1) ((t : Int) + 1)).take (j + 1) = ((S.allW f ++ S.rowW ((f : Int) + 1) t) ++ (S.cell ((f : Int) + 1) ((t : Int) + 1)).take j) ++ [⟨(f : Int) + 1, (t : Int) + 1, m.s⟩] := by
                rw [hsn, ← List.append_assoc]
                congr 2
                cases m; simp at e1 e2; simp [e1, e2]
              have HXs := Lib.hid hXs; clear hXs hsn hX1 hX2 hX3 hX4 hm e1 e2 hc2
              generalize (S.allW f ++ S.rowW ((f : Int) + 1) t) ++ (S.cell ((f : Int) + 1) ((t : Int) + 1)).take j = X at *
              obtain ⟨al, cl, rfl, hrl, hsl, hll2⟩ := hp3
              have rowX : Row (wr.alloc (.cells #[.int .i64 ((f : Int) + 1), .int .i64 ((t : Int) + 1), .string m.s] 60)) 60 3 al X.length cl (pkts X) := hrl.kept (F := fun _ _ => False) (Frm.alloc1 _ _) (fun _ _ _ _ _ _ h => h)
              have spX : Spare (fun b _ => w.heap.size ≤ b) (wr.alloc (.cells #[.int .i64 ((f : Int) + 1), .int .i64 ((t : Int) + 1), .string m.s] 60)) 3 al X.length cl := hsl.kept (H := fun _ _ => False) (Frm.alloc1 _ _) (fun _ _ _ h => h)
              have hone : ∀ u ∈ [Value.int .i64 ((f : Int) + 1), .int .i64 ((t : Int) + 1), .string m.s], u.oneCell' = true := by simp [Value.oneCell']
              have hmax : X.length + 1 ≤ maxLen := by simp only [maxLen]; omega
              have hbyt : (X.length + 1) * 32 ≤ 140737488355328 := by omega
              have hnw := news_msg wr ((f : Int) + 1) ((t : Int) + 1) m.s
              have Hnw := Lib.hid hnw; clear hnw
              have Hll2 := Lib.hid hll2; clear hll2
              clear hrl hsl
              go_wp2_with (at_builtin; refine wpList_app _ rfl _ _ 34 rfl (fun b _ => w.heap.size ≤ b) 60 i0 _ 3 32 Try.underlying34 hi0 hz0 hz1 hz2 rfl (by decide) (bo := some ⟨wr.heap.size, 0, none⟩) (m := 1) (c := 1) (news := [.int .i64 ((f : Int) + 1), .int .i64 ((t : Int) + 1), .string m.s]) rfl rfl rowX spX rfl (fun h => by cases h) Hnw.out hone hmax hbyt ?_; intro ao' cap' w4 row4 frm4 loc4)
              go_roundw
              case rel =>
                have g := (Frm.of_below (F := fun b _ => w.heap.size ≤ b) hb3).alloc (.cells #[.int .i64 ((f : Int) + 1), .int .i64 ((t : Int) + 1), .string m.s] 60)
                refine ⟨j + 1, by omega, by go_num, ?_, (g.trans frm4 (fun _ _ _ h => h)).below (Nat.le_refl _) (fun b _ hb h => by omega)⟩
                rw [HXs.out]
                exact PktsAt.more (m := ⟨(f : Int) + 1, (t : Int) + 1, m.s⟩) Hll2.out (by simp; have := hb3.size; omega) row4 loc4
              case measure => simp [intOf]; omega
            · obtain rfl : j = (S.link ((f : Int) + 1) ((t : Int) + 1)).length := by omega
              have e : (S.cell ((f : Int) + 1) ((t : Int) + 1)).take (S.link ((f : Int) + 1) ((t : Int) + 1)).length = S.cell ((f : Int) + 1) ((t : Int) + 1) := List.take_of_length_le (by rw [link_cell_eq, List.length_map]; exact Nat.le_refl _)
              rw [e, List.append_assoc, ← rowW_succ] at hp3
              have Hp3 := Lib.hid hp3; clear hp3 e
              go_wp2_with fail
              go_roundw
              case rel => exact ⟨t + 1, by omega, by go_num, Hp3.out, hb3⟩
              case measure => simp [intOf]; omega
        · obtain rfl : t = S.nodes := by omega
          rw [← allW_succ] at hp2
          have Hp2 := Lib.hid hp2; clear hp2
          go_wp2_with fail
          go_roundw
          case rel => exact ⟨f + 1, by omega, by go_num, Hp2.out, hb2⟩
          case measure => simp [intOf]; omega
    · obtain rfl : f = S.nodes := by omega
      obtain ⟨ar, cr, rfl, hrr, hsr, hlr⟩ := hp1
      have hcr : ((S.allW S.nodes).length : Int) ≤ (cr : Int) := by have := hrr.1; omega
      have hP : PktsAt w.heap.size wr (.slice ar (S.allW S.nodes).length (S.allW S.nodes).length) (S.allW S.nodes) := by
        refine ⟨ar, _, rfl, ⟨Nat.le_refl _, hrr.2.1, fun h => ?_, fun y hy => ?_⟩, ?_, fun y hy hc => hlr y hy (by omega)⟩
        · have := hrr.2.2.1 h; have := hrr.1; omega
        · exact ⟨(hrr.2.2.2 y hy).1, fun hc => (hrr.2.2.2 y hy).2.1 (by omega), (hrr.2.2.2 y hy).2.2⟩
        · intro y hy j j1 j2; omega
      have HP := Lib.hid hP; clear hP hrr hsr hlr
      have hcr2 := hcr
      clear hcr
      go_wp2_with fail
      refine (clip_walk ar _ cr _ (by omega)).mono ?_
      rintro e w' ⟨rfl, rfl⟩
      go_wp2_with fail
      go_ret
      exact ⟨_, rfl, HP.out, hb1⟩

end Go.Proofs.Ytcjcccmlpilbbaa
