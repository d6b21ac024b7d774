/- Behind: lemmas on the way to the law (no condition of their own beyond what each states). -/
import Derived.Test.YtcjcccmlpilbbaaHapJ
namespace Go.Proofs.Ytcjcccmlpilbbaa
open Go.RowKit Go.K55 Go.Maps
set_option linter.unusedVariables false
set_option linter.unusedSimpArgs false

theorem W55.turned {w w5 : World} {p q : Nat} {S S0 : NS} {G : Nat → Prop} {ao : Option Addr} {cap : Nat} (hw : W55 w q S ao cap) (hn : NetG w p S0 G) (hf : Frm (fun x _ => G x) w w5) : W55 w5 q S ao cap := by
  have gq : ∀ b, G b → elemAt w b ≠ some 39 ∧ elemAt w b ≠ some 60 := fun b hb => by
    rcases hn.gty b hb with e | e | e | e <;> rw [e] <;> exact ⟨by decide, by decide⟩
  refine hw.kept hf ?_ ?_
  · intro o hG; exact (gq _ hG).1 hw.eq
  · intro b o hao hc j _ hG
    exact (gq _ hG).2 ((hw.row.2.2.2 _ hao).2.1 hc).2

/-- Behind the call of link, for what is left behind. -/
structure CtxB (w w2 : World) (p q : Nat) (S : NS) (G : Nat → Prop) (ao : Option Addr) (cap : Nat) (K fr to ii nn : Int) : Prop where
  cb : w2.cell? ⟨w.heap.size, 0, none⟩ = some (.pointer (some ⟨q, 0, none⟩))
  x0 : w2.cell? ⟨w.heap.size + 1, 0, none⟩ = some (.int .u8 K)
  x4 : w2.cell? ⟨w.heap.size + 1, 4, none⟩ = some (.int .u8 nn)
  w55 : W55 w2 q S ao cap
  net : NetG w2 p S G
  bel : Below w.heap.size w w2

theorem CtxB.of {w w2 : World} {p q : Nat} {S : NS} {G : Nat → Prop} {ao : Option Addr} {cap : Nat} {K fr to ii nn : Int} {n : Nat} (hw : W55 w q S ao cap) (hn : NetG w p S G) (hb : Below (w.heap.size + 2) ((W1 w q K fr to ii nn).drewN n) w2) : CtxB w w2 p q S G ao cap K fr to ii nn := by
  have hb' : Below (w.heap.size + 2) (W1 w q K fr to ii nn) w2 := (Below.trans (b := (W1 w q K fr to ii nn).drewN n) ⟨rfl, rfl, rfl, Nat.le_refl _, fun _ _ => rfl⟩ hb)
  have hb0 : Below w.heap.size w w2 := (W1_below w q K fr to ii nn).trans (hb'.mono (by omega))
  exact ⟨Below.at hb' (by omega) (by simp [W1, World.cell?_alloc_at, World.cell?_alloc_past]), Below.at hb' (by omega) (by simp [W1, World.cell?_alloc_at, World.cell?_alloc_past]),
    Below.at hb' (by omega) (by simp [W1, World.cell?_alloc_at, World.cell?_alloc_past]), hw.below hb0, hn.below hb0, hb0⟩

set_option maxRecDepth 100000 in
set_option maxHeartbeats 1000000 in
/-- A draw of what is left behind. -/
theorem behind_walk {w : World} {p q : Nat} {S : NS} {G : Nat → Prop} {N : Nat} {ao : Option Addr} {cap : Nat} (hw : W55 w q S ao cap) (hn : NetG w p S G) (hS : Wf S N) (hN : N ≤ 800)
    (K fr tu ii nn num A B : Int) (i : Nat) (hK : K.tmod 9 = 8) (hm0 : 0 ≤ num) (hm1 : num ≤ 40) (hA : fr.tmod ((S.nodes : Int) + 2) = A) (hB : tu.tmod ((S.nodes : Int) + 2) = B) (hI : ii.tmod 4 = (i : Int)) (hf0 : 0 ≤ fr) (hf1 : fr ≤ 255) (ht0 : 0 ≤ tu) (ht1 : tu ≤ 255) (hi0 : 0 ≤ ii) (hi1 : ii ≤ 255) (hn0 : 0 ≤ nn) (hn1 : nn ≤ 255) (hA0 : 0 ≤ A) (hB0 : 0 ≤ B) (hI1 : (i : Int) ≤ 3) (hA1 : A ≤ 6) (hB1 : B ≤ 6)
    (hk1 : 1 ≤ A) (hk2 : A ≤ (S.nodes : Int)) (hl : 3 ≤ nn) (hb : B < 1) :
    Calls Try.prog 7 #[.pointer (some ⟨q, 0, none⟩), .pointer (some ⟨p, 0, none⟩), .agg #[.int .u8 K, .int .u8 fr, .int .u8 tu, .int .u8 ii, .int .u8 nn], .int .i64 num] w (fun e w' => e = .returned (.bool true) ∧ Frm (fun x _ => G x ∨ x = q) w w') := by
  have hq := hw.lt
  have c0 := hw.c0
  have hS1 := hS.n1
  have hS2 := hS.n2
  have hlen := hS.len
  have hI0 : (0 : Int) ≤ (i : Int) := by omega
  have hpl : (places A B S.msgs 0).length ≤ N := by rw [places_length]; exact Nat.le_trans (List.length_filter_le _ _) hlen
  have hnz : ((S.nodes : Int) + 2 == 0) = false := by simp; omega
  have hlk := fun n => link_walk q S ao cap A B ((W1 w q K fr tu ii nn).drewN n) ((hw.below (W1_below w q K fr tu ii nn)).kept (F := fun _ _ => False) ((Frm.refl _ _).drewN n) (fun _ h => h) (fun _ _ _ _ _ _ h => h)) (by omega)
  have Hlk := Lib.hid hlk; clear hlk
  have Hw := Lib.hid hw; clear hw
  have Hn := Lib.hid hn; clear hn
  have hl1 : 1 ≤ nn - 2 := by omega
  have hl2 : decide (nn - 2 < 1) = false := decide_eq_false (by omega)
  have hun : decide (1 ≤ B) = false := decide_eq_false (by omega)
  have hw1 : IntKind.i64.wrap ((S.nodes : Int) + 2) = (S.nodes : Int) + 2 := IntWalk.i64_in _ (by omega)
  go_enter Try.func7, Try.ntmps7
  go_wp2_with fail
  go_quiet (fail)
  clear hA hB hI hw1
  go_wp2_with fail
  refine (Hlk.out _).mono ?_
  rintro e w2 ⟨v, rfl, hv, hb⟩
  have hC : CtxB w w2 p q S G ao cap K fr tu ii nn := CtxB.of Hw.out Hn.out (by rw [World.heap_drewN, W1_size] at hb; exact hb)
  have hvB : w.heap.size ≤ (W1 w q K fr tu ii nn).heap.size := by rw [W1_size]; omega
  have cb := hC.cb
  have x0 := hC.x0
  have x4 := hC.x4
  have hw2 := hC.w55
  have d0 := hw2.c0
  have d1 := hw2.c1
  have df := hw2.fz 1
  obtain ⟨ai, ci, rfl, hri, hsi, hli⟩ := hv
  have HC := Lib.hid hC; clear hC hb
  have Hw2 := Lib.hid hw2; clear hw2
  have Hri := Lib.hid hri; clear hri hsi hli
  go_wp2_with fail
  have hsn := draw_spec HC.out.net hS hk1 hk2 hl1 (by omega)
  have Hsn := Lib.hid hsn; clear hsn
  refine Hsn.out.mono ?_
  rintro e w4 ⟨rfl, ht⟩
  obtain ⟨G', g1, g2, g3⟩ := id ht
  have hw4 := W55.turned HC.out.w55 HC.out.net g3
  have cb4 := Below.turn HC.out.net Hn.out.glt g3 (Nat.le_refl _) HC.out.cb
  have d4 := hw4.c0
  have hdr := draw55 q A (nn - 2) _ w4 hk1 (by omega) hl1 (by omega) (hw4.dr A.toNat (by omega)) (hw4.fz _)
  have Hdr := Lib.hid hdr; clear hdr
  have hF4 : Frm (fun x _ => G x ∨ x = q) w w4 := (Frm.of_below HC.out.bel).trans g3 (fun _ _ _ h => Or.inl h)
  have HF4 := Lib.hid hF4; clear hF4
  clear hw4 g1 g2 g3
  have Ht := Lib.hid ht; clear ht
  go_wp2_with fail
  refine Hdr.out.mono ?_
  rintro e w6 ⟨rfl, n6, rfl⟩
  go_wp2_with fail
  go_ret
  exact ⟨rfl, (HF4.out.setCell _ (fun _ => Or.inr rfl)).drewN _⟩

end Go.Proofs.Ytcjcccmlpilbbaa
