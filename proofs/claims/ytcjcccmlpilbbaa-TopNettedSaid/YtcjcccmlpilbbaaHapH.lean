/- HapH: lemmas on the way to the law (no condition of their own beyond what each states). -/
import Derived.Test.YtcjcccmlpilbbaaHapG
namespace Go.Proofs.Ytcjcccmlpilbbaa
open Go.RowKit Go.K55 Go.Maps
set_option linter.unusedVariables false
set_option linter.unusedSimpArgs false

/-- What a turn of the net leaves, without its result. -/
def Turn (w : World) (p : Nat) (S' : NS) (G : Nat → Prop) (w' : World) : Prop :=
  ∃ G', NetG w' p S' G' ∧ (∀ x, G' x → G x ∨ w.heap.size ≤ x) ∧ Frm (fun x _ => G x) w w'

/-- What is kept stays while the net turns. -/
theorem W55G.turned {w w5 : World} {p q : Nat} {S S0 : NS} {G : Nat → Prop} {ao : Option Addr} {cap : Nat} (hw : W55G w q S ao cap) (hn : NetG w p S0 G) (hf : Frm (fun x _ => G x) w w5) : W55G w5 q S ao cap := by
  have gq : ∀ b, G b → elemAt w b ≠ some 39 ∧ elemAt w b ≠ some 60 := fun b hb => by
    rcases hn.gty b hb with e | e | e | e <;> rw [e] <;> exact ⟨by decide, by decide⟩
  refine ⟨hw.st.kept hf ?_ ?_, ?_⟩
  · intro o hG; exact (gq _ hG).1 hw.st.eq
  · intro b o hao hc j _ hG
    exact (gq _ hG).2 ((hw.st.row.2.2.2 _ hao).2.1 hc).2
  · intro y hy j j1 j2
    have hc : 0 < cap := by rcases Nat.eq_zero_or_pos cap with h0 | h0; subst h0; omega; exact h0
    obtain ⟨k1, k2, k3⟩ := hw.sp y hy j j1 j2
    have hty := (hw.st.row.2.2.2 _ hy).2.1 hc
    rw [hf.cel _ _ hty.1 (fun h => (gq _ h).2 hty.2), hf.frz _ _ hty.1]
    exact ⟨k1, k2, k3⟩

theorem Below.turn {w w5 : World} {p : Nat} {S0 : NS} {G : Nat → Prop} (hn : NetG w p S0 G) {B : Nat} (hG : ∀ x, G x → x < B) (hf : Frm (fun x _ => G x) w w5) {b o : Nat} {v : Value} (hb : B ≤ b) (hc : w.cell? ⟨b, o, none⟩ = some v) : w5.cell? ⟨b, o, none⟩ = some v :=
  (hf.cel b o (World.block_lt_of_cell? w _ hc) (fun h => by have := hG _ h; omega)).trans hc

/-- First the net turns, then the kept messages. -/
theorem Hap.of2 {w w2 w4 w5 w6 w7 : World} {p q : Nat} {S S' : NS} {G : Nat → Prop} {ao : Option Addr} {cap : Nat} (hw : W55G w q S ao cap) (hn : NetG w p S G) (hb : Below w.heap.size w w2) (ht : Turn w2 p S' G w4)
    (h45 : Below w4.heap.size w4 w5) (hm : Moved w5 q S' (Lof ao S.msgs.length cap) w6) (h67 : Below w6.heap.size w6 w7) : Hap w p q S S' G ao cap (.returned (.bool true)) w7 := by
  obtain ⟨G', hg, hG, hf2⟩ := ht
  have hw4 := (hw.below hb).turned (hn.below hb) hf2
  have hw5 : W55G w5 q S ao cap := hw4.below h45
  have hn5 := hg.below h45
  have hn6 := NetG.moved hn5 hw5 hm
  obtain ⟨ao', cap', h55, hf, hL⟩ := hm
  have s1 := hb.size
  have s2 := hf2.size
  have s3 := h45.size
  refine ⟨rfl, G', ao', cap', hn6.below h67, h55.below h67, fun x hx => (hG x hx).imp id (fun h => by omega), fun b o ho => (hL b o ho).imp id (fun h => by omega), ?_⟩
  have e1 : Frm (fun b o => G b ∨ b = q ∨ Lof ao S.msgs.length cap b o) w w2 := Frm.of_below hb
  have e2 := e1.trans hf2 (fun _ _ _ h => Or.inl h)
  have e3 := e2.trans (Frm.of_below (F := fun _ _ => False) h45) (fun _ _ _ h => h.elim)
  have e4 := e3.trans hf (fun _ _ _ h => Or.inr h)
  exact e4.trans (Frm.of_below (F := fun _ _ => False) h67) (fun _ _ _ h => h.elim)

/-- What the append of a message that is kept leaves of the cells that it reads. -/
theorem double_keep {w2 : World} {q B lb2 lo2 i k n ci : Nat} {S : NS} {xb off cap : Nat} {m : Msg} {ys : List Value} (h : W55G w2 q S (some ⟨xb, off, none⟩) cap) (hri : Row w2 3 1 (some ⟨lb2, lo2, none⟩) n ci ys) (hi : i < n)
    (gr : Grow w2 q B S (some ⟨xb, off, none⟩) cap m.fr m.to m.s) (hlc : w2.cell? ⟨lb2, lo2 + i, none⟩ = some (.int .i64 (k : Int))) (e0 : w2.cell? ⟨xb, off + k * 3, none⟩ = some (.int .i64 m.fr)) (e1 : w2.cell? ⟨xb, off + k * 3 + 1, none⟩ = some (.int .i64 m.to)) (e2 : w2.cell? ⟨xb, off + k * 3 + 2, none⟩ = some (.string m.s)) (hk : k < S.msgs.length := by assumption) :
    ((w2.alloc (msgX m.fr m.to m.s)).drew.cell? ⟨B, 0, none⟩ = some (.pointer (some ⟨q, 0, none⟩)) ∧ (w2.alloc (msgX m.fr m.to m.s)).drew.cell? ⟨q, 1, none⟩ = some (.slice (some ⟨xb, off, none⟩) S.msgs.length cap)) ∧
    ((w2.alloc (msgX m.fr m.to m.s)).drew.cell? ⟨lb2, lo2 + i, none⟩ = some (.int .i64 (k : Int)) ∧ (w2.alloc (msgX m.fr m.to m.s)).drew.cell? ⟨xb, off + k * 3, none⟩ = some (.int .i64 m.fr) ∧ (w2.alloc (msgX m.fr m.to m.s)).drew.cell? ⟨xb, off + k * 3 + 1, none⟩ = some (.int .i64 m.to) ∧ (w2.alloc (msgX m.fr m.to m.s)).drew.cell? ⟨xb, off + k * 3 + 2, none⟩ = some (.string m.s)) ∧
    ∀ w4, Frm (Lof (some ⟨xb, off, none⟩) S.msgs.length cap) (w2.alloc (msgX m.fr m.to m.s)).drew w4 → w4.cell? ⟨lb2, lo2 + i, none⟩ = some (.int .i64 (k : Int)) ∧ w4.cell? ⟨xb, off + k * 3, none⟩ = some (.int .i64 m.fr) ∧ w4.cell? ⟨xb, off + k * 3 + 1, none⟩ = some (.int .i64 m.to) ∧ w4.cell? ⟨xb, off + k * 3 + 2, none⟩ = some (.string m.s) := by
  have f : Frm (fun _ _ => False) w2 (w2.alloc (msgX m.fr m.to m.s)).drew := ((Frm.refl _ w2).alloc _).drew
  have hl := World.block_lt_of_cell? _ _ hlc
  have hx := World.block_lt_of_cell? _ _ e0
  have a1 := (f.cel _ _ hl (fun h => h)).trans hlc
  have a2 := (f.cel _ _ hx (fun h => h)).trans e0
  have a3 := (f.cel _ _ hx (fun h => h)).trans e1
  have a4 := (f.cel _ _ hx (fun h => h)).trans e2
  refine ⟨gr.c0, ⟨a1, a2, a3, a4⟩, ?_⟩
  intro w4 f4
  have s4 : w2.heap.size < (w2.alloc (msgX m.fr m.to m.s)).drew.heap.size := by simp
  have t1 : ∀ o, ¬ Lof (some ⟨xb, off, none⟩) S.msgs.length cap lb2 o := fun o ho => by
    have e := (Lof_type h.st.row ho).2
    rw [((hri.2.2.2 _ rfl).2.1 (by have := hri.1; omega)).2] at e; cases e
  have t2 : ∀ o, o < off + S.msgs.length * 3 → ¬ Lof (some ⟨xb, off, none⟩) S.msgs.length cap xb o := by
    rintro o ho ⟨ob, hob, h1, h2⟩
    cases hob; omega
  have hl' : lb2 < w2.heap.size := hl
  have hx' : xb < w2.heap.size := hx
  exact ⟨(f4.cel _ _ (by omega) (t1 _)).trans a1, (f4.cel _ _ (by omega) (t2 _ (by omega))).trans a2, (f4.cel _ _ (by omega) (t2 _ (by omega))).trans a3, (f4.cel _ _ (by omega) (t2 _ (by omega))).trans a4⟩

/-- The two boxes of a message stay. -/
theorem two_boxes {w4 w6 : World} {q : Nat} {S S' : NS} {ao : Option Addr} {cap : Nat} {m : Msg} (h : W55G w4 q S ao cap) (hm : Moved ((w4.alloc (msgX m.fr m.to m.s)).alloc (msgX m.fr m.to m.s)) q S' (Lof ao S.msgs.length cap) w6) :
    (w6.cell? ⟨w4.heap.size, 0, none⟩ = some (.int .i64 m.fr) ∧ w6.cell? ⟨w4.heap.size, 1, none⟩ = some (.int .i64 m.to) ∧ w6.cell? ⟨w4.heap.size, 2, none⟩ = some (.string m.s)) ∧
    (w6.cell? ⟨w4.heap.size + 1, 0, none⟩ = some (.int .i64 m.fr) ∧ w6.cell? ⟨w4.heap.size + 1, 1, none⟩ = some (.int .i64 m.to) ∧ w6.cell? ⟨w4.heap.size + 1, 2, none⟩ = some (.string m.s)) := by
  obtain ⟨ao', cap', h55, hf, hL⟩ := hm
  have hq := h.st.lt
  have key : ∀ b o, w4.heap.size ≤ b → b < w4.heap.size + 2 → w6.cell? ⟨b, o, none⟩ = ((w4.alloc (msgX m.fr m.to m.s)).alloc (msgX m.fr m.to m.s)).cell? ⟨b, o, none⟩ := fun b o h1 h2 => hf.cel b o (by simp; omega) (by
    rintro (rfl | ho)
    · omega
    · have := (Lof_type h.st.row ho).1; omega)
  refine ⟨⟨?_, ?_, ?_⟩, ?_, ?_, ?_⟩ <;> rw [key _ _ (by omega) (by omega)] <;> simp [msgX, World.cell?_alloc_at, World.cell?_alloc_past]

end Go.Proofs.Ytcjcccmlpilbbaa
