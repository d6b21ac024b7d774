/- Net6: lemmas on the way to the law (no condition of their own beyond what each states). -/
import Derived.Test.YtcjcccmlpilbbaaNet5
namespace Go.Proofs.Ytcjcccmlpilbbaa
open Go.RowKit Go.K55 Go.Maps
set_option linter.unusedVariables false
set_option linter.unusedSimpArgs false

theorem NetG.kept {w w' : World} {p : Nat} {S : NS} {G : Nat → Prop} (h : NetG w p S G) {F : Nat → Nat → Prop} (hf : Frm F w w') (hF : ∀ b o, G b → ¬ F b o) : NetG w' p S G := by
  obtain ⟨lb, mb, mcap, M, h, hmc⟩ := h
  exact ⟨lb, mb, mcap, M, h.kept hf hF, hmc⟩

theorem NetG.alloc {w : World} {p : Nat} {S : NS} {G : Nat → Prop} (h : NetG w p S G) (o : Obj) : NetG (w.alloc o) p S G := h.kept (F := fun _ _ => False) (Frm.alloc1 _ _) (fun _ _ _ h => h)
theorem NetG.drewN {w : World} {p : Nat} {S : NS} {G : Nat → Prop} (h : NetG w p S G) (n : Nat) : NetG (w.drewN n) p S G := h.kept (F := fun _ _ => False) ((Frm.refl _ _).drewN n) (fun _ _ _ h => h)
theorem NetG.below {w w' : World} {p : Nat} {S : NS} {G : Nat → Prop} (h : NetG w p S G) (hb : Below w.heap.size w w') : NetG w' p S G := h.kept (F := fun _ _ => False) (Frm.of_below hb) (fun _ _ _ h => h)
theorem NetG.glt {w : World} {p : Nat} {S : NS} {G : Nat → Prop} (h : NetG w p S G) : ∀ b, G b → b < w.heap.size := by
  obtain ⟨lb, mb, mcap, M, h, hmc⟩ := h
  exact h.glt
theorem NetG.gty {w : World} {p : Nat} {S : NS} {G : Nat → Prop} (h : NetG w p S G) : ∀ b, G b → elemAt w b = some 46 ∨ elemAt w b = some 48 ∨ elemAt w b = some 9 ∨ elemAt w b = none := by
  obtain ⟨lb, mb, mcap, M, h, hmc⟩ := h
  exact h.gty

theorem parted_spec {w : World} {p : Nat} {S : NS} {G : Nat → Prop} {N : Nat} (h : NetG w p S G) (hS : Wf S N) {a b : Int} (hk : Knows S a b) :
    Calls Try.prog 24 #[.pointer (some ⟨p, 0, none⟩), .int .i64 a, .int .i64 b] w fun e w' => e = .returned (.bool (S.side a.toNat != S.side b.toNat)) ∧ ∃ n, w' = w.drewN n := by
  obtain ⟨lb, mb, mcap, M, h, hmc⟩ := h
  obtain ⟨⟨h1, h2⟩, h3, h4⟩ := hk
  have hn := hS.n2
  have ca := h.sd (a.toNat - 1) (by omega)
  have cb := h.sd (b.toNat - 1) (by omega)
  rw [show a.toNat - 1 + 1 = a.toNat by omega] at ca
  rw [show b.toNat - 1 + 1 = b.toNat by omega] at cb
  exact parted_ok p mb S.nodes mcap a b _ _ w (by omega) h.c1 h1 h2 h3 h4 ca cb

theorem parted_bad_spec {w : World} {p : Nat} {S : NS} {G : Nat → Prop} {N : Nat} (h : NetG w p S G) (hS : Wf S N) {a b : Int} (hk : Unknown S a b) :
    Calls Try.prog 24 #[.pointer (some ⟨p, 0, none⟩), .int .i64 a, .int .i64 b] w fun e w' => e = .returned (.bool false) ∧ ∃ n, w' = w.drewN n := by
  obtain ⟨lb, mb, mcap, M, h, hmc⟩ := h
  have hn := hS.n2
  exact parted_bad p mb S.nodes mcap a b w (by omega) h.c1 hk

theorem len_spec {w : World} {p : Nat} {S : NS} {G : Nat → Prop} (h : NetG w p S G) {a b : Int} (wa : (Lit.int .i64 a).wf = true) (wb : (Lit.int .i64 b).wf = true) :
    Calls Try.prog 23 #[.pointer (some ⟨p, 0, none⟩), .int .i64 a, .int .i64 b] w fun e w' => e = .returned (.int .i64 ((places a b S.msgs 0).length : Int)) ∧ w = w' := by
  obtain ⟨lb, mb, mcap, M, h, hmc⟩ := h
  obtain ⟨ao, cap, g1, g2, g3, g4⟩ := h.row a b
  have hl := h.lookup wa wb
  rw [g1] at hl
  have := len_any p lb a b ao _ cap w h.c0 hl
  rw [link_length] at this
  exact this

theorem nodes_spec {w : World} {p : Nat} {S : NS} {G : Nat → Prop} (h : NetG w p S G) : Calls Try.prog 27 #[.pointer (some ⟨p, 0, none⟩)] w fun e w' => e = .returned (.int .i64 (S.nodes : Int)) ∧ w = w' := by
  obtain ⟨lb, mb, mcap, M, h, hmc⟩ := h
  exact nodes_any p mb S.nodes mcap w h.c1

theorem ticks_spec {w : World} {p : Nat} {S : NS} {G : Nat → Prop} {N : Nat} (h : NetG w p S G) (hS : Wf S N) {a : Int} (h1 : 1 ≤ a) (h2 : a ≤ S.nodes) :
    Calls Try.prog 26 #[.pointer (some ⟨p, 0, none⟩), .int .i64 a] w fun e w' => e = .returned (.int .i64 (S.ticks a.toNat)) ∧ w = w' := by
  obtain ⟨lb, mb, mcap, M, h, hmc⟩ := h
  have hn := hS.n2
  have ca := h.tk (a.toNat - 1) (by omega)
  rw [show a.toNat - 1 + 1 = a.toNat by omega] at ca
  exact ticks_ok p mb S.nodes mcap a _ w (by omega) h.c1 h1 h2 ca

theorem ticks_bad_spec {w : World} {p : Nat} {S : NS} {G : Nat → Prop} {N : Nat} (h : NetG w p S G) (hS : Wf S N) {a : Int} (h1 : a < 1 ∨ (S.nodes : Int) < a) :
    Calls Try.prog 26 #[.pointer (some ⟨p, 0, none⟩), .int .i64 a] w fun e w' => e = .returned (.int .i64 0) ∧ w = w' := by
  obtain ⟨lb, mb, mcap, M, h, hmc⟩ := h
  have hn := hS.n2
  exact ticks_bad p mb S.nodes mcap a w (by omega) h.c1 h1

def NS.tick (S : NS) (a : Nat) : NS := { S with ticks := fun i => if i = a then wrap64 (S.ticks a + 1) else S.ticks i }
def NS.draw (S : NS) (a : Nat) : NS := { S with draws := fun i => if i = a then bump (S.draws a) else S.draws i }

theorem tick_spec {w : World} {p : Nat} {S : NS} {G : Nat → Prop} {N : Nat} (h : NetG w p S G) (hS : Wf S N) {a : Int} (h1 : 1 ≤ a) (h2 : a ≤ S.nodes) :
    Calls Try.prog 19 #[.pointer (some ⟨p, 0, none⟩), .int .i64 a] w (Turned w p (S.tick a.toNat) G (.tuple #[.int .i64 (wrap64 (S.ticks a.toNat + 1)), .int .i64 0])) := by
  obtain ⟨lb, mb, mcap, M, h, hmc⟩ := h
  have hn := hS.n2
  have ca := h.tk (a.toNat - 1) (by omega)
  rw [show a.toNat - 1 + 1 = a.toNat by omega] at ca
  refine (tick_ok p mb S.nodes mcap a _ w (by omega) h.c1 h1 h2 ca (h.mf _ (by omega))).mono ?_
  rintro e w' ⟨rfl, rfl⟩
  have hf : Frm (fun x o => x = mb ∧ o = (a.toNat - 1) * 3) w (w.setCell ⟨mb, (a.toNat - 1) * 3, none⟩ (.int .i64 (wrap64 (S.ticks a.toNat + 1)))) := Frm.setCell1 _ _ (Or.inl ⟨rfl, rfl⟩)
  obtain ⟨b1, b2, b3⟩ := h.blocks
  refine ⟨rfl, G, ⟨lb, mb, mcap, M, ?_, hmc⟩, fun x hx => Or.inl hx, hf.mono (fun x o _ hx => by rw [hx.1]; exact h.gm)⟩
  have hlt := h.glt
  have kp : ∀ x o, x ≠ mb → (w.setCell ⟨mb, (a.toNat - 1) * 3, none⟩ (.int .i64 (wrap64 (S.ticks a.toNat + 1)))).cell? ⟨x, o, none⟩ = w.cell? ⟨x, o, none⟩ := fun x o hx => World.cell?_setCell_other _ _ _ _ (fun e => hx (by cases e; rfl))
  have km : ∀ o, o ≠ (a.toNat - 1) * 3 → (w.setCell ⟨mb, (a.toNat - 1) * 3, none⟩ (.int .i64 (wrap64 (S.ticks a.toNat + 1)))).cell? ⟨mb, o, none⟩ = w.cell? ⟨mb, o, none⟩ := fun o hx => World.cell?_setCell_other _ _ _ _ (fun e => hx (by cases e; rfl))
  refine { c0 := (kp _ _ b1).trans h.c0, c1 := (kp _ _ b1).trans h.c1, c2 := (kp _ _ b1).trans h.c2, f2 := (World.frozen?_setCell _ _ _ _).trans h.f2, ep := (elemAt_setCell _ _ _ _).trans h.ep, em := (elemAt_setCell _ _ _ _).trans h.em, tk := ?_, dr := ?_, sd := ?_, mf := fun o ho => (World.frozen?_setCell _ _ _ _).trans (h.mf o ho), map := h.map.of_heap (Below.heap_setCell _ _ _ _ (fun e => b3 e.symm)), dom := h.dom, row := ?_, apart := h.apart, gp := h.gp, gm := h.gm, gl := h.gl, glt := fun b hb => by simpa using h.glt b hb, gty := fun b hb => by rw [elemAt_setCell]; exact h.gty b hb }
  · intro i hi
    by_cases e : i = a.toNat - 1
    · subst e
      rw [World.cell?_setCell_same _ _ _ ca]
      simp only [NS.tick]
      rw [if_pos (by omega)]
    · rw [km _ (by omega)]
      simp only [NS.tick]
      rw [if_neg (by omega)]
      exact h.tk i hi
  · intro i hi; rw [km _ (by omega)]; exact h.dr i hi
  · intro i hi; rw [km _ (by omega)]; exact h.sd i hi
  · intro c d
    obtain ⟨ao, cap, g1, g2, g3, g4⟩ := h.row c d
    have hne : ∀ y, ao = some y → 0 < cap → y.block ≠ mb := fun y hy hc e => by
      have := ((g2.2.2.2 y hy).2.1 hc).2; rw [e, h.em] at this; cases this
    refine ⟨ao, cap, g1, g2.kept hf (fun x o hx hc j _ e => hne _ hx hc e.1), ?_, g4⟩
    intro y hy j j1 j2
    have hc : 0 < cap := by rcases Nat.eq_zero_or_pos cap with h0 | h0; subst h0; omega; exact h0
    obtain ⟨k1, k2, k3⟩ := g3 y hy j j1 j2
    rw [kp _ _ (hne y hy hc), World.frozen?_setCell]
    exact ⟨k1, k2, k3⟩

theorem tick_bad_spec {w : World} {p : Nat} {S : NS} {G : Nat → Prop} {N : Nat} (h : NetG w p S G) (hS : Wf S N) {a : Int} (h1 : a < 1 ∨ (S.nodes : Int) < a) :
    Calls Try.prog 19 #[.pointer (some ⟨p, 0, none⟩), .int .i64 a] w fun e w' => e = .returned (.tuple #[.int .i64 0, .int .i64 2]) ∧ w = w' := by
  obtain ⟨lb, mb, mcap, M, h, hmc⟩ := h
  have hn := hS.n2
  exact tick_bad p mb S.nodes mcap a w (by omega) h.c1 h1

theorem draw_spec {w : World} {p : Nat} {S : NS} {G : Nat → Prop} {N : Nat} (h : NetG w p S G) (hS : Wf S N) {a b : Int} (h1 : 1 ≤ a) (h2 : a ≤ S.nodes) (hb1 : 1 ≤ b) (hb2 : b ≤ 300) :
    Calls Try.prog 20 #[.pointer (some ⟨p, 0, none⟩), .int .i64 a, .int .i64 b] w (Turned w p (S.draw a.toNat) G (.tuple #[.int .i64 (drawV (bump (S.draws a.toNat)) b), .int .i64 0])) := by
  obtain ⟨lb, mb, mcap, M, h, hmc⟩ := h
  have hn := hS.n2
  have ca := h.dr (a.toNat - 1) (by omega)
  rw [show a.toNat - 1 + 1 = a.toNat by omega] at ca
  refine (draw_ok p mb S.nodes mcap a b _ w (by omega) h.c1 h1 h2 hb1 hb2 ca (h.mf _ (by omega))).mono ?_
  rintro e w' ⟨rfl, rfl⟩
  have hf : Frm (fun x o => x = mb ∧ o = (a.toNat - 1) * 3 + 1) w (w.setCell ⟨mb, (a.toNat - 1) * 3 + 1, none⟩ (.int .u64 (bump (S.draws a.toNat)))) := Frm.setCell1 _ _ (Or.inl ⟨rfl, rfl⟩)
  obtain ⟨b1, b2, b3⟩ := h.blocks
  refine ⟨rfl, G, ⟨lb, mb, mcap, M, ?_, hmc⟩, fun x hx => Or.inl hx, hf.mono (fun x o _ hx => by rw [hx.1]; exact h.gm)⟩
  have hlt := h.glt
  have kp : ∀ x o, x ≠ mb → (w.setCell ⟨mb, (a.toNat - 1) * 3 + 1, none⟩ (.int .u64 (bump (S.draws a.toNat)))).cell? ⟨x, o, none⟩ = w.cell? ⟨x, o, none⟩ := fun x o hx => World.cell?_setCell_other _ _ _ _ (fun e => hx (by cases e; rfl))
  have km : ∀ o, o ≠ (a.toNat - 1) * 3 + 1 → (w.setCell ⟨mb, (a.toNat - 1) * 3 + 1, none⟩ (.int .u64 (bump (S.draws a.toNat)))).cell? ⟨mb, o, none⟩ = w.cell? ⟨mb, o, none⟩ := fun o hx => World.cell?_setCell_other _ _ _ _ (fun e => hx (by cases e; rfl))
  refine { c0 := (kp _ _ b1).trans h.c0, c1 := (kp _ _ b1).trans h.c1, c2 := (kp _ _ b1).trans h.c2, f2 := (World.frozen?_setCell _ _ _ _).trans h.f2, ep := (elemAt_setCell _ _ _ _).trans h.ep, em := (elemAt_setCell _ _ _ _).trans h.em, tk := ?_, dr := ?_, sd := ?_, mf := fun o ho => (World.frozen?_setCell _ _ _ _).trans (h.mf o ho), map := h.map.of_heap (Below.heap_setCell _ _ _ _ (fun e => b3 e.symm)), dom := h.dom, row := ?_, apart := h.apart, gp := h.gp, gm := h.gm, gl := h.gl, glt := fun b hb => by simpa using h.glt b hb, gty := fun b hb => by rw [elemAt_setCell]; exact h.gty b hb }
  · intro i hi; rw [km _ (by omega)]; exact h.tk i hi
  · intro i hi
    by_cases e : i = a.toNat - 1
    · subst e
      rw [World.cell?_setCell_same _ _ _ ca]
      simp only [NS.draw]
      rw [if_pos (by omega)]
    · rw [km _ (by omega)]
      simp only [NS.draw]
      rw [if_neg (by omega)]
      exact h.dr i hi
  · intro i hi; rw [km _ (by omega)]; exact h.sd i hi
  · intro c d
    obtain ⟨ao, cap, g1, g2, g3, g4⟩ := h.row c d
    have hne : ∀ y, ao = some y → 0 < cap → y.block ≠ mb := fun y hy hc e => by
      have := ((g2.2.2.2 y hy).2.1 hc).2; rw [e, h.em] at this; cases this
    refine ⟨ao, cap, g1, g2.kept hf (fun x o hx hc j _ e => hne _ hx hc e.1), ?_, g4⟩
    intro y hy j j1 j2
    have hc : 0 < cap := by rcases Nat.eq_zero_or_pos cap with h0 | h0; subst h0; omega; exact h0
    obtain ⟨k1, k2, k3⟩ := g3 y hy j j1 j2
    rw [kp _ _ (hne y hy hc), World.frozen?_setCell]
    exact ⟨k1, k2, k3⟩

theorem draw_bad_spec {w : World} {p : Nat} {S : NS} {G : Nat → Prop} {N : Nat} (h : NetG w p S G) (hS : Wf S N) {a : Int} (b : Int) (h1 : a < 1 ∨ (S.nodes : Int) < a) :
    Calls Try.prog 20 #[.pointer (some ⟨p, 0, none⟩), .int .i64 a, .int .i64 b] w fun e w' => e = .returned (.tuple #[.int .i64 0, .int .i64 2]) ∧ w = w' := by
  obtain ⟨lb, mb, mcap, M, h, hmc⟩ := h
  have hn := hS.n2
  exact draw_bad p mb S.nodes mcap a b w (by omega) h.c1 h1

theorem draw_low_spec {w : World} {p : Nat} {S : NS} {G : Nat → Prop} {N : Nat} (h : NetG w p S G) (hS : Wf S N) {a b : Int} (h1 : 1 ≤ a) (h2 : a ≤ S.nodes) (hb : b < 1) :
    Calls Try.prog 20 #[.pointer (some ⟨p, 0, none⟩), .int .i64 a, .int .i64 b] w fun e w' => e = .returned (.tuple #[.int .i64 0, .int .i64 2]) ∧ w = w' := by
  obtain ⟨lb, mb, mcap, M, h, hmc⟩ := h
  have hn := hS.n2
  exact draw_low p mb S.nodes mcap a b w (by omega) h.c1 h1 h2 hb

end Go.Proofs.Ytcjcccmlpilbbaa
