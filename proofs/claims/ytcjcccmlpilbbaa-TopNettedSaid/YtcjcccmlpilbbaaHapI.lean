/- HapI: lemmas on the way to the law (no condition of their own beyond what each states). -/
import Derived.Test.YtcjcccmlpilbbaaHapH
namespace Go.Proofs.Ytcjcccmlpilbbaa
open Go.RowKit Go.K55 Go.Maps
set_option linter.unusedVariables false
set_option linter.unusedSimpArgs false

/-- A store to what is kept. -/
theorem W55G.set {w : World} {q o : Nat} {S S' : NS} {ao : Option Addr} {cap : Nat} {v : Value} (h : W55G w q S ao cap) (h1 : S'.nodes = S.nodes) (h2 : S'.msgs = S.msgs) (ho : 2 ≤ o)
    (hs : ∀ i, i < 8 → if 2 + i = o then v = .bool (S'.side i) else S'.side i = S.side i)
    (ht : ∀ i, i < 8 → if 10 + i = o then v = .int .i64 (S'.ticks i) else S'.ticks i = S.ticks i)
    (hd : ∀ i, i < 8 → if 18 + i = o then v = .int .u64 (S'.draws i) else S'.draws i = S.draws i) : W55G (w.setCell ⟨q, o, none⟩ v) q S' ao cap := by
  have k1 : ∀ x y, ¬ (x = q ∧ y = o) → (w.setCell ⟨q, o, none⟩ v).cell? ⟨x, y, none⟩ = w.cell? ⟨x, y, none⟩ := fun x y hne => World.cell?_setCell_other _ _ _ _ (fun e => hne (by cases e; exact ⟨rfl, rfl⟩))
  have k2 : ∀ u, w.cell? ⟨q, o, none⟩ = some u → (w.setCell ⟨q, o, none⟩ v).cell? ⟨q, o, none⟩ = some v := fun u hu => World.cell?_setCell_same _ _ _ hu
  have hne : ∀ x, ao = some x → 0 < cap → x.block ≠ q := fun x hx hc e => by
    have := ((h.st.row.2.2.2 _ hx).2.1 hc).2; rw [e, h.st.eq] at this; cases this
  refine ⟨{ c0 := ?_, c1 := ?_, row := ?_, sd := ?_, tk := ?_, dr := ?_, fz := ?_, eq := ?_ }, ?_⟩
  · rw [k1 _ _ (by omega), h1]; exact h.st.c0
  · rw [k1 _ _ (by omega), h2]; exact h.st.c1
  · rw [h2]; exact h.st.row.kept (F := fun x y => x = q ∧ y = o) (Frm.setCell1 _ _ (Or.inl ⟨rfl, rfl⟩)) (fun x y hx hc j _ e => hne _ hx hc e.1)
  · intro i hi
    have := hs i hi
    split at this
    · rename_i e; subst e; rw [k2 _ (h.st.sd i hi), this]
    · rw [k1 _ _ (by omega), this]; exact h.st.sd i hi
  · intro i hi
    have := ht i hi
    split at this
    · rename_i e; subst e; rw [k2 _ (h.st.tk i hi), this]
    · rw [k1 _ _ (by omega), this]; exact h.st.tk i hi
  · intro i hi
    have := hd i hi
    split at this
    · rename_i e; subst e; rw [k2 _ (h.st.dr i hi), this]
    · rw [k1 _ _ (by omega), this]; exact h.st.dr i hi
  · intro y; rw [World.frozen?_setCell]; exact h.st.fz y
  · rw [elemAt_setCell]; exact h.st.eq
  · intro y hy j j1 j2
    rw [h2] at j1
    have hc : 0 < cap := by rcases Nat.eq_zero_or_pos cap with h0 | h0; subst h0; omega; exact h0
    obtain ⟨k3, k4, k5⟩ := h.sp y hy j j1 j2
    rw [k1 _ _ (fun e => hne y hy hc e.1), World.frozen?_setCell]
    exact ⟨k3, k4, k5⟩

theorem W55G.tick {w : World} {q a : Nat} {S : NS} {ao : Option Addr} {cap : Nat} (h : W55G w q S ao cap) (ha : a < 8) : W55G (w.setCell ⟨q, 10 + a, none⟩ (.int .i64 (wrap64 (S.ticks a + 1)))) q (S.tick a) ao cap := by
  refine h.set rfl rfl (by omega) ?_ ?_ ?_
  · intro i hi; rw [if_neg (by omega)]; rfl
  · intro i hi
    by_cases e : i = a
    · subst e; simp [NS.tick]
    · rw [if_neg (by omega)]; simp [NS.tick, e]
  · intro i hi; rw [if_neg (by omega)]; rfl

theorem W55G.draw {w : World} {q a : Nat} {S : NS} {ao : Option Addr} {cap : Nat} (h : W55G w q S ao cap) (ha : a < 8) : W55G (w.setCell ⟨q, 18 + a, none⟩ (.int .u64 (bump (S.draws a)))) q (S.draw a) ao cap := by
  refine h.set rfl rfl (by omega) ?_ ?_ ?_
  · intro i hi; rw [if_neg (by omega)]; rfl
  · intro i hi; rw [if_neg (by omega)]; rfl
  · intro i hi
    by_cases e : i = a
    · subst e; simp [NS.draw]
    · rw [if_neg (by omega)]; simp [NS.draw, e]

/-- First the net turns, then a store to what is kept. -/
theorem Hap.of3 {w w2 w4 w5 : World} {p q : Nat} {S S' : NS} {G : Nat → Prop} {ao : Option Addr} {cap : Nat} (hw : W55G w q S ao cap) (hn : NetG w p S G) (hb : Below w.heap.size w w2) (ht : Turn w2 p S' G w4)
    (h5 : W55G w4 q S ao cap → W55G w5 q S' ao cap) (hf : Frm (fun b _ => b = q) w4 w5) (hm : S'.msgs.length = S.msgs.length) : Hap w p q S S' G ao cap (.returned (.bool true)) w5 := by
  obtain ⟨G', hg, hG, hf2⟩ := ht
  have hw4 := (hw.below hb).turned (hn.below hb) hf2
  have s1 := hb.size
  refine ⟨rfl, G', ao, cap, hg.kept hf ?_, h5 hw4, fun x hx => (hG x hx).imp id (fun h => by omega), fun b o ho => Or.inl (by rw [hm] at ho; exact ho), ?_⟩
  · rintro b o hb rfl
    rcases hg.gty _ hb with e | e | e | e <;> (rw [hw4.st.eq] at e; cases e)
  · have e1 : Frm (fun b o => G b ∨ b = q ∨ Lof ao S.msgs.length cap b o) w w2 := Frm.of_below hb
    have e2 := e1.trans hf2 (fun _ _ _ h => Or.inl h)
    exact e2.trans hf (fun _ _ _ h => Or.inr (Or.inl h))

end Go.Proofs.Ytcjcccmlpilbbaa
