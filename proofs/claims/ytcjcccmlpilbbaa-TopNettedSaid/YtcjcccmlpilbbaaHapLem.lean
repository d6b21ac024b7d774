/- HapLem: lemmas on the way to the law (no condition of their own beyond what each states). -/
import Derived.Test.YtcjcccmlpilbbaaHapBase
namespace Go.Proofs.Ytcjcccmlpilbbaa
open Go.RowKit Go.K55 Go.Maps
set_option linter.unusedVariables false
set_option linter.unusedSimpArgs false

theorem spare_Lof {w : World} {T : TypeId} {ao : Option Addr} {n cap : Nat} {xs : List Value} (hr : Row w T 3 ao n cap xs) (h : Spare (fun _ _ => True) w 3 ao n cap) : Spare (Lof ao n cap) w 3 ao n cap := by
  intro y hy j j1 j2
  obtain ⟨k1, k2, _⟩ := h y hy j j1 j2
  obtain ⟨b, o, s⟩ := y
  have hs := (hr.2.2.2 _ hy).1
  dsimp only at hs; subst hs
  exact ⟨k1, k2, o, hy, (by dsimp only; omega), (by dsimp only; omega)⟩

theorem Lof_type {w : World} {T : TypeId} {ao : Option Addr} {n cap : Nat} {xs : List Value} (hr : Row w T 3 ao n cap xs) {b o : Nat} (h : Lof ao n cap b o) : b < w.heap.size ∧ elemAt w b = some T := by
  obtain ⟨ob, hao, h1, h2⟩ := h
  exact (hr.2.2.2 _ hao).2.1 (by omega)

/-- A message is laid behind the kept ones: what the append and the store leave. -/
theorem grow_close {w w4 : World} {q : Nat} {S : NS} {ao ao' : Option Addr} {cap cap' : Nat} {m : Msg} {X : Obj} (h : W55G w q S ao cap) (f4 : Frm (Lof ao S.msgs.length cap) (w.alloc X).drew w4)
    (row4 : Row w4 60 3 ao' (S.msgs.length + 1) cap' (pkts S.msgs ++ [.int .i64 m.fr, .int .i64 m.to, .string m.s]))
    (loc4 : (ao' = ao ∧ cap' = cap ∧ S.msgs.length + 1 ≤ cap ∧ Spare (Lof ao S.msgs.length cap) w4 3 ao' (S.msgs.length + 1) cap') ∨ (ao' = some ⟨(w.alloc X).drew.heap.size, 0, none⟩ ∧ (w.alloc X).drew.heap.size < w4.heap.size ∧ ∀ j, j < cap' * 3 → (w4.cell? ⟨(w.alloc X).drew.heap.size, j, none⟩).isSome = true ∧ w4.frozen? ⟨(w.alloc X).drew.heap.size, j, none⟩ = false)) :
    Moved w q (S.add m) (Lof ao S.msgs.length cap) (w4.setCell ⟨q, 1, none⟩ (.slice ao' (S.msgs.length + 1) cap')) := by
  have hf : Frm (Lof ao S.msgs.length cap) w w4 := ((Frm.refl _ w).alloc X).drew.trans f4 (fun _ _ _ h => h)
  have hq : ∀ o, ¬ Lof ao S.msgs.length cap q o := fun o ho => by
    have := (Lof_type h.st.row ho).2; rw [h.st.eq] at this; cases this
  have e1 : (S.add m).msgs.length = S.msgs.length + 1 := by simp [NS.add]
  have e2 : pkts (S.add m).msgs = pkts S.msgs ++ [.int .i64 m.fr, .int .i64 m.to, .string m.s] := by simp [NS.add, pkts_append, pkts]
  refine ⟨ao', cap', ?_, ?_, ?_⟩
  · rw [← e1]
    refine h.st.renew hf hq (by rw [e1, e2]; exact row4) ?_ rfl rfl rfl rfl
    rw [e1]
    rcases loc4 with ⟨_, _, _, sp⟩ | ⟨rfl, _, hnew⟩
    · exact sp.mono (fun _ _ _ => trivial)
    · intro y hy j j1 j2
      obtain rfl := Option.some.inj hy
      obtain ⟨k1, k2⟩ := hnew j j2
      simp only [Nat.zero_add]
      exact ⟨k1, k2, trivial⟩
  · exact (hf.mono (fun _ _ _ h => Or.inr h)).setCell _ (fun _ => Or.inl rfl)
  · rw [e1]
    rintro b o ⟨ob, hb, h1, h2⟩
    rcases loc4 with ⟨rfl, rfl, _⟩ | ⟨rfl, _⟩
    · exact Or.inl ⟨ob, hb, by omega, h2⟩
    · have := Option.some.inj hb
      simp only [Addr.mk.injEq] at this
      exact Or.inr (by rw [← this.1]; simp)

/-- First the kept messages turn, then the net. -/
theorem Hap.of {w w2 w5 w6 : World} {p q : Nat} {S S' : NS} {G : Nat → Prop} {ao : Option Addr} {cap : Nat} {v : Value} {e : Ending} (hw : W55G w q S ao cap) (hn : NetG w p S G) (hb : Below w.heap.size w w2) (hm : Moved w2 q S' (Lof ao S.msgs.length cap) w5)
    (ht : Turned w5 p S' G v e w6) : Hap w p q S S' G ao cap (.returned (.bool true)) w6 := by
  obtain ⟨ao', cap', h55, hf, hL⟩ := hm
  obtain ⟨_, G', hg, hG, hf2⟩ := ht
  have hsz := hb.size
  have hf1 : Frm (fun b o => b = q ∨ Lof ao S.msgs.length cap b o) w w5 := (Frm.of_below hb).trans hf (fun _ _ _ h => h)
  have s15 := hf1.size
  have hq1 := hw.st.lt
  have gq : ∀ b, G b → elemAt w5 b ≠ some 39 ∧ elemAt w5 b ≠ some 60 := fun b hb => by
    have hlt := hn.glt b hb
    rw [hf1.elm b hlt]
    rcases hn.gty b hb with e | e | e | e <;> rw [e] <;> exact ⟨by decide, by decide⟩
  refine ⟨rfl, G', ao', cap', hg, ⟨h55.st.kept hf2 ?_ ?_, ?_⟩, ?_, ?_, ?_⟩
  · intro o hG; exact (gq _ hG).1 h55.st.eq
  · intro b o hao hc j _ hG
    exact (gq _ hG).2 ((h55.st.row.2.2.2 _ hao).2.1 hc).2
  · intro y hy j j1 j2
    have hc : 0 < cap' := by rcases Nat.eq_zero_or_pos cap' with h0 | h0; subst h0; omega; exact h0
    obtain ⟨k1, k2, k3⟩ := h55.sp y hy j j1 j2
    have hty := (h55.st.row.2.2.2 _ hy).2.1 hc
    rw [hf2.cel _ _ hty.1 (fun h => (gq _ h).2 hty.2), hf2.frz _ _ hty.1]
    exact ⟨k1, k2, k3⟩
  · intro x hx; exact (hG x hx).imp id (fun h => by omega)
  · intro b o ho; exact (hL b o ho).imp id (fun h => by omega)
  · exact (hf1.mono (fun _ _ _ h => Or.inr h)).trans hf2 (fun _ _ _ h => Or.inl h)

/-- The net stays while the kept messages turn. -/
theorem NetG.moved {w w5 : World} {p q : Nat} {S S' S0 : NS} {G : Nat → Prop} {ao : Option Addr} {cap : Nat} (hn : NetG w p S0 G) (hw : W55G w q S ao cap) (hm : Moved w q S' (Lof ao S.msgs.length cap) w5) : NetG w5 p S0 G := by
  obtain ⟨ao', cap', h55, hf, hL⟩ := hm
  refine hn.kept hf ?_
  rintro b o hb (rfl | ho)
  · rcases hn.gty _ hb with e | e | e | e <;> (rw [hw.st.eq] at e; cases e)
  · have := (Lof_type hw.st.row ho).2
    rcases hn.gty _ hb with e | e | e | e <;> (rw [this] at e; cases e)

end Go.Proofs.Ytcjcccmlpilbbaa
