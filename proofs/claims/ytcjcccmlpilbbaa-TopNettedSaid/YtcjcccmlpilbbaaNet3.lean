/- Net3: lemmas on the way to the law (no condition of their own beyond what each states). -/
import Derived.Test.YtcjcccmlpilbbaaNet2
import Derived.Deep.RegionHeld3
import Derived.Lib.Hide
namespace Go.Proofs.Ytcjcccmlpilbbaa
open Go.RowKit Go.K55 Go.Maps
set_option linter.unusedVariables false
set_option linter.unusedSimpArgs false

theorem Try.info9 : (Try.prog.info? 9).map (fun i => (i.zero, i.size, i.bytes)) = some (some (.string ⟨#[]⟩), 1, 16) := by kernel_rfl
theorem zero52 (w : World) : (zeroValue 52).run Try.prog w = .ok (.slice none 0 0) w := by kernel_rfl

theorem wf_small {a : Int} (h1 : 1 ≤ a) (h2 : a ≤ 64) : (Lit.int .i64 a).wf = true := WalkArith.wf_i64 (by omega)

/-- The cells of a row's block. -/
def RowF (ao : Option Addr) (cap : Nat) : Nat → Nat → Prop := fun x _ => ∃ y, ao = some y ∧ 0 < cap ∧ x = y.block

/-- What a send leaves: the link's row in a new state, the map with it. -/
def SendPost (w : World) (p lb : Nat) (M : Value → Option Value) (a b : Int) (ao : Option Addr) (n cap : Nat) (xs : List Value) (s : ByteArray) (fl : Int) (e : Ending) (w' : World) : Prop :=
  e = .returned (.int .i64 0) ∧ ∃ ao' cap' w2, MapAt Try.prog 51 w2 lb (putM M (key a b) (.slice ao' (n + 1) cap')) ∧ Row w2 9 1 ao' (n + 1) cap' (xs ++ [.string s]) ∧ Spare (fun _ _ => True) w2 1 ao' (n + 1) cap' ∧
    (∀ x, ao' = some x → 0 < cap' → (∃ y, ao = some y ∧ 0 < cap ∧ x.block = y.block) ∨ w.heap.size ≤ x.block) ∧ Frm (fun x o => x = lb ∨ RowF ao cap x o) w w2 ∧ w' = w2.setCell ⟨p, 2, none⟩ (.int .i64 fl)

theorem news_one {W : World} {B : Nat} {v : Value} (h : W.cell? ⟨B, 0, none⟩ = some v) : ∀ a, some (⟨B, 0, none⟩ : Addr) = some a → ∀ j u, [v][j]? = some u → W.cell? (a.add j) = some u := by
  rintro a ha j u hu
  obtain rfl := Option.some.inj ha
  obtain ⟨hj, e⟩ := List.getElem?_eq_some_iff.1 hu
  have : j = 0 := by simpa using hj
  subst this
  rw [Addr.add_lit, Nat.add_zero, h, ← e]; rfl

theorem mid_at {w W : World} {lb : Nat} {M : Value → Option Value} {a b : Int} {ao : Option Addr} {n cap : Nat} {kl : Lit} (hM : MapAt Try.prog 51 w lb M) (hkey : keyOf Try.prog 51 (key a b) = some kl) (hold : (M (key a b)).getD nilS = .slice ao n cap)
    (hW : Frm (fun _ _ => False) w W) : ∃ (w1 : World) (st : Nat), (Instr.mapEntry 43 (.map (some lb)) (.agg #[.int .i64 a, .int .i64 b])).run Try.prog W = .ok (.tuple #[.slice ao n cap, .int .i64 (st : Int)]) w1 ∧
      MapMid Try.prog 51 w1 lb M (key a b) st ∧ Frm (fun x _ => x = lb) W w1 ∧ w1.heap.size = W.heap.size := by
  obtain ⟨w1, st, r1, r2, r3, r4⟩ := run_mapEntry_at (hM.of_heap (hW.blk _ hM.lt (fun _ h => h))) Try.keyed51 Try.underlying43 (zero52 W) hkey
  rw [show (Value.slice none 0 0) = nilS from rfl, hold] at r1
  exact ⟨w1, st, r1, r2, r3 _ (fun _ => rfl), r4⟩

set_option maxRecDepth 100000 in
set_option maxHeartbeats 800000 in
theorem send_walk (p mb lb : Nat) (len mcap : Nat) (a b fl : Int) (s : ByteArray) (ao : Option Addr) (n cap : Nat) (xs : List Value) (M : Value → Option Value) (w : World) (hlen : len ≤ 64)
    (hc1 : w.cell? ⟨p, 1, none⟩ = some (.slice (some ⟨mb, 0, none⟩) len mcap)) (h1 : 1 ≤ a) (h2 : a ≤ len) (h3 : 1 ≤ b) (h4 : b ≤ len)
    (hc0 : w.cell? ⟨p, 0, none⟩ = some (.map (some lb))) (hc2 : w.cell? ⟨p, 2, none⟩ = some (.int .i64 fl)) (hf2 : w.frozen? ⟨p, 2, none⟩ = false) (hep : elemAt w p = some 46)
    (hfl0 : 0 ≤ fl) (hfl : fl < 16384) (hs : s.size ≤ 1000) (hM : MapAt Try.prog 51 w lb M) (hold : (M (key a b)).getD nilS = .slice ao n cap) (hrow : Row w 9 1 ao n cap xs) (hsp : Spare (fun _ _ => True) w 1 ao n cap) (hn : n ≤ 1000) :
    Calls Try.prog 14 #[.pointer (some ⟨p, 0, none⟩), .int .i64 a, .int .i64 b, .string s] w (SendPost w p lb M a b ao n cap xs s (fl + 1)) := by
  obtain ⟨i0, hi, hz0, hz1, hz2⟩ := info_parts Try.info9
  obtain ⟨kl, hkey⟩ := keyOf_key (wf_small h1 (by omega)) (wf_small h3 (by omega))
  have hpl := World.block_lt_of_cell? w _ hc0
  have fA : Frm (fun _ _ => False) w ((w.alloc (.cells #[.int .i64 a, .int .i64 b] 51)).alloc (.cells #[.string s] 9)).drew := (((Frm.refl _ w).alloc _).alloc _).drew
  obtain ⟨wA, sA, runA, midA, frmA, szA⟩ := mid_at hM hkey hold fA
  have hpl' : p < w.heap.size := hpl
  have hlb := hM.lt
  have hpne : p ≠ lb := fun e => by rw [e, hM.elem] at hep; cases hep
  have szA' : wA.heap.size = w.heap.size + 2 := by rw [szA]; simp
  have cA0 : wA.cell? ⟨p, 0, none⟩ = some (.map (some lb)) := (frmA.cel _ _ (by simp; omega) hpne).trans ((fA.cel _ _ hpl' (fun h => h)).trans hc0)
  have cAn : wA.cell? ⟨w.heap.size + 1, 0, none⟩ = some (.string s) := (frmA.cel _ _ (by simp) (by omega)).trans (by simp [World.cell?_alloc_at])
  have cA1 : wA.cell? ⟨w.heap.size, 0, none⟩ = some (.int .i64 a) := (frmA.cel _ _ (by simp; omega) (by omega)).trans (by simp [World.cell?_alloc_at, World.cell?_alloc_past])
  have cA2 : wA.cell? ⟨w.heap.size, 1, none⟩ = some (.int .i64 b) := (frmA.cel _ _ (by simp; omega) (by omega)).trans (by simp [World.cell?_alloc_at, World.cell?_alloc_past])
  have rowA : Row wA 9 1 ao n cap xs := (hrow.kept fA (fun _ _ _ _ _ _ h => h)).kept frmA (fun x o hx hc j _ e => by
    have h := ((hrow.2.2.2 _ hx).2.1 hc).2
    dsimp only at h
    rw [e, hM.elem] at h; cases h)
  have spA : Spare (RowF ao cap) wA 1 ao n cap := by
    intro y hy j g1 g2
    obtain ⟨k1, k2, _⟩ := hsp y hy j g1 g2
    have hc : 0 < cap := by rcases Nat.eq_zero_or_pos cap with h0 | h0; subst h0; omega; exact h0
    have hlt := ((hrow.2.2.2 _ hy).2.1 hc).1
    have hne : y.block ≠ lb := fun e => by have h := ((hrow.2.2.2 _ hy).2.1 hc).2; rw [e, hM.elem] at h; cases h
    rw [frmA.cel _ _ (by simp; omega) hne, fA.cel _ _ hlt (fun h => h), frmA.frz _ _ (by simp; omega), fA.frz _ _ hlt]
    exact ⟨k1, k2, y, hy, hc, rfl⟩
  have nofp : ∀ o, ¬ RowF ao cap p o := by
    rintro o ⟨y, hy, hc, e⟩
    have h := ((hrow.2.2.2 _ hy).2.1 hc).2
    rw [← e, hep] at h; cases h
  have nofl : ∀ o, ¬ RowF ao cap lb o := by
    rintro o ⟨y, hy, hc, e⟩
    have h := ((hrow.2.2.2 _ hy).2.1 hc).2
    rw [← e, hM.elem] at h; cases h
  have nofz : ∀ o, ¬ RowF ao cap w.heap.size o := by
    rintro o ⟨y, hy, hc, e⟩
    have h := ((hrow.2.2.2 _ hy).2.1 hc).1
    omega
  have hone : ∀ u ∈ [Value.string s], u.oneCell' = true := by simp [Value.oneCell']
  have hmax : n + 1 ≤ maxLen := by simp only [maxLen]; omega
  have hbyt : (n + 1) * 16 ≤ 140737488355328 := by omega
  have after : ∀ (ao' : Option Addr) (cap' : Nat) (w2 : World), Frm (RowF ao cap) wA w2 →
      ∃ w3, (Instr.entryStore 43 (.map (some lb)) (.int .i64 (sA : Int)) (.slice ao' (n + 1) cap')).run Try.prog w2 = .ok () w3 ∧ (MapAt Try.prog 51 w3 lb (putM M (key a b) (.slice ao' (n + 1) cap')) ∧ Frm (fun x _ => x = lb) w2 w3) ∧
        w2.cell? ⟨p, 0, none⟩ = some (.map (some lb)) ∧ w2.cell? ⟨w.heap.size, 0, none⟩ = some (.int .i64 a) ∧ w2.cell? ⟨w.heap.size, 1, none⟩ = some (.int .i64 b) ∧
        w3.cell? ⟨p, 0, none⟩ = some (.map (some lb)) ∧ w3.cell? ⟨w.heap.size, 0, none⟩ = some (.int .i64 a) ∧ w3.cell? ⟨w.heap.size, 1, none⟩ = some (.int .i64 b) ∧ w3.cell? ⟨p, 2, none⟩ = some (.int .i64 fl) ∧ w3.frozen? ⟨p, 2, none⟩ = false := by
    intro ao' cap' w2 frm2
    obtain ⟨w3, run3, map3, frm3, sz3⟩ := run_entryStore_at (midA.of_heap (frm2.blk _ (by omega) nofl)) 43 (.slice ao' (n + 1) cap')
    have frm3' := frm3 (fun x _ => x = lb) (fun _ => rfl)
    have s2 := frm2.size
    have c20 : w2.cell? ⟨p, 0, none⟩ = some (.map (some lb)) := (frm2.cel _ _ (by omega) (nofp _)).trans cA0
    have c21 : w2.cell? ⟨w.heap.size, 0, none⟩ = some (.int .i64 a) := (frm2.cel _ _ (by omega) (nofz _)).trans cA1
    have c22 : w2.cell? ⟨w.heap.size, 1, none⟩ = some (.int .i64 b) := (frm2.cel _ _ (by omega) (nofz _)).trans cA2
    refine ⟨w3, run3, ⟨map3, frm3'⟩, c20, c21, c22, (frm3'.cel _ _ (by omega) hpne).trans c20, (frm3'.cel _ _ (by omega) (by omega)).trans c21, (frm3'.cel _ _ (by omega) (by omega)).trans c22, ?_, ?_⟩
    · rw [frm3'.cel _ _ (by omega) hpne, frm2.cel _ _ (by omega) (nofp _), frmA.cel _ _ (by simp; omega) hpne, fA.cel _ _ hpl' (fun h => h)]; exact hc2
    · rw [frm3'.frz _ _ (by omega), frm2.frz _ _ (by omega), frmA.frz _ _ (by simp; omega), fA.frz _ _ hpl']; exact hf2
  have Hafter := Lib.hid after; clear after
  have HszA := Lib.hid szA'; clear szA szA'
  have Hold := Lib.hid hold; clear hold
  have Hkey := Lib.hid hkey; clear hkey
  have Hnofp := Lib.hid nofp; clear nofp
  have Hnofl := Lib.hid nofl; clear nofl
  have Hnofz := Lib.hid nofz; clear nofz
  go_enter Try.func14, Try.ntmps14
  go_wp2_with fail
  refine (between_ok _ _ _ _ _ _ _ hlen hc1 h1 h2 h3 h4).mono ?_; rintro e w' ⟨rfl, rfl⟩
  go_wp2_with fail
  go_region_held3 (fun W => W.cell? ⟨p, 0, none⟩ = some (.map (some lb)) ∧ W.cell? ⟨w.heap.size, 0, none⟩ = some (.int .i64 a) ∧ W.cell? ⟨w.heap.size, 1, none⟩ = some (.int .i64 b))
    (first | go_keep)
    ((refine step_app (by rfl) _ _ 52 (by rfl) (RowF ao cap) 9 i0 _ 1 16 Try.underlying52 hi hz0 hz1 hz2 rfl (by decide) (bo := some ⟨w.heap.size + 1, 0, none⟩) (m := 1) (c := 1) (news := [.string s]) ?_ ?_ rowA spA rfl (fun h => by cases h) (news_one cAn) hone hmax hbyt ?_;
      rfl; rfl; intro ao' cap' w2 row2 frm2 loc2; obtain ⟨w3, run3, both3, c20, c21, c22, c30, c31, c32, c3p, f3p⟩ := Hafter.out ao' cap' w2 frm2))
  go_wp2_with fail
  go_ret
  refine ⟨rfl, ao', cap', w3, both3.1, ?_, ?_, ?_, ?_, rfl⟩
  · refine row2.kept both3.2 (fun x o hx hc j _ e => ?_)
    have h := ((row2.2.2.2 _ hx).2.1 hc).2
    dsimp only at h
    rw [e] at h
    have h' := both3.2.elm lb (by have := HszA.out; have := frm2.size; omega)
    rw [both3.1.elem, h] at h'; cases h'
  · intro y hy j g1 g2
    have hc : 0 < cap' := by rcases Nat.eq_zero_or_pos cap' with h0 | h0; subst h0; omega; exact h0
    have hb := (row2.2.2.2 _ hy).2.1 hc
    have hne : y.block ≠ lb := fun e => by
      have h' := both3.2.elm lb (by have := HszA.out; have := frm2.size; omega)
      rw [both3.1.elem, ← e, hb.2] at h'; cases h'
    rw [both3.2.cel _ _ hb.1 hne, both3.2.frz _ _ hb.1]
    rcases loc2 with ⟨_, _, _, sp2⟩ | ⟨e, _, hnew⟩
    · obtain ⟨k1, k2, _⟩ := sp2 y hy j g1 g2; exact ⟨k1, k2, trivial⟩
    · rw [hy] at e; obtain rfl := Option.some.inj e
      obtain ⟨k1, k2⟩ := hnew j g2
      simp only [Nat.zero_add]; exact ⟨k1, k2, trivial⟩
  · intro x hx hc
    rcases loc2 with ⟨e, ec, _⟩ | ⟨e, _⟩
    · exact Or.inl ⟨x, by rw [← e, hx], by omega, rfl⟩
    · rw [hx] at e; obtain rfl := Option.some.inj e
      exact Or.inr (by have := HszA.out; simp only; omega)
  · have g1 : Frm (fun x o => x = lb ∨ RowF ao cap x o) w wA := (fA.mono (fun _ _ _ h => h.elim)).trans frmA (fun _ _ _ h => Or.inl h)
    exact (g1.trans frm2 (fun _ _ _ h => Or.inr h)).trans both3.2 (fun _ _ _ h => Or.inl h)

end Go.Proofs.Ytcjcccmlpilbbaa
