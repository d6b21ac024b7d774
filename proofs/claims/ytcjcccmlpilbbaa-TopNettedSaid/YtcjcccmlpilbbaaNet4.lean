/- Net4: lemmas on the way to the law (no condition of their own beyond what each states). -/
import Derived.Test.YtcjcccmlpilbbaaNet3
import Derived.IntWalk
namespace Go.Proofs.Ytcjcccmlpilbbaa
open Go.RowKit Go.K55 Go.Maps
set_option linter.unusedVariables false
set_option linter.unusedSimpArgs false

theorem row_after {w2 w3 : World} {lb : Nat} {M' : Value → Option Value} {ao' : Option Addr} {m cap' : Nat} {ys : List Value} (row2 : Row w2 9 1 ao' m cap' ys) (m3 : MapAt Try.prog 51 w3 lb M') (hlb : lb < w2.heap.size) (f3 : Frm (fun x _ => x = lb) w2 w3) :
    Row w3 9 1 ao' m cap' ys := by
  refine row2.kept f3 (fun x o hx hc j _ e => ?_)
  have h := ((row2.2.2.2 _ hx).2.1 hc).2
  dsimp only at h
  rw [e] at h
  have h' := f3.elm lb hlb
  rw [m3.elem, h] at h'; cases h'

theorem spare_after {w2 w3 : World} {lb : Nat} {M' : Value → Option Value} {ao' : Option Addr} {m cap' : Nat} {ys : List Value} (row2 : Row w2 9 1 ao' m cap' ys) (m3 : MapAt Try.prog 51 w3 lb M') (hlb : lb < w2.heap.size) (f3 : Frm (fun x _ => x = lb) w2 w3)
    (sp2 : ∀ y, ao' = some y → ∀ j, m * 1 ≤ j → j < cap' * 1 → (w2.cell? ⟨y.block, y.off + j, none⟩).isSome = true ∧ w2.frozen? ⟨y.block, y.off + j, none⟩ = false) : Spare (fun _ _ => True) w3 1 ao' m cap' := by
  intro y hy j g1 g2
  have hc : 0 < cap' := by rcases Nat.eq_zero_or_pos cap' with h0 | h0; subst h0; omega; exact h0
  have hb := (row2.2.2.2 _ hy).2.1 hc
  have hne : y.block ≠ lb := fun e => by
    have h' := f3.elm lb hlb
    rw [m3.elem, ← e, hb.2] at h'; cases h'
  rw [f3.cel _ _ hb.1 hne, f3.frz _ _ hb.1]
  obtain ⟨k1, k2⟩ := sp2 y hy j g1 g2
  exact ⟨k1, k2, trivial⟩

/-- What a drop leaves. -/
def DropPost (w : World) (p lb : Nat) (M : Value → Option Value) (a b : Int) (ao : Option Addr) (n cap : Nat) (xs : List Value) (i : Nat) (fl : Int) (e : Ending) (w' : World) : Prop :=
  e = .returned (.int .i64 0) ∧ ∃ ao' cap' w2, MapAt Try.prog 51 w2 lb (putM M (key a b) (.slice ao' (n - 1) cap')) ∧ Row w2 9 1 ao' (n - 1) cap' (xs.eraseIdx i) ∧ Spare (fun _ _ => True) w2 1 ao' (n - 1) cap' ∧
    (∀ x, ao' = some x → 0 < cap' → (∃ y, ao = some y ∧ 0 < cap ∧ x.block = y.block) ∨ w.heap.size ≤ x.block) ∧ Frm (fun x o => x = lb ∨ RowF ao cap x o) w w2 ∧ w' = w2.setCell ⟨p, 2, none⟩ (.int .i64 fl)

theorem run_slice_head (W : World) (t e : TypeId) (i : TypeInfo) (ht : Try.prog.underlying t = some (.slice e)) (hi : Try.prog.info? e = some i) (xb off n cap k : Nat) (hk : k ≤ cap) :
    (Instr.slice t (.slice (some ⟨xb, off, none⟩) n cap) none (some (.int .i64 (k : Int))) (some (.int .i64 (k : Int)))).run Try.prog W = .ok (.slice (some ⟨xb, off, none⟩) k k) W := by
  have h1 : (0 : Int) ≤ (k : Int) ∧ (k : Int) ≤ (cap : Int) := by omega
  have h2 : (0 : Int) ≤ (k : Int) ∧ (k : Int) ≤ (k : Int) := by omega
  simp [Instr.slice, Instr.sliceBounds, Instr.sliceBound, run_underlying ht, sizeOf, typeInfo, hi, asIntOf, h1, h2, Addr.add_lit]
  intro h; omega

theorem run_slice_tail (W : World) (t e : TypeId) (i : TypeInfo) (ht : Try.prog.underlying t = some (.slice e)) (hi : Try.prog.info? e = some i) (xb off n cap k : Nat) (hk : k ≤ n) :
    (Instr.slice t (.slice (some ⟨xb, off, none⟩) n cap) (some (.int .i64 (k : Int))) none none).run Try.prog W = .ok (.slice (some ⟨xb, off + (if cap = k then 0 else k * i.size), none⟩) (n - k) (cap - k)) W := by
  have h1 : (0 : Int) ≤ (k : Int) ∧ (k : Int) ≤ (n : Int) := by omega
  by_cases hc : cap = k
  · simp [Instr.slice, Instr.sliceBounds, Instr.sliceBound, run_underlying ht, sizeOf, typeInfo, hi, asIntOf, h1, Addr.add_lit, hc]
    intro h; omega
  · simp [Instr.slice, Instr.sliceBounds, Instr.sliceBound, run_underlying ht, sizeOf, typeInfo, hi, asIntOf, h1, Addr.add_lit, hc]
    intro h; omega

set_option maxRecDepth 100000 in
set_option maxHeartbeats 800000 in
theorem drop_walk (p mb lb : Nat) (len mcap : Nat) (a b fl : Int) (s : ByteArray) (xb off : Nat) (n cap : Nat) (i : Nat) (xs : List Value) (M : Value → Option Value) (w : World) (hlen : len ≤ 64)
    (hc1 : w.cell? ⟨p, 1, none⟩ = some (.slice (some ⟨mb, 0, none⟩) len mcap)) (h1 : 1 ≤ a) (h2 : a ≤ len) (h3 : 1 ≤ b) (h4 : b ≤ len)
    (hc0 : w.cell? ⟨p, 0, none⟩ = some (.map (some lb))) (hc2 : w.cell? ⟨p, 2, none⟩ = some (.int .i64 fl)) (hf2 : w.frozen? ⟨p, 2, none⟩ = false) (hep : elemAt w p = some 46)
    (hfl0 : 1 ≤ fl) (hfl : fl < 16384) (hM : MapAt Try.prog 51 w lb M) (hold : (M (key a b)).getD nilS = .slice (some ⟨xb, off, none⟩) n cap) (hrow : Row w 9 1 (some ⟨xb, off, none⟩) n cap xs) (hn : n ≤ 1000)
    (hi : i < n) (hs : xs[i]? = some (.string s)) (hones : ∀ u ∈ xs, u.oneCell' = true) :
    Calls Try.prog 16 #[.pointer (some ⟨p, 0, none⟩), .int .i64 a, .int .i64 b, .int .i64 (i : Int)] w (DropPost w p lb M a b (some ⟨xb, off, none⟩) n cap xs i (fl - 1)) := by
  obtain ⟨i0, hi0, hz0, hz1, hz2⟩ := info_parts Try.info9
  obtain ⟨kl, hkey⟩ := keyOf_key (wf_small h1 (by omega)) (wf_small h3 (by omega))
  have hncap := hrow.1
  have hxl : xs.length = n := by have := hrow.2.1; omega
  have hpl : p < w.heap.size := World.block_lt_of_cell? w _ hc0
  have hlb := hM.lt
  have hpne : p ≠ lb := fun e => by rw [e, hM.elem] at hep; cases hep
  have fA : Frm (fun _ _ => False) w (w.alloc (.cells #[.int .i64 a, .int .i64 b] 51)).drew := ((Frm.refl _ w).alloc _).drew
  have hlook : ∀ W : World, Frm (fun _ _ => False) w W → (Instr.lookup 43 (.map (some lb)) (.agg #[.int .i64 a, .int .i64 b]) false).run Try.prog W = .ok (.slice (some ⟨xb, off, none⟩) n cap) W := by
    intro W hW
    have := run_lookup_at (hM.of_heap (hW.blk _ hM.lt (fun _ h => h))) Try.keyed51 Try.underlying43 (zero52 W) hkey
    rw [show (Value.slice none 0 0) = nilS from rfl, hold] at this
    exact this
  have hlA := hlook _ fA
  have hl0 := hlook w (Frm.refl _ _)
  have hcs : w.cell? ⟨xb, off + ((i : Int)).toNat, none⟩ = some (.string s) := by simpa using hrow.cell hs
  have hxb := ((hrow.2.2.2 _ rfl).2.1 (by omega)).1
  have hi1 : (0 : Int) ≤ (i : Int) := by omega
  have hi2 : (i : Int) < (n : Int) := by omega
  have hi3 : (i : Int) ≤ (cap : Int) := by omega
  have hi4 : (i : Int) + 1 ≤ (n : Int) := by omega
  have hi5 : (0 : Int) ≤ (i : Int) + 1 := by omega
  -- the two slices, as rows
  have hl1 : (xs.take i).length = i * 1 := by rw [List.length_take]; omega
  have hl2 : (xs.drop (i + 1)).length = (n - (i + 1)) * 1 := by rw [List.length_drop]; omega
  have row1 : Row (w.alloc (.cells #[.int .i64 a, .int .i64 b] 51)).drew 9 1 (some ⟨xb, off, none⟩) i i (xs.take i) := by
    have hr := hrow.kept fA (fun _ _ _ _ _ _ h => h)
    refine ⟨Nat.le_refl _, hl1, (fun h => by cases h), fun y hy => ?_⟩
    obtain ⟨g1, g2, g3⟩ := hr.2.2.2 y hy
    refine ⟨g1, fun _ => g2 (by omega), fun j u hj => g3 j u ?_⟩
    rw [List.getElem?_take] at hj
    split at hj
    · exact hj
    · cases hj
  have hnews : ∀ d, (n - (i + 1) ≠ 0 → d = i + 1) → ∀ y, some (⟨xb, off + d, none⟩ : Addr) = some y → ∀ j u, (xs.drop (i + 1))[j]? = some u → (w.alloc (.cells #[.int .i64 a, .int .i64 b] 51)).drew.cell? (y.add j) = some u := by
    intro d hd y hy j u hj
    obtain rfl := Option.some.inj hy
    have hr := hrow.kept fA (fun _ _ _ _ _ _ h => h)
    have hjl := (List.getElem?_eq_some_iff.1 hj).1
    rw [hl2] at hjl
    rw [List.getElem?_drop] at hj
    rw [Addr.add_lit, hd (by omega)]
    have := hr.cell hj
    rw [show off + (i + 1) + j = off + (i + 1 + j) by omega]
    exact this
  have hnews1 := hnews (i + 1) (fun _ => rfl)
  clear hnews
  have hone : ∀ u ∈ xs.drop (i + 1), u.oneCell' = true := fun u hu => hones u (List.mem_of_mem_drop hu)
  have hmax : i + (n - (i + 1)) ≤ maxLen := by simp only [maxLen]; omega
  have hbyt : (i + (n - (i + 1))) * 16 ≤ 140737488355328 := by omega
  have he : xs.take i ++ xs.drop (i + 1) = xs.eraseIdx i := (List.eraseIdx_eq_take_drop_succ xs i).symm
  have hlen2 : i + (n - (i + 1)) = n - 1 := by omega
  have nofp : ∀ o, ¬ RowF (some ⟨xb, off, none⟩) cap p o := by
    rintro o ⟨y, hy, hc, e⟩
    have h := ((hrow.2.2.2 _ hy).2.1 hc).2
    rw [← e, hep] at h; cases h
  have nofl : ∀ o, ¬ RowF (some ⟨xb, off, none⟩) cap lb o := by
    rintro o ⟨y, hy, hc, e⟩
    have h := ((hrow.2.2.2 _ hy).2.1 hc).2
    rw [← e, hM.elem] at h; cases h
  have nofz : ∀ o, ¬ RowF (some ⟨xb, off, none⟩) cap w.heap.size o := by
    rintro o ⟨y, hy, hc, e⟩
    have h := ((hrow.2.2.2 _ hy).2.1 hc).1
    omega
  have after : ∀ (m' : Nat) (_ : m' = n - 1) (ao' : Option Addr) (cap' : Nat) (w2 : World), Frm (RowF (some ⟨xb, off, none⟩) cap) (w.alloc (.cells #[.int .i64 a, .int .i64 b] 51)).drew w2 →
      ∃ w3, (Instr.mapUpdate 43 (.map (some lb)) (.agg #[.int .i64 a, .int .i64 b]) (.slice ao' m' cap')).run Try.prog w2 = .ok () w3 ∧ (MapAt Try.prog 51 w3 lb (putM M (key a b) (.slice ao' (n - 1) cap')) ∧ Frm (fun x _ => x = lb) w2 w3) ∧
        w2.cell? ⟨p, 0, none⟩ = some (.map (some lb)) ∧ w2.cell? ⟨w.heap.size, 0, none⟩ = some (.int .i64 a) ∧ w2.cell? ⟨w.heap.size, 1, none⟩ = some (.int .i64 b) ∧
        w3.cell? ⟨p, 0, none⟩ = some (.map (some lb)) ∧ w3.cell? ⟨w.heap.size, 0, none⟩ = some (.int .i64 a) ∧ w3.cell? ⟨w.heap.size, 1, none⟩ = some (.int .i64 b) ∧ w3.cell? ⟨p, 2, none⟩ = some (.int .i64 fl) ∧ w3.frozen? ⟨p, 2, none⟩ = false := by
    intro m' hm' ao' cap' w2 frm2
    have hmap2 : MapAt Try.prog 51 w2 lb M := hM.of_heap ((frm2.blk _ (by simp; omega) nofl).trans (fA.blk _ hlb (fun _ h => h)))
    obtain ⟨w3, run3, map3, frm3, sz3⟩ := run_mapUpdate_at hmap2 Try.keyed51 Try.underlying43 (val := .slice ao' m' cap') hkey
    rw [hm'] at map3
    have frm3' := frm3 (fun x _ => x = lb) (fun _ => rfl)
    have s2 := frm2.size
    simp at s2
    have c20 : w2.cell? ⟨p, 0, none⟩ = some (.map (some lb)) := (frm2.cel _ _ (by simp; omega) (nofp _)).trans ((fA.cel _ _ hpl (fun h => h)).trans hc0)
    have c21 : w2.cell? ⟨w.heap.size, 0, none⟩ = some (.int .i64 a) := (frm2.cel _ _ (by simp) (nofz _)).trans (by simp [World.cell?_alloc_at])
    have c22 : w2.cell? ⟨w.heap.size, 1, none⟩ = some (.int .i64 b) := (frm2.cel _ _ (by simp) (nofz _)).trans (by simp [World.cell?_alloc_at])
    refine ⟨w3, run3, ⟨map3, frm3'⟩, c20, c21, c22, (frm3'.cel _ _ (by omega) hpne).trans c20, (frm3'.cel _ _ (by omega) (by omega)).trans c21, (frm3'.cel _ _ (by omega) (by omega)).trans c22, ?_, ?_⟩
    · rw [frm3'.cel _ _ (by omega) hpne, frm2.cel _ _ (by simp; omega) (nofp _), fA.cel _ _ hpl (fun h => h)]; exact hc2
    · rw [frm3'.frz _ _ (by omega), frm2.frz _ _ (by simp; omega), fA.frz _ _ hpl]; exact hf2
  have Hafter := Lib.hid after; clear after
  have Hold := Lib.hid hold; clear hold
  have Hkey := Lib.hid hkey; clear hkey
  have Hnofp := Lib.hid nofp; clear nofp
  have Hnofl := Lib.hid nofl; clear nofl
  have Hnofz := Lib.hid nofz; clear nofz
  have Hl1 := Lib.hid hl1; clear hl1
  have Hxl := Lib.hid hxl; clear hxl
  have He := Lib.hid he; clear he
  have Hlen2 := Lib.hid hlen2; clear hlen2
  have Hi := Lib.hid hi
  have Hlook := Lib.hid hlook; clear hlook
  by_cases hcap : cap = i + 1
  · subst hcap
    obtain rfl : n = i + 1 := by omega
    obtain ⟨w3, run3, both3, c20, c21, c22, c30, c31, c32, c3p, f3p⟩ := Hafter.out i (by omega) (some ⟨xb, off, none⟩) i _ (Frm.refl _ _)
    go_enter Try.func16, Try.ntmps16
    go_wp2_with fail
    refine (peek_ok _ _ _ _ _ _ _ _ _ _ _ _ s _ hlen hc1 h1 h2 h3 h4 hc0 hl0 hi1 hi2 hcs).mono ?_; rintro e w' ⟨rfl, rfl⟩
    go_wp2_with fail
    have hw1 : IntKind.i64.wrap ((i : Int) + 1) = (i : Int) + 1 := IntWalk.i64_in _ (by omega)
    have hle1 : (i : Int) ≤ (i : Int) + 1 := by have := Hi.out; clear hw1; omega
    go_region_held3 (fun W => W.cell? ⟨p, 0, none⟩ = some (.map (some lb)) ∧ W.cell? ⟨w.heap.size, 0, none⟩ = some (.int .i64 a) ∧ W.cell? ⟨w.heap.size, 1, none⟩ = some (.int .i64 b))
      (first | go_keep)
      (fail)
    all_goals go_wp2_with fail
    all_goals go_ret
    all_goals
      clear hw1 hle1
      have he' : xs.eraseIdx i = xs.take i := by
        rw [← He.out, List.drop_eq_nil_of_le (by have := Hxl.out; omega), List.append_nil]
      refine ⟨rfl, some ⟨xb, off, none⟩, i, w3, both3.1, ?_, ?_, ?_, ?_, rfl⟩
      · rw [he']
        exact row_after row1 both3.1 (by simp; omega) both3.2
      · exact spare_after row1 both3.1 (by simp; omega) both3.2 (fun y hy j g1 g2 => by omega)
      · intro x hx hc
        exact Or.inl ⟨⟨xb, off, none⟩, rfl, by omega, by obtain rfl := Option.some.inj hx; rfl⟩
      · exact (fA.mono (fun _ _ _ h => h.elim)).trans both3.2 (fun _ _ _ h => Or.inl h)

  · 
    go_enter Try.func16, Try.ntmps16
    go_wp2_with fail
    refine (peek_ok _ _ _ _ _ _ _ _ _ _ _ _ s _ hlen hc1 h1 h2 h3 h4 hc0 hl0 hi1 hi2 hcs).mono ?_; rintro e w' ⟨rfl, rfl⟩
    go_wp2_with fail
    have hw1 : IntKind.i64.wrap ((i : Int) + 1) = (i : Int) + 1 := IntWalk.i64_in _ (by omega)
    have hle1 : (i : Int) ≤ (i : Int) + 1 := by have := Hi.out; clear hw1; omega
    go_region_held3 (fun W => W.cell? ⟨p, 0, none⟩ = some (.map (some lb)) ∧ W.cell? ⟨w.heap.size, 0, none⟩ = some (.int .i64 a) ∧ W.cell? ⟨w.heap.size, 1, none⟩ = some (.int .i64 b))
      (first | go_keep)
      ((refine step_app (by rfl) _ _ 52 (by rfl) (RowF (some ⟨xb, off, none⟩) cap) 9 i0 _ 1 16 Try.underlying52 hi0 hz0 hz1 hz2 rfl (by decide) (bo := some ⟨xb, off + (i + 1), none⟩) (m := n - (i + 1)) (c := cap - (i + 1)) (news := xs.drop (i + 1)) ?_ ?_ row1 (Spare.full _ _ _ _ _) hl2 (fun h => by cases h) hnews1 hone hmax hbyt ?_;
        rfl; rfl; intro ao' cap' w2 row2 frm2 loc2; obtain ⟨w3, run3, both3, c20, c21, c22, c30, c31, c32, c3p, f3p⟩ := Hafter.out _ Hlen2.out ao' cap' w2 frm2))
    all_goals go_wp2_with fail
    all_goals go_ret
    all_goals
      clear hw1 hle1
      have s2 := frm2.size
      simp at s2
      rw [He.out, Hlen2.out] at row2
      refine ⟨rfl, ao', cap', w3, both3.1, ?_, ?_, ?_, ?_, rfl⟩
      · exact row_after row2 both3.1 (by omega) both3.2
      · refine spare_after row2 both3.1 (by omega) both3.2 (fun y hy j g1 g2 => ?_)
        rcases loc2 with ⟨_, _, _, sp2⟩ | ⟨e, _, hnew⟩
        · rw [Hlen2.out] at sp2
          obtain ⟨k1, k2, _⟩ := sp2 y hy j g1 g2; exact ⟨k1, k2⟩
        · rw [hy] at e; obtain rfl := Option.some.inj e
          obtain ⟨k1, k2⟩ := hnew j g2
          simp only [Nat.zero_add]; exact ⟨k1, k2⟩
      · intro x hx hc
        rcases loc2 with ⟨e, ec, _⟩ | ⟨e, _⟩
        · rw [hx] at e; obtain rfl := Option.some.inj e
          exact Or.inl ⟨⟨xb, off, none⟩, rfl, by omega, rfl⟩
        · rw [hx] at e; obtain rfl := Option.some.inj e
          exact Or.inr (by simp)
      · have g1 : Frm (fun x o => x = lb ∨ RowF (some ⟨xb, off, none⟩) cap x o) w (w.alloc (.cells #[.int .i64 a, .int .i64 b] 51)).drew := fA.mono (fun _ _ _ h => h.elim)
        exact (g1.trans frm2 (fun _ _ _ h => Or.inr h)).trans both3.2 (fun _ _ _ h => Or.inl h)


end Go.Proofs.Ytcjcccmlpilbbaa
