/- Without: lemmas on the way to the law (no condition of their own beyond what each states). -/
import Derived.Test.YtcjcccmlpilbbaaW55
import Derived.Test.YtcjcccmlpilbbaaReg
namespace Go.Proofs.Ytcjcccmlpilbbaa
open Go.RowKit Go.K55 Go.Maps
set_option linter.unusedVariables false
set_option linter.unusedSimpArgs false

/-- The cells behind a row's length. -/
def Lof (ao : Option Addr) (n cap : Nat) : Nat → Nat → Prop := fun b o => ∃ ob, ao = some ⟨b, ob, none⟩ ∧ ob + n * 3 ≤ o ∧ o < ob + cap * 3

structure W55G (w : World) (q : Nat) (S : NS) (ao : Option Addr) (cap : Nat) : Prop where
  st : W55 w q S ao cap
  sp : Spare (fun _ _ => True) w 3 ao S.msgs.length cap

/-- What the store to the field leaves, when the messages lie anew. -/
theorem W55.renew {w w2 : World} {q : Nat} {S S' : NS} {ao ao' : Option Addr} {cap cap' : Nat} (h : W55 w q S ao cap) {F : Nat → Nat → Prop} (hf : Frm F w w2) (hF : ∀ o, ¬ F q o)
    (hrow : Row w2 60 3 ao' S'.msgs.length cap' (pkts S'.msgs)) (hsp : Spare (fun _ _ => True) w2 3 ao' S'.msgs.length cap') (h1 : S'.nodes = S.nodes) (h2 : S'.side = S.side) (h3 : S'.ticks = S.ticks) (h4 : S'.draws = S.draws) :
    W55G (w2.setCell ⟨q, 1, none⟩ (.slice ao' S'.msgs.length cap')) q S' ao' cap' := by
  have hlt := h.lt
  have k2 : ∀ x o, ¬ (x = q ∧ o = 1) → (w2.setCell ⟨q, 1, none⟩ (.slice ao' S'.msgs.length cap')).cell? ⟨x, o, none⟩ = w2.cell? ⟨x, o, none⟩ := fun x o hne => World.cell?_setCell_other _ _ _ _ (fun e => hne (by cases e; exact ⟨rfl, rfl⟩))
  have hq2 : elemAt w2 q = some 39 := (hf.elm _ hlt).trans h.eq
  have hne : ∀ x, ao' = some x → 0 < cap' → x.block ≠ q := fun x hx hc e => by
    have := ((hrow.2.2.2 _ hx).2.1 hc).2; rw [e, hq2] at this; cases this
  refine ⟨{ c0 := ?_, c1 := ?_, row := ?_, sd := ?_, tk := ?_, dr := ?_, fz := ?_, eq := ?_ }, ?_⟩
  · rw [k2 _ _ (by simp), h1]; exact (hf.cel _ _ hlt (hF _)).trans h.c0
  · obtain ⟨u, hu⟩ : ∃ u, w2.cell? ⟨q, 1, none⟩ = some u := ⟨_, (hf.cel _ _ hlt (hF _)).trans h.c1⟩
    exact World.cell?_setCell_same _ _ _ hu
  · exact hrow.kept (F := fun x o => x = q ∧ o = 1) (Frm.setCell1 _ _ (Or.inl ⟨rfl, rfl⟩)) (fun x o hx hc j _ e => hne _ hx hc e.1)
  · intro i hi; rw [k2 _ _ (by omega), h2]; exact (hf.cel _ _ hlt (hF _)).trans (h.sd i hi)
  · intro i hi; rw [k2 _ _ (by omega), h3]; exact (hf.cel _ _ hlt (hF _)).trans (h.tk i hi)
  · intro i hi; rw [k2 _ _ (by omega), h4]; exact (hf.cel _ _ hlt (hF _)).trans (h.dr i hi)
  · intro o; rw [World.frozen?_setCell]; exact (hf.frz _ _ hlt).trans (h.fz o)
  · rw [elemAt_setCell]; exact hq2
  · intro y hy j j1 j2
    have hc : 0 < cap' := by rcases Nat.eq_zero_or_pos cap' with h0 | h0; subst h0; omega; exact h0
    obtain ⟨k1, k2', k3⟩ := hsp y hy j j1 j2
    rw [k2 _ _ (fun e => hne y hy hc e.1), World.frozen?_setCell]
    exact ⟨k1, k2', k3⟩

theorem Try.info60 : (Try.prog.info? 60).map (fun i => (i.zero, i.size, i.bytes)) = some (some (.agg #[.int .i64 0, .int .i64 0, .string ⟨#[]⟩]), 3, 32) := by kernel_rfl

theorem pkts_take (l : List Msg) (k : Nat) : (pkts l).take (k * 3) = pkts (l.take k) := by
  induction l generalizing k with
  | nil => simp [pkts]
  | cons m r ih =>
    cases k with
    | zero => simp [pkts]
    | succ k => rw [pkts_cons, show (k + 1) * 3 = k * 3 + 1 + 1 + 1 by omega]; simp [ih, pkts_cons]
theorem pkts_drop (l : List Msg) (k : Nat) : (pkts l).drop (k * 3) = pkts (l.drop k) := by
  induction l generalizing k with
  | nil => simp [pkts]
  | cons m r ih =>
    cases k with
    | zero => simp [pkts]
    | succ k => rw [pkts_cons, show (k + 1) * 3 = k * 3 + 1 + 1 + 1 by omega]; simp [ih]

theorem spare_of_loc {B sz m : Nat} {w w' : World} {ao ao' : Option Addr} {cap cap' n : Nat} {F : Nat → Nat → Prop} (hB : B ≤ w.heap.size) (hF : ∀ b o, F b o → B ≤ b)
    (loc : (ao' = ao ∧ cap' = cap ∧ n ≤ cap ∧ Spare F w' sz ao' m cap') ∨ (ao' = some ⟨w.heap.size, 0, none⟩ ∧ w.heap.size < w'.heap.size ∧ ∀ j, j < cap' * sz → (w'.cell? ⟨w.heap.size, j, none⟩).isSome = true ∧ w'.frozen? ⟨w.heap.size, j, none⟩ = false)) :
    Spare (fun b _ => B ≤ b) w' sz ao' m cap' := by
  rcases loc with ⟨_, _, _, sp⟩ | ⟨rfl, _, hnew⟩
  · exact sp.mono hF
  · intro y hy j g1 g2
    obtain rfl := Option.some.inj hy
    obtain ⟨k1, k2⟩ := hnew j g2
    simp only [Nat.zero_add]
    exact ⟨k1, k2, hB⟩

/-- What the two appends leave. -/
def WithoutPost (w : World) (q : Nat) (n : Nat) (ys : List Value) (e : Ending) (w' : World) : Prop :=
  e = .returned (.tuple #[]) ∧ ∃ ao' cap' w2 m, Row w2 60 3 ao' (n - 1) cap' ys ∧ Spare (fun _ _ => True) w2 3 ao' (n - 1) cap' ∧ Frm (fun _ _ => False) w w2 ∧ (∀ y, ao' = some y → 0 < cap' → w.heap.size ≤ y.block) ∧ w' = (w2.setCell ⟨q, 1, none⟩ (.slice ao' (n - 1) cap')).drewN m

set_option maxRecDepth 100000 in
set_option maxHeartbeats 1000000 in
theorem without_walk (q B : Nat) (n : Nat) (xb off cap k : Nat) (xs : List Value) (w : World) (hB : w.cell? ⟨B, 0, none⟩ = some (.pointer (some ⟨q, 0, none⟩))) (c1 : w.cell? ⟨q, 1, none⟩ = some (.slice (some ⟨xb, off, none⟩) n cap)) (f1 : w.frozen? ⟨q, 1, none⟩ = false)
    (hrow : Row w 60 3 (some ⟨xb, off, none⟩) n cap xs) (hones : ∀ u ∈ xs, u.oneCell' = true) (hn : n ≤ 900) (hk : k < n) :
    Calls Try.prog 12 #[.int .i64 (k : Int), .pointer (some ⟨B, 0, none⟩)] w (WithoutPost w q n (xs.take (k * 3) ++ xs.drop ((k + 1) * 3))) := by
  obtain ⟨i0, hi0, hz0, hz1, hz2⟩ := info_parts Try.info60
  have hncap := hrow.1
  have hxl : xs.length = n * 3 := hrow.2.1
  have hBlt : B < w.heap.size := World.block_lt_of_cell? w _ hB
  have hqlt : q < w.heap.size := World.block_lt_of_cell? w _ c1
  have hBn : ¬ w.heap.size ≤ B := by omega
  have hqn : ¬ w.heap.size ≤ q := by omega
  have fA : Frm (fun _ _ => False) w (w.alloc (.cells #[] 60)).drew := ((Frm.refl _ w).alloc _).drew
  have rA := hrow.kept fA (fun _ _ _ _ _ _ h => h)
  have row0 : Row (w.alloc (.cells #[] 60)).drew 60 3 (some ⟨w.heap.size, 0, none⟩) 0 0 [] := ⟨Nat.le_refl _, rfl, (fun h => by cases h), fun y hy => by obtain rfl := Option.some.inj hy; exact ⟨rfl, (fun h => by omega), fun j u hj => by simp at hj⟩⟩
  have hl1 : (xs.take (k * 3)).length = k * 3 := by rw [List.length_take]; omega
  have hl2 : (xs.drop ((k + 1) * 3)).length = (n - (k + 1)) * 3 := by rw [List.length_drop]; omega
  have news1 : ∀ y, some (⟨xb, off, none⟩ : Addr) = some y → ∀ j u, (xs.take (k * 3))[j]? = some u → (w.alloc (.cells #[] 60)).drew.cell? (y.add j) = some u := by
    intro y hy j u hj
    obtain rfl := Option.some.inj hy
    rw [List.getElem?_take] at hj
    split at hj
    · rw [Addr.add_lit]; exact rA.cell hj
    · cases hj
  have hone1 : ∀ u ∈ xs.take (k * 3), u.oneCell' = true := fun u hu => hones u (List.mem_of_mem_take hu)
  have hone2 : ∀ u ∈ xs.drop ((k + 1) * 3), u.oneCell' = true := fun u hu => hones u (List.mem_of_mem_drop hu)
  have hmax1 : 0 + k ≤ maxLen := by simp only [maxLen]; omega
  have hbyt1 : (0 + k) * 32 ≤ 140737488355328 := by omega
  have hmax2 : k + (n - (k + 1)) ≤ maxLen := by simp only [maxLen]; omega
  have hbyt2 : (k + (n - (k + 1))) * 32 ≤ 140737488355328 := by omega
  have cB0 : (w.alloc (.cells #[] 60)).drew.cell? ⟨B, 0, none⟩ = some (.pointer (some ⟨q, 0, none⟩)) := (fA.cel _ _ hBlt (fun h => h)).trans hB
  have cq0 : (w.alloc (.cells #[] 60)).drew.cell? ⟨q, 1, none⟩ = some (.slice (some ⟨xb, off, none⟩) n cap) := (fA.cel _ _ hqlt (fun h => h)).trans c1
  have keep : ∀ w2, Frm (fun _ _ => False) (w.alloc (.cells #[] 60)).drew w2 → w2.cell? ⟨B, 0, none⟩ = some (.pointer (some ⟨q, 0, none⟩)) ∧ w2.cell? ⟨q, 1, none⟩ = some (.slice (some ⟨xb, off, none⟩) n cap) ∧ w2.frozen? ⟨q, 1, none⟩ = false ∧
      (∀ d, (n - (k + 1) ≠ 0 → d = (k + 1) * 3) → ∀ y, some (⟨xb, off + d, none⟩ : Addr) = some y → ∀ j u, (xs.drop ((k + 1) * 3))[j]? = some u → w2.cell? (y.add j) = some u) := by
    intro w2 f2
    refine ⟨(f2.cel _ _ (by simp; omega) (fun h => h)).trans cB0, (f2.cel _ _ (by simp; omega) (fun h => h)).trans cq0, (f2.frz _ _ (by simp; omega)).trans ((fA.frz _ _ hqlt).trans f1), ?_⟩
    intro d hd y hy j u hj
    obtain rfl := Option.some.inj hy
    have hjl := (List.getElem?_eq_some_iff.1 hj).1
    rw [hl2] at hjl
    rw [List.getElem?_drop] at hj
    rw [Addr.add_lit, hd (by omega)]
    have := (rA.kept f2 (fun _ _ _ _ _ _ h => h)).cell hj
    rw [show off + (k + 1) * 3 + j = off + ((k + 1) * 3 + j) by omega]
    exact this
  have Keep := Lib.hid keep; clear keep
  have Hl1 := Lib.hid hl1; clear hl1
  have Hl2 := Lib.hid hl2; clear hl2
  have Hxl := Lib.hid hxl; clear hxl
  have hk0 : (0 : Int) ≤ (k : Int) := by omega
  have hk1 : (k : Int) < (n : Int) := by omega
  have hk2 : (k : Int) ≤ (cap : Int) := by omega
  have hk3 : (k : Int) + 1 ≤ (n : Int) := by omega
  have hk4 : (0 : Int) ≤ (k : Int) + 1 := by omega
  by_cases hcap : cap = k + 1
  · skip
    obtain rfl : n = k + 1 := by omega
    have hcap' := hcap; clear hcap; subst hcap'
    have hmax0 : k + 0 ≤ maxLen := by simp only [maxLen]; omega
    have hbyt0 : (k + 0) * 32 ≤ 140737488355328 := by omega
    have hk5 : (k : Int) ≤ (k : Int) + 1 := by omega
    go_enter Try.func12, Try.ntmps12
    have hw1 : IntKind.i64.wrap ((k : Int) + 1) = (k : Int) + 1 := IntWalk.i64_in _ (by omega)
    go_wp2_with fail
    refine wp_region_noPanic ?_
    refine wp_region_L (fun W => W.cell? ⟨B, 0, none⟩ = some (.pointer (some ⟨q, 0, none⟩)) ∧ W.cell? ⟨q, 1, none⟩ = some (.slice (some ⟨xb, off, none⟩) (k + 1) (k + 1))) 19 (by kernel_rfl) ?_ (fun hHeld => ?_)
    · exact ⟨(by simpa using hB), (by simpa using c1)⟩
    refine wpAnyL_take (i := 0) (v := ?_) rfl (by kernel_rfl) (by kernel_rfl) (by kernel_rfl) (by kernel_rfl) (fun _ _ _ h => h) (Or.inl ⟨by rfl, ?_⟩) hHeld ?_
    rotate_left
    · ((intro wS hSw; (try dsimp only at hSw); go_simp) <;> with_reducible rfl)
    try simp only [Act.put, List.setIfInBounds_toArray, List.set_cons_zero, List.set_cons_succ]
    refine wpAnyL_take (i := 2) (v := ?_) rfl (by kernel_rfl) (by kernel_rfl) (by kernel_rfl) (by kernel_rfl) (fun _ _ _ h => h) (Or.inl ⟨by rfl, ?_⟩) hHeld ?_
    rotate_left
    · ((intro wS hSw; (try dsimp only at hSw); go_simp) <;> with_reducible rfl)
    try simp only [Act.put, List.setIfInBounds_toArray, List.set_cons_zero, List.set_cons_succ]
    refine wpAnyL_take (i := 3) (v := ?_) rfl (by kernel_rfl) (by kernel_rfl) (by kernel_rfl) (by kernel_rfl) (fun _ _ _ h => h) (Or.inl ⟨by rfl, ?_⟩) hHeld ?_
    rotate_left
    · ((intro wS hSw; (try dsimp only at hSw); go_simp) <;> with_reducible rfl)
    try simp only [Act.put, List.setIfInBounds_toArray, List.set_cons_zero, List.set_cons_succ]
    refine wpAnyL_take (i := 4) (v := ?_) rfl (by kernel_rfl) (by kernel_rfl) (by kernel_rfl) (by kernel_rfl) (fun _ _ _ h => h) (Or.inl ⟨by rfl, ?_⟩) hHeld ?_
    rotate_left
    · ((intro wS hSw; (try dsimp only at hSw); go_simp) <;> with_reducible rfl)
    try simp only [Act.put, List.setIfInBounds_toArray, List.set_cons_zero, List.set_cons_succ]
    refine wpAnyL_take (i := 5) (v := ?_) rfl (by kernel_rfl) (by kernel_rfl) (by kernel_rfl) (by kernel_rfl) (fun _ _ _ h => h) (Or.inl ⟨by rfl, ?_⟩) hHeld ?_
    rotate_left
    · ((intro wS hSw; (try dsimp only at hSw); go_simp) <;> with_reducible rfl)
    try simp only [Act.put, List.setIfInBounds_toArray, List.set_cons_zero, List.set_cons_succ]
    refine wpAnyL_take (i := 6) (v := ?_) rfl (by kernel_rfl) (by kernel_rfl) (by kernel_rfl) (by kernel_rfl) (fun _ _ _ h => h) (Or.inl ⟨by rfl, ?_⟩) hHeld ?_
    rotate_left
    · ((intro wS hSw; (try dsimp only at hSw); go_simp) <;> with_reducible rfl)
    try simp only [Act.put, List.setIfInBounds_toArray, List.set_cons_zero, List.set_cons_succ]
    refine wpAnyL_take (i := 7) (v := ?_) rfl (by kernel_rfl) (by kernel_rfl) (by kernel_rfl) (by kernel_rfl) (fun _ _ _ h => h) (Or.inl ⟨by rfl, ?_⟩) hHeld ?_
    rotate_left
    · ((intro wS hSw; (try dsimp only at hSw); go_simp) <;> with_reducible rfl)
    try simp only [Act.put, List.setIfInBounds_toArray, List.set_cons_zero, List.set_cons_succ]
    refine wpAnyL_take (i := 9) (v := ?_) rfl (by kernel_rfl) (by kernel_rfl) (by kernel_rfl) (by kernel_rfl) (fun _ _ _ h => h) (Or.inl ⟨by rfl, ?_⟩) hHeld ?_
    rotate_left
    · ((intro wS hSw; (try dsimp only at hSw); go_simp) <;> with_reducible rfl)
    try simp only [Act.put, List.setIfInBounds_toArray, List.set_cons_zero, List.set_cons_succ]
    refine wpAnyL_take (i := 10) (v := ?_) rfl (by kernel_rfl) (by kernel_rfl) (by kernel_rfl) (by kernel_rfl) (fun _ _ _ h => h) (Or.inl ⟨by rfl, ?_⟩) hHeld ?_
    rotate_left
    · ((intro wS hSw; (try dsimp only at hSw); go_simp) <;> with_reducible rfl)
    try simp only [Act.put, List.setIfInBounds_toArray, List.set_cons_zero, List.set_cons_succ]
    refine wpAnyL_take (i := 11) (v := ?_) rfl (by kernel_rfl) (by kernel_rfl) (by kernel_rfl) (by kernel_rfl) (fun _ _ _ h => h) (Or.inl ⟨by rfl, ?_⟩) hHeld ?_
    rotate_left
    · ((intro wS hSw; (try dsimp only at hSw); go_simp) <;> with_reducible rfl)
    try simp only [Act.put, List.setIfInBounds_toArray, List.set_cons_zero, List.set_cons_succ]
    refine wpAnyL_take (i := 12) (v := ?_) rfl (by kernel_rfl) (by kernel_rfl) (by kernel_rfl) (by kernel_rfl) (fun _ _ _ h => h) (Or.inl ⟨by rfl, ?_⟩) hHeld ?_
    rotate_left
    · ((intro wS hSw; (try dsimp only at hSw); go_simp) <;> with_reducible rfl)
    try simp only [Act.put, List.setIfInBounds_toArray, List.set_cons_zero, List.set_cons_succ]
    refine wpAnyL_take (i := 13) (v := ?_) rfl (by kernel_rfl) (by kernel_rfl) (by kernel_rfl) (by kernel_rfl) (fun _ _ _ h => h) (Or.inl ⟨by rfl, ?_⟩) hHeld ?_
    rotate_left
    · ((intro wS hSw; (try dsimp only at hSw); go_simp) <;> with_reducible rfl)
    try simp only [Act.put, List.setIfInBounds_toArray, List.set_cons_zero, List.set_cons_succ]
    refine wpAnyL_take (i := 14) (v := ?_) rfl (by kernel_rfl) (by kernel_rfl) (by kernel_rfl) (by kernel_rfl) (fun _ _ _ h => h) (Or.inl ⟨by rfl, ?_⟩) hHeld ?_
    rotate_left
    · ((intro wS hSw; (try dsimp only at hSw); go_simp) <;> with_reducible rfl)
    try simp only [Act.put, List.setIfInBounds_toArray, List.set_cons_zero, List.set_cons_succ]
    refine wpAnyL_take (i := 15) (v := ?_) rfl (by kernel_rfl) (by kernel_rfl) (by kernel_rfl) (by kernel_rfl) (fun _ _ _ h => h) (Or.inl ⟨by rfl, ?_⟩) hHeld ?_
    rotate_left
    · ((intro wS hSw; (try dsimp only at hSw); go_simp) <;> with_reducible rfl)
    try simp only [Act.put, List.setIfInBounds_toArray, List.set_cons_zero, List.set_cons_succ]
    refine wpAnyL_one (i := 1) rfl (by kernel_rfl) (fun K hK => ?_)
    go_simp
    refine hK.out _ _ (fun _ => ?_) ?_
    · exact ⟨cB0, cq0⟩
    clear hK K
    refine wpAnyL_one (i := 8) rfl (by kernel_rfl) (fun K hK => ?_)
    refine step_app (by rfl) _ _ 34 (by rfl) (fun _ _ => False) 60 i0 _ 3 32 Try.underlying34 hi0 hz0 hz1 hz2 rfl (by decide) (bo := some ⟨xb, off, none⟩) (m := k) (c := k + 1) (news := xs.take (k * 3)) ?_ ?_ row0 (Spare.full _ _ _ _ _) Hl1.out (fun h => by cases h) news1 hone1 hmax1 hbyt1 ?_
    rfl
    rfl
    intro ao2 cap2 w2 row2 frm2 loc2
    obtain ⟨kB, kq, kf, kn⟩ := Keep.out w2 frm2
    simp only [Nat.zero_add, List.nil_append] at row2 loc2 ⊢
    have sp2 := spare_of_loc (B := w.heap.size) (by simp) (fun _ _ h => h.elim) loc2
    have Loc2 := Lib.hid loc2; clear loc2
    have Kn := Lib.hid kn; clear kn
    refine hK.out _ _ (fun _ => ?_) ?_
    · exact ⟨kB, kq⟩
    clear hK K
    refine wpAnyL_one (i := 16) rfl (by kernel_rfl) (fun K hK => ?_)
    refine step_app (by rfl) _ _ 34 (by rfl) (fun b _ => w.heap.size ≤ b) 60 i0 _ 3 32 Try.underlying34 hi0 hz0 hz1 hz2 rfl (by decide) (bo := some ⟨xb, off, none⟩) (m := 0) (c := 0) (news := []) ?_ ?_ row2 sp2 rfl (fun h => by cases h) (fun _ _ j u hj => by simp at hj) (fun u hu => by cases hu) hmax0 hbyt0 ?_
    rfl
    rfl
    intro ao3 cap3 w3 row3 frm3 loc3
    simp only [Nat.add_zero, List.append_nil] at row3 loc3 ⊢
    have kB3 := (frm3.cel B 0 (World.block_lt_of_cell? _ _ kB) hBn).trans kB
    have kq3 := (frm3.cel q 1 (World.block_lt_of_cell? _ _ kq) hqn).trans kq
    have kf3 := (frm3.frz q 1 (World.block_lt_of_cell? _ _ kq)).trans kf
    refine hK.out _ _ (fun _ => ?_) ?_
    · exact ⟨kB3, kq3⟩
    clear hK K
    refine wpAnyL_one (i := 17) rfl (by kernel_rfl) (fun K hK => ?_)
    go_simp
    refine hK.out _ _ (fun _ => ?_) ?_
    · exact ⟨kB3, kq3⟩
    clear hK K
    refine wpAnyL_one (i := 18) rfl (by kernel_rfl) (fun K hK => ?_)
    go_simp
    refine hK.out _ _ (fun _ => ?_) ?_
    · exact ⟨kB3, kq3⟩
    clear hK K
    refine wpAnyL_one (i := 19) rfl (by kernel_rfl) (fun K hK => ?_)
    go_simp
    refine hK.out _ _ (fun h => absurd rfl h) ?_
    clear hK K
    refine wpAnyL_done (by kernel_rfl) ?_ _
    refine NoPanic.normal ?_
    clear hw1
    go_wp2_with fail
    go_end0
    have hd : xs.drop ((k + 1) * 3) = [] := List.drop_eq_nil_of_le (by have := Hxl.out; omega)
    rw [hd, List.append_nil]
    refine ⟨rfl, ao3, cap3, w3, 0, row3, ?_, ?_, ?_, rfl⟩
    · exact (spare_of_loc (B := w.heap.size) (by have := frm2.size; simp at this; omega) (fun _ _ h => h) loc3).mono (fun _ _ _ => trivial)
    · exact ((fA.trans frm2 (fun _ _ _ h => h)).mono (G := fun _ _ => False) (fun _ _ _ h => h)).trans (G := fun b _ => w.heap.size ≤ b) frm3 (fun b o hb h => by omega)
    · intro y hy hc
      rcases loc3 with ⟨rfl, rfl, h3, _⟩ | ⟨e, _⟩
      · rcases Loc2.out with ⟨e2, e2', e2'', _⟩ | ⟨e2, _⟩
        · rw [e2] at hy; obtain rfl := Option.some.inj hy; exact Nat.le_refl _
        · rw [e2] at hy; obtain rfl := Option.some.inj hy; simp
      · rw [e] at hy; obtain rfl := Option.some.inj hy
        have := frm2.size; simp at this; simp only; omega
  · go_enter Try.func12, Try.ntmps12
    have hw1 : IntKind.i64.wrap ((k : Int) + 1) = (k : Int) + 1 := IntWalk.i64_in _ (by omega)
    go_wp2_with fail
    refine wp_region_noPanic ?_
    refine wp_region_L (fun W => W.cell? ⟨B, 0, none⟩ = some (.pointer (some ⟨q, 0, none⟩)) ∧ W.cell? ⟨q, 1, none⟩ = some (.slice (some ⟨xb, off, none⟩) n cap)) 19 (by kernel_rfl) ?_ (fun hHeld => ?_)
    · exact ⟨(by simpa using hB), (by simpa using c1)⟩
    refine wpAnyL_take (i := 0) (v := ?_) rfl (by kernel_rfl) (by kernel_rfl) (by kernel_rfl) (by kernel_rfl) (fun _ _ _ h => h) (Or.inl ⟨by rfl, ?_⟩) hHeld ?_
    rotate_left
    · ((intro wS hSw; (try dsimp only at hSw); go_simp) <;> with_reducible rfl)
    try simp only [Act.put, List.setIfInBounds_toArray, List.set_cons_zero, List.set_cons_succ]
    refine wpAnyL_take (i := 2) (v := ?_) rfl (by kernel_rfl) (by kernel_rfl) (by kernel_rfl) (by kernel_rfl) (fun _ _ _ h => h) (Or.inl ⟨by rfl, ?_⟩) hHeld ?_
    rotate_left
    · ((intro wS hSw; (try dsimp only at hSw); go_simp) <;> with_reducible rfl)
    try simp only [Act.put, List.setIfInBounds_toArray, List.set_cons_zero, List.set_cons_succ]
    refine wpAnyL_take (i := 3) (v := ?_) rfl (by kernel_rfl) (by kernel_rfl) (by kernel_rfl) (by kernel_rfl) (fun _ _ _ h => h) (Or.inl ⟨by rfl, ?_⟩) hHeld ?_
    rotate_left
    · ((intro wS hSw; (try dsimp only at hSw); go_simp) <;> with_reducible rfl)
    try simp only [Act.put, List.setIfInBounds_toArray, List.set_cons_zero, List.set_cons_succ]
    refine wpAnyL_take (i := 4) (v := ?_) rfl (by kernel_rfl) (by kernel_rfl) (by kernel_rfl) (by kernel_rfl) (fun _ _ _ h => h) (Or.inl ⟨by rfl, ?_⟩) hHeld ?_
    rotate_left
    · ((intro wS hSw; (try dsimp only at hSw); go_simp) <;> with_reducible rfl)
    try simp only [Act.put, List.setIfInBounds_toArray, List.set_cons_zero, List.set_cons_succ]
    refine wpAnyL_take (i := 5) (v := ?_) rfl (by kernel_rfl) (by kernel_rfl) (by kernel_rfl) (by kernel_rfl) (fun _ _ _ h => h) (Or.inl ⟨by rfl, ?_⟩) hHeld ?_
    rotate_left
    · ((intro wS hSw; (try dsimp only at hSw); go_simp) <;> with_reducible rfl)
    try simp only [Act.put, List.setIfInBounds_toArray, List.set_cons_zero, List.set_cons_succ]
    refine wpAnyL_take (i := 6) (v := ?_) rfl (by kernel_rfl) (by kernel_rfl) (by kernel_rfl) (by kernel_rfl) (fun _ _ _ h => h) (Or.inl ⟨by rfl, ?_⟩) hHeld ?_
    rotate_left
    · ((intro wS hSw; (try dsimp only at hSw); go_simp) <;> with_reducible rfl)
    try simp only [Act.put, List.setIfInBounds_toArray, List.set_cons_zero, List.set_cons_succ]
    refine wpAnyL_take (i := 7) (v := ?_) rfl (by kernel_rfl) (by kernel_rfl) (by kernel_rfl) (by kernel_rfl) (fun _ _ _ h => h) (Or.inl ⟨by rfl, ?_⟩) hHeld ?_
    rotate_left
    · ((intro wS hSw; (try dsimp only at hSw); go_simp) <;> with_reducible rfl)
    try simp only [Act.put, List.setIfInBounds_toArray, List.set_cons_zero, List.set_cons_succ]
    refine wpAnyL_take (i := 9) (v := ?_) rfl (by kernel_rfl) (by kernel_rfl) (by kernel_rfl) (by kernel_rfl) (fun _ _ _ h => h) (Or.inl ⟨by rfl, ?_⟩) hHeld ?_
    rotate_left
    · ((intro wS hSw; (try dsimp only at hSw); go_simp) <;> with_reducible rfl)
    try simp only [Act.put, List.setIfInBounds_toArray, List.set_cons_zero, List.set_cons_succ]
    refine wpAnyL_take (i := 10) (v := ?_) rfl (by kernel_rfl) (by kernel_rfl) (by kernel_rfl) (by kernel_rfl) (fun _ _ _ h => h) (Or.inl ⟨by rfl, ?_⟩) hHeld ?_
    rotate_left
    · ((intro wS hSw; (try dsimp only at hSw); go_simp) <;> with_reducible rfl)
    try simp only [Act.put, List.setIfInBounds_toArray, List.set_cons_zero, List.set_cons_succ]
    refine wpAnyL_take (i := 11) (v := ?_) rfl (by kernel_rfl) (by kernel_rfl) (by kernel_rfl) (by kernel_rfl) (fun _ _ _ h => h) (Or.inl ⟨by rfl, ?_⟩) hHeld ?_
    rotate_left
    · ((intro wS hSw; (try dsimp only at hSw); go_simp) <;> with_reducible rfl)
    try simp only [Act.put, List.setIfInBounds_toArray, List.set_cons_zero, List.set_cons_succ]
    refine wpAnyL_take (i := 12) (v := ?_) rfl (by kernel_rfl) (by kernel_rfl) (by kernel_rfl) (by kernel_rfl) (fun _ _ _ h => h) (Or.inl ⟨by rfl, ?_⟩) hHeld ?_
    rotate_left
    · ((intro wS hSw; (try dsimp only at hSw); go_simp) <;> with_reducible rfl)
    try simp only [Act.put, List.setIfInBounds_toArray, List.set_cons_zero, List.set_cons_succ]
    refine wpAnyL_take (i := 13) (v := ?_) rfl (by kernel_rfl) (by kernel_rfl) (by kernel_rfl) (by kernel_rfl) (fun _ _ _ h => h) (Or.inl ⟨by rfl, ?_⟩) hHeld ?_
    rotate_left
    · ((intro wS hSw; (try dsimp only at hSw); go_simp) <;> with_reducible rfl)
    try simp only [Act.put, List.setIfInBounds_toArray, List.set_cons_zero, List.set_cons_succ]
    refine wpAnyL_take (i := 14) (v := ?_) rfl (by kernel_rfl) (by kernel_rfl) (by kernel_rfl) (by kernel_rfl) (fun _ _ _ h => h) (Or.inl ⟨by rfl, ?_⟩) hHeld ?_
    rotate_left
    · ((intro wS hSw; (try dsimp only at hSw); go_simp) <;> with_reducible rfl)
    try simp only [Act.put, List.setIfInBounds_toArray, List.set_cons_zero, List.set_cons_succ]
    refine wpAnyL_take (i := 15) (v := ?_) rfl (by kernel_rfl) (by kernel_rfl) (by kernel_rfl) (by kernel_rfl) (fun _ _ _ h => h) (Or.inl ⟨by rfl, ?_⟩) hHeld ?_
    rotate_left
    · ((intro wS hSw; (try dsimp only at hSw); go_simp) <;> with_reducible rfl)
    try simp only [Act.put, List.setIfInBounds_toArray, List.set_cons_zero, List.set_cons_succ]
    refine wpAnyL_one (i := 1) rfl (by kernel_rfl) (fun K hK => ?_)
    go_simp
    refine hK.out _ _ (fun _ => ?_) ?_
    · exact ⟨cB0, cq0⟩
    clear hK K
    refine wpAnyL_one (i := 8) rfl (by kernel_rfl) (fun K hK => ?_)
    refine step_app (by rfl) _ _ 34 (by rfl) (fun _ _ => False) 60 i0 _ 3 32 Try.underlying34 hi0 hz0 hz1 hz2 rfl (by decide) (bo := some ⟨xb, off, none⟩) (m := k) (c := cap) (news := xs.take (k * 3)) ?_ ?_ row0 (Spare.full _ _ _ _ _) Hl1.out (fun h => by cases h) news1 hone1 hmax1 hbyt1 ?_
    rfl
    rfl
    intro ao2 cap2 w2 row2 frm2 loc2
    obtain ⟨kB, kq, kf, kn⟩ := Keep.out w2 frm2
    simp only [Nat.zero_add, List.nil_append] at row2 loc2 ⊢
    have sp2 := spare_of_loc (B := w.heap.size) (by simp) (fun _ _ h => h.elim) loc2
    have Loc2 := Lib.hid loc2; clear loc2
    have Kn := Lib.hid kn; clear kn
    refine hK.out _ _ (fun _ => ?_) ?_
    · exact ⟨kB, kq⟩
    clear hK K
    refine wpAnyL_one (i := 16) rfl (by kernel_rfl) (fun K hK => ?_)
    refine step_app (by rfl) _ _ 34 (by rfl) (fun b _ => w.heap.size ≤ b) 60 i0 _ 3 32 Try.underlying34 hi0 hz0 hz1 hz2 rfl (by decide) (bo := some ⟨xb, off + (k + 1) * 3, none⟩) (m := n - (k + 1)) (c := cap - (k + 1)) (news := xs.drop ((k + 1) * 3)) ?_ ?_ row2 sp2 Hl2.out (fun h => by cases h) (Kn.out _ (fun _ => rfl)) hone2 hmax2 hbyt2 ?_
    rfl
    rfl
    intro ao3 cap3 w3 row3 frm3 loc3
    have kB3 := (frm3.cel B 0 (World.block_lt_of_cell? _ _ kB) hBn).trans kB
    have kq3 := (frm3.cel q 1 (World.block_lt_of_cell? _ _ kq) hqn).trans kq
    have kf3 := (frm3.frz q 1 (World.block_lt_of_cell? _ _ kq)).trans kf
    refine hK.out _ _ (fun _ => ?_) ?_
    · exact ⟨kB3, kq3⟩
    clear hK K
    refine wpAnyL_one (i := 17) rfl (by kernel_rfl) (fun K hK => ?_)
    go_simp
    refine hK.out _ _ (fun _ => ?_) ?_
    · exact ⟨kB3, kq3⟩
    clear hK K
    refine wpAnyL_one (i := 18) rfl (by kernel_rfl) (fun K hK => ?_)
    go_simp
    refine hK.out _ _ (fun _ => ?_) ?_
    · exact ⟨kB3, kq3⟩
    clear hK K
    refine wpAnyL_one (i := 19) rfl (by kernel_rfl) (fun K hK => ?_)
    go_simp
    refine hK.out _ _ (fun h => absurd rfl h) ?_
    clear hK K
    refine wpAnyL_done (by kernel_rfl) ?_ _
    refine NoPanic.normal ?_
    clear hw1
    go_wp2_with fail
    go_end0
    have he : k + (n - (k + 1)) = n - 1 := by omega
    rw [he] at row3 loc3 ⊢
    refine ⟨rfl, ao3, cap3, w3, 0, row3, ?_, ?_, ?_, rfl⟩
    · exact (spare_of_loc (B := w.heap.size) (by have := frm2.size; simp at this; omega) (fun _ _ h => h) loc3).mono (fun _ _ _ => trivial)
    · exact ((fA.trans frm2 (fun _ _ _ h => h)).mono (G := fun _ _ => False) (fun _ _ _ h => h)).trans (G := fun b _ => w.heap.size ≤ b) frm3 (fun b o hb h => by omega)
    · intro y hy hc
      rcases loc3 with ⟨rfl, rfl, h3, _⟩ | ⟨e, _⟩
      · rcases Loc2.out with ⟨e2, e2', e2'', _⟩ | ⟨e2, _⟩
        · rw [e2] at hy; obtain rfl := Option.some.inj hy; exact Nat.le_refl _
        · rw [e2] at hy; obtain rfl := Option.some.inj hy; simp
      · rw [e] at hy; obtain rfl := Option.some.inj hy
        have := frm2.size; simp at this; simp only; omega

end Go.Proofs.Ytcjcccmlpilbbaa
