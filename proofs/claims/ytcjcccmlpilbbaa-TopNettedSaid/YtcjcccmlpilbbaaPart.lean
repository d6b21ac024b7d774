/- Part: lemmas on the way to the law (no condition of their own beyond what each states). -/
import Derived.Test.YtcjcccmlpilbbaaNet7
import Derived.IntWalk
namespace Go.Proofs.Ytcjcccmlpilbbaa
open Go.RowKit Go.K55 Go.Maps
set_option linter.unusedVariables false
set_option linter.unusedSimpArgs false

def ints (l : List Int) : List Value := l.map (Value.int .i64)
theorem ints_get {l : List Int} {j : Nat} (hj : j < l.length) : (ints l)[j]? = some (.int .i64 l[j]) := by simp [ints, hj]

theorem ret_bool {a b : Bool} (h : a = b) : Ending.returned (.bool a) = .returned (.bool b) := by rw [h]
theorem ret_int {k : IntKind} {a b : Int} (h : a = b) : Ending.returned (.int k a) = .returned (.int k b) := by rw [h]

/-- slices.Index over ints. -/
def IdxPost (xs : List Int) (v : Int) (w : World) (e : Ending) (w' : World) : Prop := ∃ r : Int, e = .returned (.int .i64 r) ∧ w = w' ∧ -1 ≤ r ∧ (0 ≤ r ↔ v ∈ xs) ∧ r < 1000

set_option maxHeartbeats 400000 in
theorem index_any (ao : Option Addr) (n cap : Nat) (xs : List Int) (v : Int) (w : World) (h : Row w 3 1 ao n cap (ints xs)) (hn : n ≤ 900) :
    Calls Try.prog 35 #[.slice ao n cap, .int .i64 v] w (IdxPost xs v w) := by
  have hl : xs.length = n := by have := h.2.1; simpa [ints] using this
  have hncap := h.1
  rcases Nat.eq_zero_or_pos n with h0 | h0
  · subst h0
    have hx : xs = [] := List.eq_nil_of_length_eq_zero hl
    subst hx
    go_enter Try.func35, Try.ntmps35
    go_wp2_with fail
    go_loop [5, 8] (fun _ i => i = .int .i64 0) (fun _ _ => 0)
    case atStart => rfl
    case round =>
      subst hrel
      go_wp2_with fail
      go_ret
      exact ⟨-1, rfl, rfl, by omega, by simp, by omega⟩
  · obtain ⟨b, o, rfl⟩ := h.some (by omega)
    have hc : ∀ k, (hk : k < xs.length) → w.cell? ⟨b, o + k, none⟩ = some (.int .i64 xs[k]) := fun k hk => h.cell (ints_get hk)
    have Hc := Lib.hid hc; clear hc
    have Hl := Lib.hid hl; clear hl
    go_enter Try.func35, Try.ntmps35
    go_wp2_with fail
    go_loop [5, 8] (fun _ i => ∃ k : Nat, k ≤ n ∧ i = .int .i64 k ∧ ∀ j, (hj : j < xs.length) → j < k → xs[j] ≠ v) (fun _ i => n - (intOf i).toNat)
    case atStart => exact ⟨0, Nat.zero_le _, rfl, fun j _ hj => by omega⟩
    case round =>
      obtain ⟨k, hk, rfl, hall⟩ := hrel
      have Hall := Lib.hid hall; clear hall
      by_cases hlt : k < n
      · have hkl : k < xs.length := by rw [Hl.out]; exact hlt
        obtain ⟨x, hx⟩ : ∃ x, x = xs[k] := ⟨_, rfl⟩
        have hcell := Hc.out k hkl
        rw [← hx] at hcell
        have Hx := Lib.hid hx; clear hx
        by_cases hv : v = x
        · have hb : (v == x) = true := by simp [hv]
          have Hv := Lib.hid hv; clear hv
          go_wp2_with fail
          go_ret
          exact ⟨(k : Int), rfl, rfl, by omega, ⟨fun _ => by rw [Hv.out, Hx.out]; exact List.getElem_mem hkl, fun _ => by omega⟩, by omega⟩
        · have hb : (v == x) = false := by simp [hv]
          have Hv := Lib.hid hv; clear hv
          go_wp2_with fail
          go_round
          case rel => exact ⟨k + 1, by omega, by go_num, fun j hj hjk => by
            by_cases e : j = k
            · subst e; exact fun e' => Hv.out (by rw [Hx.out]; exact e'.symm)
            · exact Hall.out j hj (by omega)⟩
          case measure => simp [intOf]; omega
      · go_wp2_with fail
        go_ret
        refine ⟨-1, rfl, rfl, by omega, ⟨fun h => by omega, fun hm => ?_⟩, by omega⟩
        obtain ⟨j, hj, e⟩ := List.getElem_of_mem hm
        exact absurd e (Hall.out j hj (by rw [Hl.out] at hj; omega))

theorem contains_any (ao : Option Addr) (n cap : Nat) (xs : List Int) (v : Int) (w : World) (h : Row w 3 1 ao n cap (ints xs)) (hn : n ≤ 900) :
    Calls Try.prog 32 #[.slice ao n cap, .int .i64 v] w fun e w' => e = .returned (.bool (decide (v ∈ xs))) ∧ w = w' := by
  go_enter Try.func32, Try.ntmps32
  go_wp2_with fail
  refine (index_any ao n cap xs v w h hn).mono ?_; rintro e w' ⟨r, rfl, rfl, h1, h2, h3⟩
  have H2 := Lib.hid h2; clear h2
  go_wp2_with fail
  go_ret
  exact ⟨ret_bool (decide_eq_decide.2 H2.out), rfl⟩

/-- The closure: is there no such machine? -/
theorem nobody {w : World} {p B : Nat} {S : NS} {G : Nat → Prop} {N : Nat} (h : NetG w p S G) (hS : Wf S N) (hB : w.cell? ⟨B, 0, none⟩ = some (.pointer (some ⟨p, 0, none⟩))) (x : Int) :
    Calls Try.prog 30 #[.int .i64 x, .pointer (some ⟨B, 0, none⟩)] w fun e w' => e = .returned (.bool (decide (x < 1 ∨ (S.nodes : Int) < x))) ∧ w = w' := by
  obtain ⟨lb, mb, mcap, M, h, hmc⟩ := h
  have hn := hS.n2
  have c1 := h.c1
  by_cases hx : x < 1 ∨ (S.nodes : Int) < x
  · have Hx := Lib.hid hx
    have hat := Lib.hid (at_none p mb S.nodes mcap x w (by omega) c1 hx)
    clear hx
    go_enter Try.func30, Try.ntmps30
    go_wp2_with fail
    refine (hat.out).mono ?_; rintro e w' ⟨rfl, rfl⟩
    go_wp2_with fail
    go_ret
    exact ⟨ret_bool (by simp [Hx.out]), rfl⟩
  · have Hx := Lib.hid hx
    have hat := Lib.hid (at_some p mb S.nodes mcap x w (by omega) c1 (by omega) (by omega))
    clear hx
    go_enter Try.func30, Try.ntmps30
    go_wp2_with fail
    refine (hat.out).mono ?_; rintro e w' ⟨rfl, rfl⟩
    go_wp2_with fail
    go_ret
    exact ⟨ret_bool (by simp [Hx.out]), rfl⟩

def FnPost (bad : Prop) (w : World) (e : Ending) (w' : World) : Prop := ∃ r : Int, e = .returned (.int .i64 r) ∧ w = w' ∧ -1 ≤ r ∧ (0 ≤ r ↔ bad) ∧ r < 1000

set_option maxHeartbeats 400000 in
theorem indexFunc_any {p B : Nat} {S : NS} {G : Nat → Prop} {N : Nat} (ao : Option Addr) (n cap : Nat) (xs : List Int) (w : World) (h : Row w 3 1 ao n cap (ints xs)) (hn : n ≤ 900)
    (hg : NetG w p S G) (hS : Wf S N) (hB : w.cell? ⟨B, 0, none⟩ = some (.pointer (some ⟨p, 0, none⟩))) :
    Calls Try.prog 34 #[.slice ao n cap, .func (.func 30) #[] #[.pointer (some ⟨B, 0, none⟩)]] w (FnPost (∃ x ∈ xs, x < 1 ∨ (S.nodes : Int) < x) w) := by
  have hl : xs.length = n := by have := h.2.1; simpa [ints] using this
  have hncap := h.1
  have HN := Lib.hid (nobody hg hS hB)
  rcases Nat.eq_zero_or_pos n with h0 | h0
  · subst h0
    have hx : xs = [] := List.eq_nil_of_length_eq_zero hl
    subst hx
    go_enter Try.func34, Try.ntmps34
    go_wp2_with fail
    go_loop [5, 8] (fun _ i => i = .int .i64 0) (fun _ _ => 0)
    case atStart => rfl
    case round =>
      subst hrel
      go_wp2_with fail
      go_ret
      exact ⟨-1, rfl, rfl, by omega, by simp, by omega⟩
  · obtain ⟨b, o, rfl⟩ := h.some (by omega)
    have hc : ∀ k, (hk : k < xs.length) → w.cell? ⟨b, o + k, none⟩ = some (.int .i64 xs[k]) := fun k hk => h.cell (ints_get hk)
    have Hc := Lib.hid hc; clear hc
    have Hl := Lib.hid hl; clear hl
    clear hB
    go_enter Try.func34, Try.ntmps34
    go_wp2_with fail
    go_loop [5, 8] (fun _ i => ∃ k : Nat, k ≤ n ∧ i = .int .i64 k ∧ ∀ j, (hj : j < xs.length) → j < k → ¬ (xs[j] < 1 ∨ (S.nodes : Int) < xs[j])) (fun _ i => n - (intOf i).toNat)
    case atStart => exact ⟨0, Nat.zero_le _, rfl, fun j _ hj => by omega⟩
    case round =>
      obtain ⟨k, hk, rfl, hall⟩ := hrel
      have Hall := Lib.hid hall; clear hall
      by_cases hlt : k < n
      · have hkl : k < xs.length := by rw [Hl.out]; exact hlt
        obtain ⟨x, hx⟩ : ∃ x, x = xs[k] := ⟨_, rfl⟩
        have hcell := Hc.out k hkl
        rw [← hx] at hcell
        have Hx := Lib.hid hx; clear hx
        by_cases hv : x < 1 ∨ (S.nodes : Int) < x
        · have hb : decide (x < 1 ∨ (S.nodes : Int) < x) = true := by simp [hv]
          have HNx := HN.out x
          rw [hb] at HNx
          have HNx' := Lib.hid HNx; clear HNx hb
          have Hv := Lib.hid hv; clear hv
          go_wp2_with fail
          refine (HNx'.out).mono ?_; rintro e w' ⟨rfl, rfl⟩
          go_wp2_with fail
          go_ret
          exact ⟨(k : Int), rfl, rfl, by omega, ⟨fun _ => ⟨x, by rw [Hx.out]; exact List.getElem_mem hkl, Hv.out⟩, fun _ => by omega⟩, by omega⟩
        · have hb : decide (x < 1 ∨ (S.nodes : Int) < x) = false := by simp [hv]
          have HNx := HN.out x
          rw [hb] at HNx
          have HNx' := Lib.hid HNx; clear HNx hb
          have Hv := Lib.hid hv; clear hv
          go_wp2_with fail
          refine (HNx'.out).mono ?_; rintro e w' ⟨rfl, rfl⟩
          go_wp2_with fail
          go_round
          case rel => exact ⟨k + 1, by omega, by go_num, fun j hj hjk => by
            by_cases e : j = k
            · subst e; have := Hv.out; rw [Hx.out] at this; exact this
            · exact Hall.out j hj (by omega)⟩
          case measure => simp [intOf]; omega
      · go_wp2_with fail
        go_ret
        refine ⟨-1, rfl, rfl, by omega, ⟨fun h => by omega, fun hm => ?_⟩, by omega⟩
        obtain ⟨x, hm, hx⟩ := hm
        obtain ⟨j, hj, e⟩ := List.getElem_of_mem hm
        exact absurd (by rw [e]; exact hx) (Hall.out j hj (by rw [Hl.out] at hj; omega))

theorem containsFunc_any {p B : Nat} {S : NS} {G : Nat → Prop} {N : Nat} (ao : Option Addr) (n cap : Nat) (xs : List Int) (w : World) (h : Row w 3 1 ao n cap (ints xs)) (hn : n ≤ 900)
    (hg : NetG w p S G) (hS : Wf S N) (hB : w.cell? ⟨B, 0, none⟩ = some (.pointer (some ⟨p, 0, none⟩))) :
    Calls Try.prog 29 #[.slice ao n cap, .func (.func 30) #[] #[.pointer (some ⟨B, 0, none⟩)]] w fun e w' => e = .returned (.bool (decide (∃ x ∈ xs, x < 1 ∨ (S.nodes : Int) < x))) ∧ w = w' := by
  have HI := Lib.hid (indexFunc_any ao n cap xs w h hn hg hS hB)
  clear hB
  go_enter Try.func29, Try.ntmps29
  go_wp2_with fail
  refine (HI.out).mono ?_; rintro e w' ⟨r, rfl, rfl, h1, h2, h3⟩
  have H2 := Lib.hid h2; clear h2
  go_wp2_with fail
  go_ret
  exact ⟨ret_bool (decide_eq_decide.2 H2.out), rfl⟩

theorem part_bad_spec {w : World} {p : Nat} {S : NS} {G : Nat → Prop} {N : Nat} (h : NetG w p S G) (hS : Wf S N) (ao : Option Addr) (n cap : Nat) (xs : List Int) (hr : Row w 3 1 ao n cap (ints xs)) (hn : n ≤ 900) (hb : ∃ x ∈ xs, x < 1 ∨ (S.nodes : Int) < x) :
    Calls Try.prog 18 #[.pointer (some ⟨p, 0, none⟩), .slice ao n cap] w (Same w (.int .i64 2)) := by
  have hnil := fun (W : World) (A : Option Addr) (n c : Nat) => Lib.run_eql_slice_nil (P := Try.prog) W 44 48 A n c 0 0 Try.underlying44
  obtain ⟨lb, mb, mcap, M, hW, hmc⟩ := id h
  have c1 := hW.c1
  have hplt := hW.glt p hW.gp
  have hC := containsFunc_any ao n cap xs (w.alloc (.cells #[.pointer (some ⟨p, 0, none⟩)] 29)) (hr.kept (F := fun _ _ => False) (Frm.alloc1 _ _) (fun _ _ _ _ _ _ h => h)) hn (h.alloc _) hS (B := w.heap.size) (by simp [World.cell?_alloc_at])
  rw [decide_eq_true hb] at hC
  have HC := Lib.hid hC; clear hC
  have HM := Lib.hid hmc; clear hmc
  go_enter Try.func18, Try.ntmps18
  go_wp2_with fail
  refine (HC.out).mono ?_; rintro e w' ⟨rfl, rfl⟩
  go_wp2_with fail
  go_ret
  exact ⟨rfl, (Below.refl _ _).alloc (Nat.le_refl _) _⟩

def NS.setSide (S : NS) (a : Nat) (b : Bool) : NS := { S with side := fun i => if i = a then b else S.side i }

theorem NetW.setSide {w : World} {p : Nat} {S : NS} {G : Nat → Prop} {lb mb mcap : Nat} {M : Value → Option Value} (h : NetW w p S G lb mb mcap M) {i : Nat} (hi : i < S.nodes) (b : Bool) :
    NetW (w.setCell ⟨mb, i * 3 + 2, none⟩ (.bool b)) p (S.setSide (i + 1) b) G lb mb mcap M := by
  have hf : Frm (fun x o => x = mb ∧ o = i * 3 + 2) w (w.setCell ⟨mb, i * 3 + 2, none⟩ (.bool b)) := Frm.setCell1 _ _ (Or.inl ⟨rfl, rfl⟩)
  obtain ⟨b1, b2, b3⟩ := h.blocks
  have ca := h.sd i hi
  have kp : ∀ x o, x ≠ mb → (w.setCell ⟨mb, i * 3 + 2, none⟩ (.bool b)).cell? ⟨x, o, none⟩ = w.cell? ⟨x, o, none⟩ := fun x o hx => World.cell?_setCell_other _ _ _ _ (fun e => hx (by cases e; rfl))
  have km : ∀ o, o ≠ i * 3 + 2 → (w.setCell ⟨mb, i * 3 + 2, none⟩ (.bool b)).cell? ⟨mb, o, none⟩ = w.cell? ⟨mb, o, none⟩ := fun o hx => World.cell?_setCell_other _ _ _ _ (fun e => hx (by cases e; rfl))
  refine { c0 := (kp _ _ b1).trans h.c0, c1 := (kp _ _ b1).trans h.c1, c2 := (kp _ _ b1).trans h.c2, f2 := (World.frozen?_setCell _ _ _ _).trans h.f2, ep := (elemAt_setCell _ _ _ _).trans h.ep, em := (elemAt_setCell _ _ _ _).trans h.em, tk := ?_, dr := ?_, sd := ?_, mf := fun o ho => (World.frozen?_setCell _ _ _ _).trans (h.mf o ho), map := h.map.of_heap (Below.heap_setCell _ _ _ _ (fun e => b3 e.symm)), dom := h.dom, row := ?_, apart := h.apart, gp := h.gp, gm := h.gm, gl := h.gl, glt := fun b hb => by simpa using h.glt b hb, gty := fun b hb => by rw [elemAt_setCell]; exact h.gty b hb }
  · intro j hj; rw [km _ (by omega)]; exact h.tk j hj
  · intro j hj; rw [km _ (by omega)]; exact h.dr j hj
  · intro j hj
    by_cases e : j = i
    · subst e
      rw [World.cell?_setCell_same _ _ _ ca]
      simp [NS.setSide]
    · rw [km _ (by omega)]
      simp only [NS.setSide]
      rw [if_neg (by omega)]
      exact h.sd j hj
  · intro c d
    obtain ⟨ao, cap, g1, g2, g3, g4⟩ := h.row c d
    have hne : ∀ y, ao = some y → 0 < cap → y.block ≠ mb := fun y hy hc e => by
      have := ((g2.2.2.2 y hy).2.1 hc).2; rw [e, h.em] at this; cases this
    refine ⟨ao, cap, g1, g2.kept hf (fun x o hx hc j _ e => hne _ hx hc e.1), ?_, g4⟩
    intro y hy j j1 j2
    have hc : 0 < cap := by rcases Nat.eq_zero_or_pos cap with h0 | h0; subst h0; omega; exact h0
    obtain ⟨k1, k2, k3⟩ := g3 y hy j j1 j2
    rw [kp _ _ (hne y hy hc), World.frozen?_setCell]
    exact ⟨k1, k2, k3⟩

/-- The first k machines have their new side. -/
def NS.part (S : NS) (xs : List Int) (k : Nat) : NS := { S with side := fun i => if 1 ≤ i ∧ i ≤ k then decide ((i : Int) ∈ xs) else S.side i }

theorem part_zero (S : NS) (xs : List Int) : S.part xs 0 = S := by
  unfold NS.part
  congr
  funext i
  rw [if_neg (by omega)]
theorem part_succ (S : NS) (xs : List Int) (k : Nat) : (S.part xs k).setSide (k + 1) (decide (((k : Int) + 1) ∈ xs)) = S.part xs (k + 1) := by
  unfold NS.part NS.setSide
  congr
  funext i
  by_cases e : i = k + 1
  · rw [if_pos e, if_pos (by omega), e]; push_cast; rfl
  · rw [if_neg e]
    dsimp only
    by_cases e2 : 1 ≤ i ∧ i ≤ k
    · rw [if_pos e2, if_pos (by omega)]
    · rw [if_neg e2, if_neg (by omega)]

set_option maxRecDepth 100000 in
set_option maxHeartbeats 800000 in
theorem part_spec {w : World} {p : Nat} {S : NS} {G : Nat → Prop} {N : Nat} (h : NetG w p S G) (hS : Wf S N) (ao : Option Addr) (n cap : Nat) (xs : List Int) (hr : Row w 3 1 ao n cap (ints xs)) (hn : n ≤ 900) (hb : ¬ ∃ x ∈ xs, x < 1 ∨ (S.nodes : Int) < x) :
    Calls Try.prog 18 #[.pointer (some ⟨p, 0, none⟩), .slice ao n cap] w (Turned w p (S.part xs S.nodes) G (.int .i64 0)) := by
  have hnil := fun (W : World) (A : Option Addr) (n c : Nat) => Lib.run_eql_slice_nil (P := Try.prog) W 44 48 A n c 0 0 Try.underlying44
  obtain ⟨lb, mb, mcap, M, hW, hmc⟩ := id h
  have c1 := hW.c1
  have hn5 := hS.n2
  have hplt := hW.glt p hW.gp
  have hmlt := hW.glt mb hW.gm
  have hC := containsFunc_any ao n cap xs (w.alloc (.cells #[.pointer (some ⟨p, 0, none⟩)] 29)) (hr.kept (F := fun _ _ => False) (Frm.alloc1 _ _) (fun _ _ _ _ _ _ h => h)) hn (h.alloc _) hS (B := w.heap.size) (by simp [World.cell?_alloc_at])
  rw [decide_eq_false hb] at hC
  have HC := Lib.hid hC; clear hC
  have HM := Lib.hid hmc; clear hmc
  obtain ⟨w0, hw0⟩ : ∃ w0, w0 = w.alloc (.cells #[.pointer (some ⟨p, 0, none⟩)] 29) := ⟨_, rfl⟩
  have hW0 : NetW w0 p S G lb mb mcap M := by rw [hw0]; exact hW.kept (F := fun _ _ => False) (Frm.alloc1 _ _) (fun _ _ _ h => h)
  have hr0 : Row w0 3 1 ao n cap (ints xs) := by rw [hw0]; exact (hr.kept (F := fun _ _ => False) (Frm.alloc1 _ _) (fun _ _ _ _ _ _ h => h))
  have hrm : ∀ x o, ao = some ⟨x, o, none⟩ → 0 < cap → x ≠ mb := fun x o hx hc e => by
    have := ((hr.2.2.2 _ hx).2.1 hc).2; dsimp only at this; rw [e, hW.em] at this; cases this
  have s0 : w0.heap.size = w.heap.size + 1 := by rw [hw0]; simp
  have cB : w0.cell? ⟨w.heap.size, 0, none⟩ = some (.pointer (some ⟨p, 0, none⟩)) := by rw [hw0]; simp [World.cell?_alloc_at]
  have F0 : Frm (fun x _ => G x) w w0 := by rw [hw0]; exact Frm.alloc1 _ _
  have c10 := hW0.c1
  have HW0 := Lib.hid hW0; clear hW0
  have HS0 := Lib.hid s0; clear s0
  go_enter Try.func18, Try.ntmps18
  go_wp2_with fail
  refine (HC.out).mono ?_; rintro e w' ⟨rfl, rfl⟩
  rw [← hw0]
  have HW := Lib.hid hw0; clear hw0
  go_wp2_with fail
  go_loopw [5, 23] (fun _ i wr => ∃ k : Nat, k ≤ S.nodes ∧ i = .int .i64 k ∧ NetW wr p (S.part xs k) G lb mb mcap M ∧ Frm (fun x _ => x = mb) w0 wr) (fun _ i _ => S.nodes - (intOf i).toNat)
  case atStart => exact ⟨0, Nat.zero_le _, rfl, by rw [part_zero]; exact HW0.out, Frm.refl _ _⟩
  case round =>
    obtain ⟨k, hk, rfl, hWr, hFr⟩ := hrel
    by_cases hlt : k < S.nodes
    · have hbm : w.heap.size ≠ mb := by omega
      have cBr : wr.cell? ⟨w.heap.size, 0, none⟩ = some (.pointer (some ⟨p, 0, none⟩)) := (hFr.cel _ _ (by have := HS0.out; omega) hbm).trans cB
      have c1r : wr.cell? ⟨p, 1, none⟩ = some (.slice (some ⟨mb, 0, none⟩) S.nodes mcap) := hWr.c1
      have csr := hWr.sd k hlt
      have hpm : p ≠ mb := hWr.blocks.1
      have kA : ∀ v, (wr.setCell ⟨mb, k * 3 + 2, none⟩ v).drew.cell? ⟨w.heap.size, 0, none⟩ = some (.pointer (some ⟨p, 0, none⟩)) := fun v => (World.cell?_setCell_other _ _ _ _ (fun e => by cases e)).trans cBr
      have kB : ∀ v, (wr.setCell ⟨mb, k * 3 + 2, none⟩ v).drew.cell? ⟨p, 1, none⟩ = some (.slice (some ⟨mb, 0, none⟩) S.nodes mcap) := fun v => (World.cell?_setCell_other _ _ _ _ (fun e => by cases e)).trans c1r
      have KA := Lib.hid kA; clear kA
      have KB := Lib.hid kB; clear kB
      have fsr := hWr.mf (k * 3 + 2) (by show _ < S.nodes * 3; omega)
      have hrr : Row wr.drew 3 1 ao n cap (ints xs) := hr0.kept (F := fun x _ => x = mb) hFr.drew (fun x o hx hc _ _ => hrm x o hx hc)
      have hcon := contains_any ao n cap xs ((k : Int) + 1) wr.drew hrr hn
      obtain ⟨bb, hbb⟩ : ∃ bb, bb = decide (((k : Int) + 1) ∈ xs) := ⟨_, rfl⟩
      rw [← hbb] at hcon
      have Hcon := Lib.hid hcon; clear hcon
      have Hbb := Lib.hid hbb; clear hbb
      have HWr := Lib.hid hWr; clear hWr
      have hk1 : (0 : Int) ≤ (k : Int) := by omega
      have hk2 : (k : Int) < (S.nodes : Int) := by omega
      have hw1 : IntKind.i64.wrap ((k : Int) + 1) = (k : Int) + 1 := IntWalk.i64_in _ (by omega)
      go_wp2_with fail
      go_region_held3 (fun W => W.cell? ⟨w.heap.size, 0, none⟩ = some (.pointer (some ⟨p, 0, none⟩)) ∧ W.cell? ⟨p, 1, none⟩ = some (.slice (some ⟨mb, 0, none⟩) S.nodes mcap))
        (first | exact ⟨KA.out _, KB.out _⟩ | go_keep)
        (first | (go_at_call 32; refine (Hcon.out).mono ?_; rintro e w' ⟨rfl, rfl⟩))
      clear hw1
      go_wp2_with fail
      go_roundw
      case rel =>
        refine ⟨k + 1, by omega, by go_num, ?_, ?_⟩
        · rw [← part_succ, ← Hbb.out]
          exact (HWr.out.kept (F := fun _ _ => False) (Frm.refl _ _).drew (fun _ _ _ h => h)).setSide hlt bb
        · exact hFr.drew.setCell _ (fun _ => rfl)
      case measure => simp [intOf]; omega
    · go_wp2_with fail
      go_ret
      have e : k = S.nodes := by omega
      rw [e] at hWr
      refine ⟨rfl, G, ⟨lb, mb, mcap, M, hWr, HM.out⟩, fun x hx => Or.inl hx, F0.trans hFr (fun x o _ hx => by rw [hx]; exact hW.gm)⟩

end Go.Proofs.Ytcjcccmlpilbbaa
