/- Lemmas of my own on worlds, with no program in sight: what a step leaves alone ('Frm'), a slice that reads as a list ('Row', 'Spare'), and append in these words. -/
import Derived.WalkKit
import Derived.WalkSpells
import Derived.WalkLawsBesides
import Derived.ArgAppend
import Derived.Maps.Keyed
namespace Go.K55
open Go.RowKit
set_option linter.unusedVariables false
set_option linter.unusedSimpArgs false

/-- The element type of a block of cells. -/
def elemAt (w : World) (b : Nat) : Option TypeId :=
  match w.heap[b]? with
  | some (.cells _ e _) => some e
  | _ => none

/-- What F does not name is as it was. -/
structure Frm (F : Nat → Nat → Prop) (w w' : World) : Prop where
  os : w'.os = w.os
  tape : w'.tape = w.tape
  output : w'.output = w.output
  size : w.heap.size ≤ w'.heap.size
  blk : ∀ b, b < w.heap.size → (∀ o, ¬ F b o) → w'.heap[b]? = w.heap[b]?
  cel : ∀ b o, b < w.heap.size → ¬ F b o → w'.cell? ⟨b, o, none⟩ = w.cell? ⟨b, o, none⟩
  frz : ∀ b o, b < w.heap.size → w'.frozen? ⟨b, o, none⟩ = w.frozen? ⟨b, o, none⟩
  elm : ∀ b, b < w.heap.size → elemAt w' b = elemAt w b

variable {F G : Nat → Nat → Prop} {w w' w'' : World}

theorem Frm.refl (F : Nat → Nat → Prop) (w : World) : Frm F w w :=
  ⟨rfl, rfl, rfl, Nat.le_refl _, fun _ _ _ => rfl, fun _ _ _ _ => rfl, fun _ _ _ => rfl, fun _ _ => rfl⟩

/-- The second step may also write what is new. -/
theorem Frm.trans (h : Frm F w w') (k : Frm G w' w'') (hG : ∀ b o, b < w.heap.size → G b o → F b o) : Frm F w w'' where
  os := k.os.trans h.os
  tape := k.tape.trans h.tape
  output := k.output.trans h.output
  size := Nat.le_trans h.size k.size
  blk b hb hF := (k.blk b (Nat.lt_of_lt_of_le hb h.size) (fun o hg => hF o (hG b o hb hg))).trans (h.blk b hb hF)
  cel b o hb hF := (k.cel b o (Nat.lt_of_lt_of_le hb h.size) (fun hg => hF (hG b o hb hg))).trans (h.cel b o hb hF)
  frz b o hb := (k.frz b o (Nat.lt_of_lt_of_le hb h.size)).trans (h.frz b o hb)
  elm b hb := (k.elm b (Nat.lt_of_lt_of_le hb h.size)).trans (h.elm b hb)

theorem Frm.mono (h : Frm F w w') (hF : ∀ b o, b < w.heap.size → F b o → G b o) : Frm G w w' where
  os := h.os
  tape := h.tape
  output := h.output
  size := h.size
  blk b hb hG := h.blk b hb (fun o hf => hG o (hF b o hb hf))
  cel b o hb hG := h.cel b o hb (fun hf => hG (hF b o hb hf))
  frz := h.frz
  elm := h.elm

theorem Frm.drew (h : Frm F w w') : Frm F w w'.drew := ⟨h.os, h.tape, h.output, h.size, h.blk, h.cel, h.frz, h.elm⟩
theorem Frm.drewN (h : Frm F w w') (n : Nat) : Frm F w (w'.drewN n) := ⟨h.os, h.tape, h.output, h.size, h.blk, h.cel, h.frz, h.elm⟩

theorem heap_alloc_lt (w : World) (o : Obj) {b : Nat} (hb : b < w.heap.size) : (w.alloc o).heap[b]? = w.heap[b]? := Below.heap_alloc w o b hb

theorem Frm.alloc1 (w : World) (o : Obj) : Frm F w (w.alloc o) where
  os := rfl
  tape := rfl
  output := rfl
  size := by simp
  blk b hb _ := heap_alloc_lt w o hb
  cel b o' hb _ := World.cell?_of_block (w := w) (a := ⟨b, o', none⟩) (heap_alloc_lt w o hb)
  frz b o' hb := World.frozen?_of_block (w := w) (a := ⟨b, o', none⟩) (heap_alloc_lt w o hb)
  elm b hb := by simp [elemAt, heap_alloc_lt w o hb]

theorem Frm.alloc (h : Frm F w w') (o : Obj) : Frm F w (w'.alloc o) := h.trans (G := F) (Frm.alloc1 _ _) (fun _ _ _ hf => hf)

theorem elemAt_setCell (w : World) (a : Addr) (v : Value) (b : Nat) : elemAt (w.setCell a v) b = elemAt w b := by
  unfold elemAt World.setCell
  simp only [Array.getElem?_modify]
  by_cases e : a.block = b
  · rw [if_pos e]
    cases h : w.heap[b]? with
    | none => rfl
    | some o => cases o <;> rfl
  · rw [if_neg e]

theorem Frm.setCell1 (w : World) {b o : Nat} (v : Value) (hF : F b o ∨ w.heap.size ≤ b) : Frm F w (w.setCell ⟨b, o, none⟩ v) where
  os := rfl
  tape := rfl
  output := rfl
  size := by simp
  blk b' hb hn := Below.heap_setCell _ _ _ _ (fun e => by subst e; rcases hF with hF | hF; exact hn _ hF; omega)
  cel b' o' hb hn := World.cell?_setCell_other _ _ _ _ (fun e => by cases e; rcases hF with hF | hF; exact hn hF; omega)
  frz b' o' _ := World.frozen?_setCell _ _ _ _
  elm b' _ := elemAt_setCell _ _ _ _

theorem Frm.setCell (h : Frm F w w') {b o : Nat} (v : Value) (hF : b < w.heap.size → F b o) : Frm F w (w'.setCell ⟨b, o, none⟩ v) := by
  refine h.trans (G := fun b' o' => b' = b ∧ o' = o) (Frm.setCell1 _ _ (Or.inl ⟨rfl, rfl⟩)) ?_
  rintro b' o' hb ⟨rfl, rfl⟩
  exact hF hb

theorem Frm.setCells (h : Frm F w w') {b o : Nat} : ∀ (vs : List Value), (b < w.heap.size → ∀ j, j < vs.length → F b (o + j)) → Frm F w (w'.setCells b o vs) := by
  intro vs
  induction vs generalizing o w' with
  | nil => intro _; exact h
  | cons v r ih =>
    intro hF
    refine ih (h.setCell v (fun hb => by simpa using hF hb 0 (by simp))) (fun hb j hj => ?_)
    have := hF hb (j + 1) (by simp; omega)
    rwa [show o + (j + 1) = o + 1 + j by omega] at this

/-- A whole block put anew (a map's). -/
theorem Frm.put1 (w : World) {b : Nat} {obj : Obj} (hb : elemAt w b = none) (ho : ∀ c e f, obj ≠ .cells c e f) (hF : ∀ o, F b o) : Frm F w { w with heap := w.heap.setIfInBounds b obj } := by
  have hc : ∀ o, w.cell? ⟨b, o, none⟩ = none := by
    intro o; unfold World.cell?; unfold elemAt at hb
    dsimp only
    cases h : w.heap[b]? with
    | none => rfl
    | some x => cases x <;> simp_all
  have hz : ∀ o, w.frozen? ⟨b, o, none⟩ = false := by
    intro o; unfold World.frozen?; unfold elemAt at hb
    dsimp only
    cases h : w.heap[b]? with
    | none => rfl
    | some x => cases x <;> simp_all
  have hblk : ∀ b', b' ≠ b → ({ w with heap := w.heap.setIfInBounds b obj } : World).heap[b']? = w.heap[b']? := by
    intro b' hne
    simp only [Array.getElem?_setIfInBounds]
    rw [if_neg (fun e => hne e.symm)]
  have hnew : b < w.heap.size → ({ w with heap := w.heap.setIfInBounds b obj } : World).heap[b]? = some obj := by
    intro hlt
    simp [Array.getElem?_setIfInBounds, hlt]
  refine ⟨rfl, rfl, rfl, by simp, fun b' _ hn => hblk b' (fun e => hn 0 (e ▸ hF 0)), fun b' o' _ hn => ?_, fun b' o' hlt => ?_, fun b' hlt => ?_⟩
  · exact World.cell?_of_block (w := w) (a := ⟨b', o', none⟩) (hblk b' (fun e => hn (e ▸ hF o')))
  · by_cases e : b' = b
    · subst e
      rw [hz]; unfold World.frozen?; dsimp only; rw [hnew hlt]
      cases obj <;> first | rfl | exact absurd rfl (ho _ _ _)
    · exact World.frozen?_of_block (w := w) (a := ⟨b', o', none⟩) (hblk b' e)
  · by_cases e : b' = b
    · subst e
      rw [hb]; unfold elemAt; rw [hnew hlt]
      cases obj <;> first | rfl | exact absurd rfl (ho _ _ _)
    · unfold elemAt; rw [hblk b' e]

theorem Frm.below (h : Frm F w w') {B : Nat} (hB : B ≤ w.heap.size) (hF : ∀ b o, b < B → ¬ F b o) : Below B w w' :=
  ⟨h.os, h.tape, h.output, h.size, fun b hb => h.blk b (by omega) (fun o => hF b o hb)⟩

theorem Frm.of_below (h : Below w.heap.size w w') : Frm F w w' where
  os := h.os
  tape := h.tape
  output := h.output
  size := h.size
  blk b hb _ := h.block b hb
  cel b o hb _ := World.cell?_of_block (w := w) (a := ⟨b, o, none⟩) (h.block b hb)
  frz b o hb := World.frozen?_of_block (w := w) (a := ⟨b, o, none⟩) (h.block b hb)
  elm b hb := by unfold elemAt; rw [h.block b hb]

theorem Frm.of_grown {row : Option Nat} (h : w.grownBy w' row) (hr : row = none) : Frm F w w' :=
  Frm.of_below ⟨h.os, h.tape, h.output, h.size, fun k hk => h.block k hk (by rw [hr]; simp)⟩

/-! ### rows -/

/-- v is a slice of n elements of 'size' cells each, in a block of type T; its cells read as xs. -/
def Row (w : World) (T : TypeId) (size : Nat) (ao : Option Addr) (n cap : Nat) (xs : List Value) : Prop :=
  n ≤ cap ∧ xs.length = n * size ∧ (ao = none → cap = 0) ∧
  ∀ a, ao = some a → a.spot = none ∧ (0 < cap → a.block < w.heap.size ∧ elemAt w a.block = some T) ∧ ∀ j u, xs[j]? = some u → w.cell? ⟨a.block, a.off + j, none⟩ = some u

theorem Row.nil (w : World) (T : TypeId) (size : Nat) : Row w T size none 0 0 [] := ⟨Nat.le_refl _, by simp, fun _ => rfl, fun _ h => by cases h⟩

theorem Row.some {T size n cap : Nat} {ao : Option Addr} {xs : List Value} (h : Row w T size ao n cap xs) (hn : 0 < cap) : ∃ b o, ao = .some ⟨b, o, none⟩ := by
  obtain ⟨h1, h2, h3, h4⟩ := h
  cases ao with
  | none => have := h3 rfl; omega
  | some a => obtain ⟨b, o, s⟩ := a; have h4 := h4 _ rfl; exact ⟨b, o, by simpa using h4.1⟩

theorem Row.cell {T size n cap b o : Nat} {xs : List Value} (h : Row w T size (.some ⟨b, o, none⟩) n cap xs) {j : Nat} {u : Value} (hj : xs[j]? = .some u) : w.cell? ⟨b, o + j, none⟩ = .some u :=
  (h.2.2.2 _ rfl).2.2 j u hj

/-- It stays what it is where its cells do. -/
theorem Row.kept {T size n cap : Nat} {ao : Option Addr} {xs : List Value} (h : Row w T size ao n cap xs) (hf : Frm F w w')
    (hF : ∀ b o, ao = .some ⟨b, o, none⟩ → 0 < cap → ∀ j, j < n * size → ¬ F b (o + j)) : Row w' T size ao n cap xs := by
  obtain ⟨h1, h2, h3, h4⟩ := h
  refine ⟨h1, h2, h3, ?_⟩
  intro a ha
  obtain ⟨hs, hb, hc⟩ := h4 a ha
  obtain ⟨b, o, s⟩ := a
  dsimp only at hs hb hc ⊢
  subst hs
  refine ⟨rfl, fun hcap => ⟨Nat.lt_of_lt_of_le (hb hcap).1 hf.size, (hf.elm b (hb hcap).1).trans (hb hcap).2⟩, fun j u hj => ?_⟩
  have hjl : j < n * size := by have := (List.getElem?_eq_some_iff.1 hj).1; omega
  have hcap : 0 < cap := by
    rcases Nat.eq_zero_or_pos cap with h0 | h0
    · subst h0; have : n = 0 := by omega
      subst this; simp at hjl
    · exact h0
  rw [hf.cel b (o + j) (hb hcap).1 (hF b o ha hcap j hjl)]
  exact hc j u hj

/-- The cells behind the length, up to the capacity, are there, may be written, and F names them. -/
def Spare (F : Nat → Nat → Prop) (w : World) (size : Nat) (ao : Option Addr) (n cap : Nat) : Prop :=
  ∀ a, ao = some a → ∀ j, n * size ≤ j → j < cap * size → (w.cell? ⟨a.block, a.off + j, none⟩).isSome = true ∧ w.frozen? ⟨a.block, a.off + j, none⟩ = false ∧ F a.block (a.off + j)

theorem Spare.nil (F : Nat → Nat → Prop) (w : World) (size n cap : Nat) : Spare F w size none n cap := fun _ h => by cases h
theorem Spare.full (F : Nat → Nat → Prop) (w : World) (size : Nat) (ao : Option Addr) (n : Nat) : Spare F w size ao n n := fun _ _ j h1 h2 => by omega
theorem Spare.mono {size n cap : Nat} {ao : Option Addr} (h : Spare F w size ao n cap) (hF : ∀ b o, F b o → G b o) : Spare G w size ao n cap :=
  fun a ha j h1 h2 => ⟨(h a ha j h1 h2).1, (h a ha j h1 h2).2.1, hF _ _ (h a ha j h1 h2).2.2⟩
theorem Spare.kept {H : Nat → Nat → Prop} {size n cap : Nat} {ao : Option Addr} (h : Spare F w size ao n cap) (hf : Frm H w w') (hF : ∀ b o, F b o → ¬ H b o) : Spare F w' size ao n cap := by
  intro a ha j h1 h2
  obtain ⟨k1, k2, k3⟩ := h a ha j h1 h2
  obtain ⟨u, hu⟩ := Option.isSome_iff_exists.1 k1
  have hlt := World.block_lt_of_cell? w _ hu
  exact ⟨by rw [hf.cel _ _ hlt (hF _ _ k3)]; exact k1, by rw [hf.frz _ _ hlt]; exact k2, k3⟩

theorem elemAt_cells {b : Nat} {c : Array Value} {e : TypeId} {f : Nat × Nat} (h : w.heap[b]? = some (.cells c e f)) : elemAt w b = some e := by
  unfold elemAt; rw [h]

theorem elemAt_alloc_new (w : World) (c : Array Value) (e : TypeId) (f : Nat × Nat) : elemAt (w.alloc (.cells c e f)) w.heap.size = some e := by
  unfold elemAt World.alloc; simp

theorem cell_block {b o : Nat} {c : Array Value} {e : TypeId} {f : Nat × Nat} (h : w.heap[b]? = some (.cells c e f)) : w.cell? ⟨b, o, none⟩ = c[o]? := by
  simp [World.cell?, h]
theorem frozen_block {b o : Nat} {c : Array Value} {e : TypeId} (h : w.heap[b]? = some (.cells c e (0, 0))) : w.frozen? ⟨b, o, none⟩ = false := by
  simp [World.frozen?, h]


/-! ### append -/
section
variable {P : Program}

/-- 'append(v, x...)' of two rows: what it gives is a row of both, at the old place where there is room, in a new block where there is none. -/
theorem run_app (w : World) (F : Nat → Nat → Prop) (t ty e : TypeId) (i : TypeInfo) (z : Value) (size bytes : Nat) (ht : P.underlying t = some (.slice e)) (hi : P.info? e = some i) (hz : i.zero = some z)
    (hsize : i.size = size) (hby : i.bytes = bytes) (hzs : z.cells.size = size) (hsz : 0 < size)
    {ao bo : Option Addr} {n cap m c : Nat} {xs news : List Value} (hv : Row w e size ao n cap xs) (hs : Spare F w size ao n cap)
    (hl : news.length = m * size) (hnone : bo = none → m = 0) (hnews : ∀ a, bo = some a → ∀ j u, news[j]? = some u → w.cell? (a.add j) = some u) (h1 : ∀ u ∈ news, u.oneCell' = true)
    (h63 : n + m ≤ maxLen) (hbytes : (n + m) * bytes ≤ 140737488355328) :
    ∃ ao' cap' w', (Builtin.append_ #[t, t] ty #[.slice ao n cap, .slice bo m c]).run P w = .ok (.slice ao' (n + m) cap') w' ∧ Row w' e size ao' (n + m) cap' (xs ++ news) ∧ Frm F w w' ∧
      ((ao' = ao ∧ cap' = cap ∧ n + m ≤ cap ∧ Spare F w' size ao' (n + m) cap') ∨ (ao' = some ⟨w.heap.size, 0, none⟩ ∧ w.heap.size < w'.heap.size ∧ ∀ j, j < cap' * size → (w'.cell? ⟨w.heap.size, j, none⟩).isSome = true ∧ w'.frozen? ⟨w.heap.size, j, none⟩ = false)) := by
  subst hsize
  subst hby
  have hlen : (xs ++ news).length = (n + m) * i.size := by rw [List.length_append, hv.2.1, hl, Nat.add_mul]
  by_cases hroom : n + m ≤ cap
  · cases ao with
    | none =>
      have hc0 := hv.2.2.1 rfl
      obtain rfl : n = 0 := by omega
      obtain rfl : m = 0 := by omega
      obtain rfl : cap = 0 := by omega
      have hx : xs = [] := List.eq_nil_of_length_eq_zero (by simpa using hv.2.1)
      have hn : news = [] := List.eq_nil_of_length_eq_zero (by simpa using hl)
      subst hx; subst hn
      refine ⟨none, 0, w, ?_, Row.nil w e i.size, Frm.refl _ _, Or.inl ⟨rfl, rfl, Nat.le_refl _, Spare.nil _ _ _ _ _⟩⟩
      cases bo <;> simp [Builtin.append_, run_underlying ht, sizeOf, typeInfo, hi, Builtin.lenOf, Builtin.firstCells, loadCells, loadCellsFrom]
    | some a =>
      obtain ⟨b, o, sp⟩ := a
      obtain ⟨g1, g2, g3⟩ := hv.2.2.2 _ rfl
      dsimp only at g1 g2 g3
      subst g1
      have hsp : ∀ j, j < news.length → (w.cell? ⟨b, o + n * i.size + j, none⟩).isSome = true ∧ w.frozen? ⟨b, o + n * i.size + j, none⟩ = false ∧ F b (o + n * i.size + j) := by
        intro j hj
        have hle : (n + m) * i.size ≤ cap * i.size := Nat.mul_le_mul_right _ hroom
        have hjm : n * i.size + j < cap * i.size := by rw [hl] at hj; rw [Nat.add_mul] at hle; omega
        have := hs ⟨b, o, none⟩ rfl (n * i.size + j) (by omega) hjm
        dsimp only at this
        rw [← Nat.add_assoc] at this
        exact this
      have hrun : (Builtin.append_ #[t, t] ty #[.slice (some ⟨b, o, none⟩) n cap, .slice bo m c]).run P w = .ok (.slice (some ⟨b, o, none⟩) (n + m) cap) (w.setCells b (o + n * i.size) news) := by
        cases bo with
        | none =>
          obtain rfl := hnone rfl
          have hn : news = [] := List.eq_nil_of_length_eq_zero (by simpa using hl)
          subst hn
          simp at hroom
          simp [Builtin.append_, run_underlying ht, sizeOf, typeInfo, hi, Builtin.lenOf, Builtin.firstCells, hroom, storeCells, World.setCells]
        | some ad =>
          exact run_append_room_cells (P := P) w t ty e i ht hi b o n cap ad m c news hl (fun j u hj => hnews ad rfl j u hj) h1 hroom (fun j hj => (hsp j hj).1) (fun j hj => (hsp j hj).2.1)
      have hfr : Frm F w (w.setCells b (o + n * i.size) news) := (Frm.refl F w).setCells news (fun _ j hj => (hsp j hj).2.2)
      refine ⟨some ⟨b, o, none⟩, cap, _, hrun, ⟨hroom, hlen, (fun h => by cases h), ?_⟩, hfr, Or.inl ⟨rfl, rfl, hroom, ?_⟩⟩
      · rintro a ha
        obtain rfl := Option.some.inj ha
        refine ⟨rfl, fun hcap => ⟨Nat.lt_of_lt_of_le (g2 hcap).1 hfr.size, (hfr.elm b (g2 hcap).1).trans (g2 hcap).2⟩, fun j u hj => ?_⟩
        dsimp only
        by_cases hjn : j < xs.length
        · rw [World.cell?_setCells_out b news _ w _ (fun _ _ => Or.inl (by dsimp only; rw [hv.2.1] at hjn; omega))]
          exact g3 j u (by rwa [List.getElem?_append_left hjn] at hj)
        · rw [List.getElem?_append_right (by omega)] at hj
          have hjl := (List.getElem?_eq_some_iff.1 hj).1
          have hin := World.cell?_setCells_in b news (o + n * i.size) w (fun j hj => (hsp j hj).1) (j - xs.length) hjl
          have e : o + n * i.size + (j - xs.length) = o + j := by rw [hv.2.1] at hjn ⊢; omega
          rw [e] at hin
          rw [hin, ← (List.getElem?_eq_some_iff.1 hj).2]
      · intro a ha j h1' h2'
        obtain rfl := Option.some.inj ha
        dsimp only
        have hle : n * i.size ≤ (n + m) * i.size := Nat.mul_le_mul_right _ (by omega)
        obtain ⟨k1, k2, k3⟩ := hs ⟨b, o, none⟩ rfl j (by omega) h2'
        dsimp only at k1 k2 k3
        rw [World.frozen?_setCells, World.cell?_setCells_out b news _ w _ (fun _ _ => Or.inr (by dsimp only; rw [hl]; rw [Nat.add_mul] at h1'; omega))]
        exact ⟨k1, k2, k3⟩
  · have hge : n + m ≤ grownCap w (n + m) cap e := grownCap_ge w (n + m) cap e
    have h63' : ((n + m : Nat) : Int) ≤ 9223372036854775807 := by simp only [maxLen] at h63; omega
    have hm : 0 < m := by have := hv.1; omega
    obtain ⟨ad, rfl⟩ : ∃ ad, bo = some ad := by
      cases bo with
      | none => have := hnone rfl; omega
      | some ad => exact ⟨ad, rfl⟩
    have hrun : (Builtin.append_ #[t, t] ty #[.slice ao n cap, .slice (some ad) m c]).run P w = .ok (.slice (some ⟨w.heap.size, 0, none⟩) (n + m) (grownCap w (n + m) cap e))
        (w.drew.alloc (.cells (xs.toArray ++ news.toArray ++ Builtin.zeroCells z.cells (grownCap w (n + m) cap e - (n + m))) e)) := by
      cases ao with
      | none =>
        have hc0 := hv.2.2.1 rfl
        obtain rfl : n = 0 := by have := hv.1; omega
        subst hc0
        have hx : xs = [] := List.eq_nil_of_length_eq_zero (by simpa using hv.2.1)
        subst hx
        have hr := run_append_nil (P := P) w t ty e i z ht hi hz ad m c news hl (hnews ad rfl) hm (by omega) (by simp only [Nat.zero_add] at hbytes; omega)
        simp only [Nat.zero_add, List.nil_append, Array.empty_append] at hr ⊢
        exact hr
      | some b =>
        exact run_append_grow (P := P) w t ty e i z ht hi hz b n cap xs hv.2.1 (fun j u hj => by
          obtain ⟨g1, _, g3⟩ := hv.2.2.2 b rfl
          have := g3 j u hj
          have hadd : b.add j = ⟨b.block, b.off + j, none⟩ := by obtain ⟨b0, o0, s0⟩ := b; dsimp only at g1; subst g1; exact Addr.add_lit ..
          rw [hadd]; exact this) ad m c news hl (hnews ad rfl) (by omega) h63' (growslice_fits (by omega) hbytes)
    have hnewb := heap_alloc_new w.drew (.cells (xs.toArray ++ news.toArray ++ Builtin.zeroCells z.cells (grownCap w (n + m) cap e - (n + m))) e)
    have hfr : Frm F w (w.drew.alloc (.cells (xs.toArray ++ news.toArray ++ Builtin.zeroCells z.cells (grownCap w (n + m) cap e - (n + m))) e)) := (Frm.refl F w).drew.alloc _
    refine ⟨_, _, _, hrun, ⟨hge, hlen, (fun h => by cases h), ?_⟩, hfr, Or.inr ⟨rfl, by simp, fun j hj => ?_⟩⟩
    · rintro a ha
      obtain rfl := Option.some.inj ha
      refine ⟨rfl, fun _ => ⟨by simp, elemAt_cells hnewb⟩, fun j u hj => ?_⟩
      dsimp only
      rw [Nat.zero_add, show w.heap.size = w.drew.heap.size from rfl, cell_block hnewb]
      have hjl := (List.getElem?_eq_some_iff.1 hj).1
      rw [Array.getElem?_append_left (by simpa using hjl)]
      rw [List.append_toArray, List.getElem?_toArray]
      exact hj
    · rw [show w.heap.size = w.drew.heap.size from rfl, cell_block hnewb, frozen_block hnewb]
      refine ⟨?_, rfl⟩
      rw [Array.getElem?_eq_some_iff.2 ⟨?_, rfl⟩]
      · rfl
      · simp only [Array.size_append, List.size_toArray, size_zeroCells, hzs, hv.2.1, hl]
        rw [← Nat.add_mul, ← Nat.add_mul]
        have : n + m + (grownCap w (n + m) cap e - (n + m)) = grownCap w (n + m) cap e := by omega
        rw [this]; exact hj

/-- .. as one step of the walk. -/
theorem wpList_app (w : World) {ops : Array Oper} {rest : List Oper} {o : Oper} {a : Act} {Q : Exit → Act → World → Prop} (hg : o.guard = none) (s x : Operand) (t : TypeId)
    (hop : o.op = Op.call { callee := Callee.builtin Builtin.append, args := #[s, x], argTypes := #[t, t] })
    (F : Nat → Nat → Prop) (e : TypeId) (i : TypeInfo) (z : Value) (size bytes : Nat) (ht : P.underlying t = some (.slice e)) (hi : P.info? e = some i) (hz : i.zero = some z)
    (hsize : i.size = size) (hby : i.bytes = bytes) (hzs : z.cells.size = size) (hsz : 0 < size)
    {ao bo : Option Addr} {n cap m c : Nat} {xs news : List Value} (hes : a.eval s = .slice ao n cap) (hex : a.eval x = .slice bo m c) (hv : Row w e size ao n cap xs) (hs : Spare F w size ao n cap)
    (hl : news.length = m * size) (hnone : bo = none → m = 0) (hnews : ∀ a, bo = some a → ∀ j u, news[j]? = some u → w.cell? (a.add j) = some u) (h1 : ∀ u ∈ news, u.oneCell' = true)
    (h63 : n + m ≤ maxLen) (hbytes : (n + m) * bytes ≤ 140737488355328)
    (hK : ∀ ao' cap' w', Row w' e size ao' (n + m) cap' (xs ++ news) → Frm F w w' →
      ((ao' = ao ∧ cap' = cap ∧ n + m ≤ cap ∧ Spare F w' size ao' (n + m) cap') ∨ (ao' = some ⟨w.heap.size, 0, none⟩ ∧ w.heap.size < w'.heap.size ∧ ∀ j, j < cap' * size → (w'.cell? ⟨w.heap.size, j, none⟩).isSome = true ∧ w'.frozen? ⟨w.heap.size, j, none⟩ = false)) →
      wpList P ops Q rest (a.put o.dst (.slice ao' (n + m) cap')) w') :
    wpList P ops Q (o :: rest) a w := by
  refine wpList_plain hg fun K hK' => ?_
  obtain ⟨ao', cap', w', hrun, r1, r2, r3⟩ := run_app (P := P) w F t o.type e i z size bytes ht hi hz hsize hby hzs hsz hv hs hl hnone hnews h1 h63 hbytes
  unfold Oper.wp execOp
  simp only [hop, resolve, invoke, builtin, Sem.run_bind, Sem.run_pure, Result.andThen_ok, List.map_toArray, List.map_cons, List.map_nil, hes, hex]
  rw [hrun]
  exact hK' _ _ (hK ao' cap' w' r1 r2 r3)

/-- .. as one step of a region that draws its order. -/
theorem step_app {ops : Array Oper} {o : Oper} {a : Act} {w : World} {K : Act → World → Prop} {Q : Exit → Act → World → Prop} {E : Prop} (hg : o.guard = none) (s x : Operand) (t : TypeId)
    (hop : o.op = Op.call { callee := Callee.builtin Builtin.append, args := #[s, x], argTypes := #[t, t] })
    (F : Nat → Nat → Prop) (e : TypeId) (i : TypeInfo) (z : Value) (size bytes : Nat) (ht : P.underlying t = some (.slice e)) (hi : P.info? e = some i) (hz : i.zero = some z)
    (hsize : i.size = size) (hby : i.bytes = bytes) (hzs : z.cells.size = size) (hsz : 0 < size)
    {ao bo : Option Addr} {n cap m c : Nat} {xs news : List Value} (hes : a.eval s = .slice ao n cap) (hex : a.eval x = .slice bo m c) (hv : Row w e size ao n cap xs) (hs : Spare F w size ao n cap)
    (hl : news.length = m * size) (hnone : bo = none → m = 0) (hnews : ∀ a, bo = some a → ∀ j u, news[j]? = some u → w.cell? (a.add j) = some u) (h1 : ∀ u ∈ news, u.oneCell' = true)
    (h63 : n + m ≤ maxLen) (hbytes : (n + m) * bytes ≤ 140737488355328)
    (hK : ∀ ao' cap' w', Row w' e size ao' (n + m) cap' (xs ++ news) → Frm F w w' →
      ((ao' = ao ∧ cap' = cap ∧ n + m ≤ cap ∧ Spare F w' size ao' (n + m) cap') ∨ (ao' = some ⟨w.heap.size, 0, none⟩ ∧ w.heap.size < w'.heap.size ∧ ∀ j, j < cap' * size → (w'.cell? ⟨w.heap.size, j, none⟩).isSome = true ∧ w'.frozen? ⟨w.heap.size, j, none⟩ = false)) →
      K (a.put o.dst (.slice ao' (n + m) cap')) w') :
    if Region.wanted o (yielded ops a.tmps) = true then Oper.wp P o a w K Q else E := by
  have hw : Region.wanted o (yielded ops a.tmps) = true := by simp [Region.wanted, hg]
  rw [if_pos hw]
  obtain ⟨ao', cap', w', hrun, r1, r2, r3⟩ := run_app (P := P) w F t o.type e i z size bytes ht hi hz hsize hby hzs hsz hv hs hl hnone hnews h1 h63 hbytes
  unfold Oper.wp execOp
  simp only [hop, resolve, invoke, builtin, Sem.run_bind, Sem.run_pure, Result.andThen_ok, List.map_toArray, List.map_cons, List.map_nil, hes, hex]
  rw [hrun]
  exact hK _ _ _ r1 r2 r3
end

end Go.K55
