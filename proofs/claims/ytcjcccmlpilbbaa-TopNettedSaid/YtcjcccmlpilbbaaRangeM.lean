/- Ranging over a map that stays as it is, while other memory is written: maps as functions from keys to elements. No program in sight. -/
import Derived.Test.YtcjcccmlpilbbaaMaps
import Derived.Maps.RangeWalk
namespace Go.K55
open Go.RowKit
set_option linter.unusedVariables false
set_option linter.unusedSimpArgs false
open Go.Maps (Keyed)
open Go.ChangeMaps (setBlock)
open Go.MapKept (Stamped)

variable {P : Program} {k : TypeId}

/-- Block r goes over the map at b; T: the keys that have come. -/
def RangeAt (P : Program) (k : TypeId) (w : World) (b r : Nat) (M : Value → Option Value) (T : Value → Prop) : Prop :=
  ∃ es clock since c0 seen, w.heap[b]? = some (.map es clock) ∧ Stamped es clock ∧ (∀ x ∈ es.toList, ∃ l, keyOf P k x.key = some l) ∧
    (∀ key, (M key = none ∧ ∀ x ∈ es.toList, x.key ≠ key) ∨ ∃ x ∈ es.toList, x.key = key ∧ M key = some x.val) ∧
    w.heap[r]? = some (.mapIter (some b) since seen c0) ∧ (∀ x ∈ es.toList, x.born < since) ∧ since ≤ c0 ∧ c0 ≤ clock ∧
    (∀ key, T key ↔ ∃ x ∈ es.toList, x.key = key ∧ seen.contains x.born = true)

/-- How many are to come. -/
def leftN (w : World) (b r : Nat) : Nat :=
  match w.heap[b]?, w.heap[r]? with
  | some (.map es _), some (.mapIter _ _ seen _) => (leftOf es seen).size
  | _, _ => 0

/-- What is left of the step when b and r have not been touched: the entry's key and element. -/
def EntryAt (P : Program) (w : World) (b r : Nat) (key v : Value) : Prop := ∀ w', w'.heap[b]? = w.heap[b]? → w'.heap[r]? = w.heap[r]? → (Instr.entry (.pointer (some ⟨r, 0, none⟩))).run P w' = .ok (.tuple #[key, v]) w'

theorem RangeAt.of_heap {w w' : World} {b r : Nat} {M : Value → Option Value} {T : Value → Prop} (h : RangeAt P k w b r M T) (e1 : w'.heap[b]? = w.heap[b]?) (e2 : w'.heap[r]? = w.heap[r]?) : RangeAt P k w' b r M T ∧ leftN w' b r = leftN w b r := by
  refine ⟨?_, by unfold leftN; rw [e1, e2]⟩
  obtain ⟨es, clock, since, c0, seen, h1, h2, h3, h4, h5, h6⟩ := h
  exact ⟨es, clock, since, c0, seen, e1.trans h1, h2, h3, h4, e2.trans h5, h6⟩

/-- The range begins. -/
theorem RangeAt.start {w : World} {b : Nat} {M : Value → Option Value} (h : MapAt P k w b M) {t e : TypeId} (ht : P.underlying t = some (.map k e)) :
    ∃ o, (Instr.range t (.map (some b))).run P w = .ok (.pointer (some ⟨w.heap.size, 0, none⟩)) (w.alloc o) ∧ RangeAt P k (w.alloc o) b w.heap.size M (fun _ => False) := by
  obtain ⟨es, clock, hb, hst, hks, hr⟩ := h
  have hlt := (Array.getElem?_eq_some_iff.1 hb).1
  refine ⟨_, run_range_map w t k e b es clock ht hb, es, clock, clock, clock, #[], ?_, hst, hks, hr, heap_alloc_new _ _, ?_, Nat.le_refl _, Nat.le_refl _, ?_⟩
  · rw [heap_alloc_old _ _ hlt]; exact hb
  · exact ((MapKept.stamped_iff es clock).1 hst).1
  · intro key; simp

theorem mem_leftOf {es : Array MapEntry} {seen : Array Nat} {x : MapEntry} : x ∈ (leftOf es seen).toList ↔ x ∈ es.toList ∧ seen.contains x.born = false := by
  unfold leftOf
  simp

theorem leftOf_push_lt {es : Array MapEntry} {seen : Array Nat} {e : MapEntry} (he : e ∈ (leftOf es seen).toList) : (leftOf es (seen.push e.born)).size < (leftOf es seen).size := by
  have h1 : leftOf es (seen.push e.born) = (leftOf es seen).filter (fun x => !(x.born == e.born)) := by
    unfold leftOf
    rw [Array.filter_filter]
    congr 1
    funext x
    rw [Bool.eq_iff_iff]
    simp only [Array.contains_eq_any_beq, Array.any_push, Bool.not_eq_true', Bool.and_eq_true, Bool.or_eq_false_iff, beq_eq_false_iff_ne]
    constructor
    · rintro ⟨a, b⟩; exact ⟨fun h => b h, a⟩
    · rintro ⟨a, b⟩; exact ⟨b, fun h => a h⟩
  rw [h1]
  have := Array.size_filter_lt_size_iff_exists (p := fun x : MapEntry => !(x.born == e.born)) (xs := leftOf es seen)
  rw [this]
  exact ⟨e, by simpa using he, by simp⟩

/-- The range's step. -/
theorem RangeAt.next {w : World} {b r : Nat} {M : Value → Option Value} {T : Value → Prop} (h : RangeAt P k w b r M T) (ty : TypeId) :
    ((∀ key v, M key = some v → T key) ∧ (Instr.next (.pointer (some ⟨r, 0, none⟩)) false ty).run P w = .ok (.tuple #[.bool false]) w) ∨
    ∃ key v w', M key = some v ∧ ¬ T key ∧ (Instr.next (.pointer (some ⟨r, 0, none⟩)) false ty).run P w = .ok (.tuple #[.bool true, key, v]) w' ∧ RangeAt P k w' b r M (fun x => x = key ∨ T x) ∧ leftN w' b r < leftN w b r ∧
      w'.heap[b]? = w.heap[b]? ∧ (∀ F : Nat → Nat → Prop, (∀ o, F r o) → Frm F w w') ∧ w'.heap.size = w.heap.size ∧ EntryAt P w' b r key v := by
  obtain ⟨es, clock, since, c0, seen, hb, hst, hks, hr, hit, hold, hsc, hcc, hT⟩ := h
  have hrel : elemAt w r = none := by unfold elemAt; rw [hit]
  have hne : b ≠ r := fun e => by rw [e, hit] at hb; cases hb
  rcases run_next_at (P := P) w ty r b since c0 seen es clock hit hb hold hsc with ⟨h0, hrun⟩ | ⟨e, he, w1, hw1, hrun⟩
  · refine Or.inl ⟨fun key v hm => (hT key).2 ?_, hrun⟩
    rcases hr key with ⟨g, _⟩ | ⟨x, hx, rfl, hv⟩
    · rw [g] at hm; cases hm
    · refine ⟨x, hx, rfl, ?_⟩
      cases hc : seen.contains x.born with
      | true => rfl
      | false =>
        have := mem_leftOf.2 ⟨hx, hc⟩
        rw [Array.eq_empty_of_size_eq_zero h0] at this
        simp at this
  · obtain ⟨hem, hec⟩ := mem_leftOf.1 he
    have hv : M e.key = some e.val := by
      rcases hr e.key with ⟨_, g⟩ | ⟨x, hx, hxk, hv⟩
      · exact absurd rfl (g e hem)
      · obtain ⟨i, hi, ex⟩ := List.getElem_of_mem hx
        obtain ⟨j, hj, ey⟩ := List.getElem_of_mem hem
        have := other_key' hst (i := i) (j := j) (x := x) (y := e) (by rw [List.getElem?_eq_getElem hi, ex]) (by rw [List.getElem?_eq_getElem hj, ey]) hxk
        subst this
        rw [hv, ← ex, ey]
    have hb1 : w1.heap[b]? = w.heap[b]? := by rcases hw1 with rfl | rfl <;> rfl
    have hr1 : w1.heap[r]? = w.heap[r]? := by rcases hw1 with rfl | rfl <;> rfl
    have hs1 : w1.heap.size = w.heap.size := by rcases hw1 with rfl | rfl <;> rfl
    have hb' : (setBlock w1 r (.mapIter (some b) since (seen.push e.born) clock)).heap[b]? = w.heap[b]? := by
      rw [← hb1]; simp only [setBlock, Array.getElem?_setIfInBounds]; rw [if_neg (fun e => hne e.symm)]
    have hr' : (setBlock w1 r (.mapIter (some b) since (seen.push e.born) clock)).heap[r]? = some (.mapIter (some b) since (seen.push e.born) clock) := heap_setBlock_self (hr1.trans hit)
    have hsince : since ≤ clock := Nat.le_trans hsc hcc
    refine Or.inr ⟨e.key, e.val, _, hv, ?_, hrun, ⟨es, clock, since, clock, seen.push e.born, hb'.trans hb, hst, hks, hr, hr', hold, hsince, Nat.le_refl _, ?_⟩, ?_, hb', ?_, ?_, ?_⟩
    · intro ht
      obtain ⟨x, hx, hxk, hc⟩ := (hT _).1 ht
      obtain ⟨i, hi, ex⟩ := List.getElem_of_mem hx
      obtain ⟨j, hj, ey⟩ := List.getElem_of_mem hem
      have := other_key' hst (i := i) (j := j) (x := x) (y := e) (by rw [List.getElem?_eq_getElem hi, ex]) (by rw [List.getElem?_eq_getElem hj, ey]) hxk
      subst this
      rw [← ex, ey, hec] at hc; cases hc
    · intro key
      show (key = e.key ∨ T key) ↔ _
      rw [hT]
      simp only [Array.contains_eq_any_beq, Array.any_push, Bool.or_eq_true, beq_iff_eq]
      constructor
      · rintro (rfl | ⟨x, hx, hk, hc⟩)
        · exact ⟨e, hem, rfl, Or.inr rfl⟩
        · exact ⟨x, hx, hk, Or.inl hc⟩
      · rintro ⟨x, hx, hk, hc | hc⟩
        · exact Or.inr ⟨x, hx, hk, hc⟩
        · left
          obtain ⟨i, hi, ex⟩ := List.getElem_of_mem hx
          obtain ⟨j, hj, ey⟩ := List.getElem_of_mem hem
          have := other_born hst (i := i) (j := j) (x := x) (y := e) (by rw [List.getElem?_eq_getElem hi, ex]) (by rw [List.getElem?_eq_getElem hj, ey]) hc
          subst this
          rw [← hk, ← ex, ey]
    · unfold leftN
      rw [hb', hb, hr', hit]
      exact leftOf_push_lt he
    · intro F hF
      have f1 : Frm F w w1 := by
        rcases hw1 with rfl | rfl
        · exact Frm.refl _ _
        · exact (Frm.refl _ _).drew
      exact f1.trans (Frm.put1 w1 (by unfold elemAt at hrel ⊢; rw [hr1]; exact hrel) (fun _ _ _ h => by cases h) hF) (fun _ _ _ h => h)
    · rw [size_setBlock, hs1]
    · intro w' h1 h2
      exact run_entry_at w' r b since seen es clock e (h2.trans hr') ((h1.trans hb').trans hb) hem (((MapKept.stamped_iff es clock).1 hst).2.1)

section
variable (w : World) {ops : Array Oper} {rest : List Oper} {o : Oper} {a : Act} {Q : Exit → Act → World → Prop}

theorem wpList_range_at (hg : o.guard = none) (m : Operand) (t : TypeId) (hop : o.op = Op.range t m) {e : TypeId} (ht : P.underlying t = some (.map k e)) {b : Nat} {M : Value → Option Value} (hm : a.eval m = .map (some b)) (h : MapAt P k w b M)
    (hK : ∀ w', RangeAt P k w' b w.heap.size M (fun _ => False) → Below w.heap.size w w' → w'.heap.size = w.heap.size + 1 → wpList P ops Q rest (a.put o.dst (.pointer (some ⟨w.heap.size, 0, none⟩))) w') : wpList P ops Q (o :: rest) a w := by
  refine wpList_plain hg fun K' hK' => ?_
  obtain ⟨ob, hrun, r1⟩ := RangeAt.start h ht
  unfold Oper.wp
  simp [execOp, hop, hm, hrun, Result.andThen]
  exact hK' _ _ (hK _ r1 ((Below.refl _ w).alloc (Nat.le_refl _) _) (by simp))

theorem wpList_next_at (hg : o.guard = none) (it : Operand) (hop : o.op = Op.next it false) {b r : Nat} {M : Value → Option Value} {T : Value → Prop} (hit : a.eval it = .pointer (some ⟨r, 0, none⟩)) (h : RangeAt P k w b r M T)
    (hDone : (∀ key v, M key = some v → T key) → wpList P ops Q rest (a.put o.dst (.tuple #[.bool false])) w)
    (hMore : ∀ key v w', M key = some v → ¬ T key → RangeAt P k w' b r M (fun x => x = key ∨ T x) → leftN w' b r < leftN w b r → w'.heap[b]? = w.heap[b]? → (∀ F : Nat → Nat → Prop, (∀ o, F r o) → Frm F w w') → w'.heap.size = w.heap.size → EntryAt P w' b r key v →
      wpList P ops Q rest (a.put o.dst (.tuple #[.bool true, key, v])) w') : wpList P ops Q (o :: rest) a w := by
  refine wpList_plain hg fun K' hK' => ?_
  unfold Oper.wp
  rcases h.next o.type with ⟨h1, hrun⟩ | ⟨key, v, w', h1, h2, hrun, h3, h4, h5, h6, h7, h8⟩
  · simp [execOp, hop, hit, hrun, Result.andThen]
    exact hK' _ _ (hDone h1)
  · simp [execOp, hop, hit, hrun, Result.andThen]
    exact hK' _ _ (hMore key v w' h1 h2 h3 h4 h5 h6 h7 h8)
end

end Go.K55
