/- Maps as functions from keys to elements, with no program in sight: what a lookup, a store, the two steps of 'm[k] = f(m[k])' do to them. -/
import Derived.Test.YtcjcccmlpilbbaaBase
namespace Go.K55
open Go.RowKit
set_option linter.unusedVariables false
set_option linter.unusedSimpArgs false
open Go.Maps (Keyed)
open Go.ChangeMaps (setBlock)
open Go.MapKept (Stamped)

variable {P : Program} {k : TypeId}

/-- Block b is a map; M tells what lies at each key. -/
def MapAt (P : Program) (k : TypeId) (w : World) (b : Nat) (M : Value → Option Value) : Prop :=
  ∃ es clock, w.heap[b]? = some (.map es clock) ∧ Stamped es clock ∧ (∀ x ∈ es.toList, ∃ l, keyOf P k x.key = some l) ∧
    ∀ key, (M key = none ∧ ∀ x ∈ es.toList, x.key ≠ key) ∨ ∃ x ∈ es.toList, x.key = key ∧ M key = some x.val

/-- Between the two steps of 'm[k] = f(m[k])': the entry with this stamp is the key's. -/
def MapMid (P : Program) (k : TypeId) (w : World) (b : Nat) (M : Value → Option Value) (key : Value) (stamp : Nat) : Prop :=
  ∃ es clock, w.heap[b]? = some (.map es clock) ∧ Stamped es clock ∧ (∀ x ∈ es.toList, ∃ l, keyOf P k x.key = some l) ∧
    (∀ key', key' ≠ key → (M key' = none ∧ ∀ x ∈ es.toList, x.key ≠ key') ∨ ∃ x ∈ es.toList, x.key = key' ∧ M key' = some x.val) ∧
    ∃ (j : Nat) (e0 : MapEntry), es[j]? = some e0 ∧ e0.key = key ∧ e0.born = stamp

theorem MapAt.elem {w : World} {b : Nat} {M : Value → Option Value} (h : MapAt P k w b M) : elemAt w b = none := by
  obtain ⟨es, clock, hb, _⟩ := h
  unfold elemAt; rw [hb]
theorem MapAt.lt {w : World} {b : Nat} {M : Value → Option Value} (h : MapAt P k w b M) : b < w.heap.size := by
  obtain ⟨es, clock, hb, _⟩ := h
  exact (Array.getElem?_eq_some_iff.1 hb).1
theorem MapAt.of_heap {w w' : World} {b : Nat} {M : Value → Option Value} (h : MapAt P k w b M) (e : w'.heap[b]? = w.heap[b]?) : MapAt P k w' b M := by
  obtain ⟨es, clock, hb, r⟩ := h
  exact ⟨es, clock, e.trans hb, r⟩
theorem MapMid.of_heap {w w' : World} {b : Nat} {M : Value → Option Value} {key : Value} {st : Nat} (h : MapMid P k w b M key st) (e : w'.heap[b]? = w.heap[b]?) : MapMid P k w' b M key st := by
  obtain ⟨es, clock, hb, r⟩ := h
  exact ⟨es, clock, e.trans hb, r⟩
theorem MapMid.elem {w : World} {b : Nat} {M : Value → Option Value} {key : Value} {st : Nat} (h : MapMid P k w b M key st) : elemAt w b = none := by
  obtain ⟨es, clock, hb, _⟩ := h
  unfold elemAt; rw [hb]
theorem MapMid.lt {w : World} {b : Nat} {M : Value → Option Value} {key : Value} {st : Nat} (h : MapMid P k w b M key st) : b < w.heap.size := by
  obtain ⟨es, clock, hb, _⟩ := h
  exact (Array.getElem?_eq_some_iff.1 hb).1

theorem MapAt.made (w : World) : MapAt P k (w.alloc (.map #[] 0)) w.heap.size (fun _ => none) :=
  ⟨#[], 0, (MapKept.heap_alloc w _).1, MapKept.stamped_empty 0, by simp, fun key => Or.inl ⟨rfl, by simp⟩⟩

theorem MapAt.keyed {w : World} {b : Nat} {M : Value → Option Value} (h : MapAt P k w b M) {key v : Value} (hm : M key = some v) : ∃ l, keyOf P k key = some l := by
  obtain ⟨es, clock, hb, hst, hks, hr⟩ := h
  rcases hr key with ⟨h0, _⟩ | ⟨x, hx, rfl, _⟩
  · rw [h0] at hm; cases hm
  · exact hks x hx

theorem run_lookup_at {w : World} {b : Nat} {M : Value → Option Value} (h : MapAt P k w b M) {t e : TypeId} (K : Keyed P k) (ht : P.underlying t = some (.map k e)) {z : Value} (hz : (zeroValue e).run P w = .ok z w) {key : Value} {kl : Lit} (hkey : keyOf P k key = some kl) :
    (Instr.lookup t (.map (some b)) key false).run P w = .ok ((M key).getD z) w := by
  obtain ⟨es, clock, hb, hst, hks, hr⟩ := h
  rcases K.find w hkey es.toList hks with ⟨h1, h2⟩ | ⟨j, e0, h1, h2, h3⟩
  · have hM : M key = none := by
      rcases hr key with ⟨h0, _⟩ | ⟨x, hx, hxk, _⟩
      · exact h0
      · exact absurd hxk (h2 x hx)
    rw [hM]
    simp [Instr.lookup, run_underlying ht, MapKept.run_getObj_map hb, K.check w _ hkey, h1, hz, Result.andThen]
  · have hM : M key = some e0.val := by
      rcases hr key with ⟨_, h0⟩ | ⟨x, hx, hxk, hv⟩
      · exact absurd h3 (h0 e0 (List.mem_of_getElem? h2))
      · have hxe : x = e0 := by
          have hp := ((MapKept.stamped_iff es clock).1 hst).2.2
          obtain ⟨i, hi, ex⟩ := List.getElem_of_mem hx
          obtain ⟨hj, ej⟩ := List.getElem?_eq_some_iff.1 h2
          rcases Nat.lt_trichotomy i j with hij | hij | hij
          · have := List.pairwise_iff_getElem.1 hp i j hi hj hij
            rw [ex, ej, hxk, h3] at this; exact absurd rfl this
          · subst hij; rw [← ex, ej]
          · have := List.pairwise_iff_getElem.1 hp j i hj hi hij
            rw [ex, ej, hxk, h3] at this; exact absurd rfl this
        rw [hv, hxe]
    rw [hM]
    simp [Instr.lookup, run_underlying ht, MapKept.run_getObj_map hb, K.check w _ hkey, h1, Result.andThen]

theorem heap_setBlock_self {w : World} {b : Nat} {o o' : Obj} (hb : w.heap[b]? = some o) : (setBlock w b o').heap[b]? = some o' := by
  have := (Array.getElem?_eq_some_iff.1 hb).1
  simp [setBlock, Array.getElem?_setIfInBounds, this]

theorem frm_setBlock_map {w : World} {b : Nat} {F : Nat → Nat → Prop} (hb : elemAt w b = none) (es : Array MapEntry) (c : Nat) (hF : ∀ o, F b o) : Frm F w (setBlock w b (.map es c)) :=
  Frm.put1 w hb (fun _ _ _ h => by cases h) hF

theorem size_setBlock (w : World) (b : Nat) (o : Obj) : (setBlock w b o).heap.size = w.heap.size := by simp [setBlock]

theorem other_key' {es : Array MapEntry} {clock : Nat} (hst : Stamped es clock) {i j : Nat} {x y : MapEntry} (hi : es.toList[i]? = some x) (hj : es.toList[j]? = some y) (hk : x.key = y.key) : i = j := by
  have hp := ((MapKept.stamped_iff es clock).1 hst).2.2
  obtain ⟨hi', ex⟩ := List.getElem?_eq_some_iff.1 hi
  obtain ⟨hj', ey⟩ := List.getElem?_eq_some_iff.1 hj
  rcases Nat.lt_trichotomy i j with hij | hij | hij
  · have := List.pairwise_iff_getElem.1 hp i j hi' hj' hij
    rw [ex, ey, hk] at this; exact absurd rfl this
  · exact hij
  · have := List.pairwise_iff_getElem.1 hp j i hj' hi' hij
    rw [ex, ey, hk] at this; exact absurd rfl this

theorem other_born {es : Array MapEntry} {clock : Nat} (hst : Stamped es clock) {i j : Nat} {x y : MapEntry} (hi : es.toList[i]? = some x) (hj : es.toList[j]? = some y) (hk : x.born = y.born) : i = j := by
  have hp := ((MapKept.stamped_iff es clock).1 hst).2.1
  obtain ⟨hi', ex⟩ := List.getElem?_eq_some_iff.1 hi
  obtain ⟨hj', ey⟩ := List.getElem?_eq_some_iff.1 hj
  have hpw : ∀ i j (hi : i < es.toList.length) (hj : j < es.toList.length), i < j → es.toList[i].born ≠ es.toList[j].born := by
    have := List.pairwise_map.1 (List.nodup_iff_pairwise_ne.1 hp)
    exact fun i j hi hj hij => List.pairwise_iff_getElem.1 this i j hi hj hij
  rcases Nat.lt_trichotomy i j with hij | hij | hij
  · exact absurd (by rw [ex, ey, hk]) (hpw i j hi' hj' hij)
  · exact hij
  · exact absurd (by rw [ex, ey, hk]) (hpw j i hj' hi' hij)

/-- The entries behind an entry's turn. -/
theorem reads_modify {es : Array MapEntry} {clock : Nat} (hst : Stamped es clock) {j : Nat} {e0 : MapEntry} (hj : es.toList[j]? = some e0) (f : MapEntry → MapEntry) :
    ∀ x, x ∈ (es.modify j f).toList ↔ x = f e0 ∨ (x ∈ es.toList ∧ x.key ≠ e0.key) := by
  have hlist : (es.modify j f).toList = es.toList.set j (f e0) := by rw [Array.toList_modify, ChangeMaps.modify_eq_set _ _ _ _ hj]
  have hjl := (List.getElem?_eq_some_iff.1 hj).1
  intro x
  rw [hlist]
  constructor
  · intro hx
    obtain ⟨i, hi, ex⟩ := List.getElem_of_mem hx
    rw [List.getElem_set] at ex
    split at ex
    · exact Or.inl ex.symm
    · rename_i hne
      have hi' : i < es.toList.length := by simpa using hi
      refine Or.inr ⟨ex ▸ List.getElem_mem hi', fun hk => hne ?_⟩
      exact (other_key' hst (i := i) (j := j) (by rw [List.getElem?_eq_getElem hi', ex]) hj hk).symm
  · rintro (rfl | ⟨hx, hne⟩)
    · exact List.mem_iff_getElem.2 ⟨j, by simpa using hjl, by simp⟩
    · obtain ⟨i, hi, ex⟩ := List.getElem_of_mem hx
      refine List.mem_iff_getElem.2 ⟨i, by simpa using hi, ?_⟩
      rw [List.getElem_set, if_neg, ex]
      rintro rfl
      apply hne
      rw [← ex, (List.getElem?_eq_some_iff.1 hj).2]

open Classical in
noncomputable def putM (M : Value → Option Value) (key val : Value) : Value → Option Value := fun x => if x = key then some val else M x

theorem putM_same (M : Value → Option Value) (key val : Value) : putM M key val key = some val := by simp [putM]
theorem putM_other (M : Value → Option Value) {key key' : Value} (val : Value) (h : key' ≠ key) : putM M key val key' = M key' := by simp [putM, h]

theorem run_mapUpdate_at {w : World} {b : Nat} {M : Value → Option Value} (h : MapAt P k w b M) {t e : TypeId} (K : Keyed P k) (ht : P.underlying t = some (.map k e)) {key val : Value} {kl : Lit} (hkey : keyOf P k key = some kl) :
    ∃ w', (Instr.mapUpdate t (.map (some b)) key val).run P w = .ok () w' ∧ MapAt P k w' b (putM M key val) ∧ (∀ F : Nat → Nat → Prop, (∀ o, F b o) → Frm F w w') ∧ w'.heap.size = w.heap.size := by
  have hel := h.elem
  obtain ⟨es, clock, hb, hst, hks, hr⟩ := h
  rcases K.find w hkey es.toList hks with ⟨h1, h2⟩ | ⟨j, e0, h1, h2, h3⟩
  · refine ⟨setBlock w b (.map (es.push ⟨key, val, clock⟩) (clock + 1)), ?_, ⟨_, _, heap_setBlock_self hb, MapKept.stamped_push hst h2, ?_, ?_⟩, fun F hF => frm_setBlock_map hel _ _ hF, size_setBlock _ _ _⟩
    · simp [Instr.mapUpdate, run_underlying ht, MapKept.run_getObj_map hb, K.check w false hkey, h1, MapKept.run_setObj_map _ hb, Result.andThen, setBlock]
    · intro x hx
      simp only [Array.toList_push, List.mem_append, List.mem_singleton] at hx
      rcases hx with hx | rfl
      · exact hks x hx
      · exact ⟨_, hkey⟩
    · intro key'
      by_cases hk : key' = key
      · subst hk
        rw [putM_same]
        exact Or.inr ⟨⟨key', val, clock⟩, by simp, rfl, rfl⟩
      · rw [putM_other _ _ hk]
        rcases hr key' with ⟨g1, g2⟩ | ⟨x, hx, g1, g2⟩
        · refine Or.inl ⟨g1, fun x hx => ?_⟩
          simp only [Array.toList_push, List.mem_append, List.mem_singleton] at hx
          rcases hx with hx | rfl
          · exact g2 x hx
          · exact fun e => hk e.symm
        · exact Or.inr ⟨x, by simp only [Array.toList_push, List.mem_append]; exact Or.inl hx, g1, g2⟩
  · have hj : es[j]? = some e0 := by simpa using h2
    have hm := reads_modify hst h2 (fun e' => { e' with key := key, val := val })
    refine ⟨setBlock w b (.map (es.modify j (fun e' => { e' with key := key, val := val })) clock), ?_, ⟨_, _, heap_setBlock_self hb, MapKept.stamped_modify hst _ _ (fun _ _ => rfl) (fun e' _ he' => ?_), ?_, ?_⟩, fun F hF => frm_setBlock_map hel _ _ hF, size_setBlock _ _ _⟩
    · simp [Instr.mapUpdate, run_underlying ht, MapKept.run_getObj_map hb, K.check w false hkey, h1, hj, h3, K.stays w hkey, MapKept.run_setObj_map _ hb, Result.andThen, setBlock]
    · rw [hj] at he'; cases he'; exact h3.symm
    · intro x hx
      rcases (hm x).1 hx with rfl | ⟨hx, _⟩
      · exact ⟨_, hkey⟩
      · exact hks x hx
    · intro key'
      by_cases hk : key' = key
      · subst hk
        rw [putM_same]
        exact Or.inr ⟨_, (hm _).2 (Or.inl rfl), rfl, rfl⟩
      · rw [putM_other _ _ hk]
        rcases hr key' with ⟨g1, g2⟩ | ⟨x, hx, g1, g2⟩
        · refine Or.inl ⟨g1, fun x hx => ?_⟩
          rcases (hm x).1 hx with rfl | ⟨hx, _⟩
          · exact fun e => hk e.symm
          · exact g2 x hx
        · exact Or.inr ⟨x, (hm x).2 (Or.inr ⟨hx, by rw [g1, h3]; exact hk⟩), g1, g2⟩

theorem run_mapEntry_at {w : World} {b : Nat} {M : Value → Option Value} (h : MapAt P k w b M) {t e : TypeId} (K : Keyed P k) (ht : P.underlying t = some (.map k e)) {z : Value} (hz : (zeroValue e).run P w = .ok z w) {key : Value} {kl : Lit} (hkey : keyOf P k key = some kl) :
    ∃ (w' : World) (stamp : Nat), (Instr.mapEntry t (.map (some b)) key).run P w = .ok (.tuple #[(M key).getD z, .int .i64 (stamp : Int)]) w' ∧ MapMid P k w' b M key stamp ∧ (∀ F : Nat → Nat → Prop, (∀ o, F b o) → Frm F w w') ∧ w'.heap.size = w.heap.size := by
  have hel := h.elem
  obtain ⟨es, clock, hb, hst, hks, hr⟩ := h
  rcases K.find w hkey es.toList hks with ⟨h1, h2⟩ | ⟨j, e0, h1, h2, h3⟩
  · have hM : M key = none := by
      rcases hr key with ⟨h0, _⟩ | ⟨x, hx, hxk, _⟩
      · exact h0
      · exact absurd hxk (h2 x hx)
    refine ⟨setBlock w b (.map (es.push ⟨key, z, clock⟩) (clock + 1)), clock, ?_, ⟨_, _, heap_setBlock_self hb, MapKept.stamped_push hst h2, ?_, ?_, es.size, ⟨key, z, clock⟩, by simp, rfl, rfl⟩, fun F hF => frm_setBlock_map hel _ _ hF, size_setBlock _ _ _⟩
    · rw [hM]
      simp [Instr.mapEntry, run_underlying ht, MapKept.run_getObj_map hb, K.check w false hkey, h1, hz, MapKept.run_setObj_map _ hb, Result.andThen, setBlock, goInt]
    · intro x hx
      simp only [Array.toList_push, List.mem_append, List.mem_singleton] at hx
      rcases hx with hx | rfl
      · exact hks x hx
      · exact ⟨_, hkey⟩
    · intro key' hk
      rcases hr key' with ⟨g1, g2⟩ | ⟨x, hx, g1, g2⟩
      · refine Or.inl ⟨g1, fun x hx => ?_⟩
        simp only [Array.toList_push, List.mem_append, List.mem_singleton] at hx
        rcases hx with hx | rfl
        · exact g2 x hx
        · exact fun e => hk e.symm
      · exact Or.inr ⟨x, by simp only [Array.toList_push, List.mem_append]; exact Or.inl hx, g1, g2⟩
  · have hj : es[j]? = some e0 := by simpa using h2
    have hM : M key = some e0.val := by
      rcases hr key with ⟨_, h0⟩ | ⟨x, hx, hxk, hv⟩
      · exact absurd h3 (h0 e0 (List.mem_of_getElem? h2))
      · obtain ⟨i, hi, ex⟩ := List.getElem_of_mem hx
        have := other_key' hst (i := i) (j := j) (x := x) (by rw [List.getElem?_eq_getElem hi, ex]) h2 (hxk.trans h3.symm)
        subst this
        rw [hv, ← ex, (List.getElem?_eq_some_iff.1 h2).2]
    have hm := reads_modify hst h2 (fun e' => { e' with key := key })
    refine ⟨setBlock w b (.map (es.modify j (fun e' => { e' with key := key })) clock), e0.born, ?_, ⟨_, _, heap_setBlock_self hb, MapKept.stamped_modify hst _ _ (fun _ _ => rfl) (fun e' _ he' => ?_), ?_, ?_, j, { e0 with key := key }, ?_, rfl, rfl⟩, fun F hF => frm_setBlock_map hel _ _ hF, size_setBlock _ _ _⟩
    · rw [hM]
      simp [Instr.mapEntry, run_underlying ht, MapKept.run_getObj_map hb, K.check w false hkey, h1, hj, h3, K.stays w hkey, MapKept.run_setObj_map _ hb, Result.andThen, setBlock, goInt]
    · rw [hj] at he'; cases he'; exact h3.symm
    · intro x hx
      rcases (hm x).1 hx with rfl | ⟨hx, _⟩
      · exact ⟨_, hkey⟩
      · exact hks x hx
    · intro key' hk
      rcases hr key' with ⟨g1, g2⟩ | ⟨x, hx, g1, g2⟩
      · refine Or.inl ⟨g1, fun x hx => ?_⟩
        rcases (hm x).1 hx with rfl | ⟨hx, _⟩
        · exact fun e => hk e.symm
        · exact g2 x hx
      · exact Or.inr ⟨x, (hm x).2 (Or.inr ⟨hx, by rw [g1, h3]; exact hk⟩), g1, g2⟩
    · simp [Array.getElem?_modify, hj]

theorem run_entryStore_at {w : World} {b : Nat} {M : Value → Option Value} {key : Value} {stamp : Nat} (h : MapMid P k w b M key stamp) (t : TypeId) (val : Value) :
    ∃ w', (Instr.entryStore t (.map (some b)) (.int .i64 (stamp : Int)) val).run P w = .ok () w' ∧ MapAt P k w' b (putM M key val) ∧ (∀ F : Nat → Nat → Prop, (∀ o, F b o) → Frm F w w') ∧ w'.heap.size = w.heap.size := by
  have hel := h.elem
  obtain ⟨es, clock, hb, hst, hks, hr, j, e0, hj, h3, h4⟩ := h
  have h2 : es.toList[j]? = some e0 := by simpa using hj
  have hm := reads_modify hst h2 (fun e' => { e' with val := val })
  have hfind : es.findIdx? (fun e => (e.born : Int) == (stamp : Int)) = some j := by
    rw [Array.findIdx?_eq_some_iff_getElem]
    obtain ⟨hjl, ej⟩ := Array.getElem?_eq_some_iff.1 hj
    refine ⟨hjl, by rw [ej, h4]; simp, fun i hi => ?_⟩
    have hil : i < es.size := by omega
    rw [beq_iff_eq]
    intro e
    have e' : (es[i]).born = e0.born := by rw [h4]; exact_mod_cast e
    have := other_born hst (i := i) (j := j) (x := es[i]) (by simp [hil]) h2 e'
    omega
  refine ⟨setBlock w b (.map (es.modify j (fun e' => { e' with val := val })) clock), ?_, ⟨_, _, heap_setBlock_self hb, MapKept.stamped_modify hst _ _ (fun _ _ => rfl) (fun _ _ _ => rfl), ?_, ?_⟩, fun F hF => frm_setBlock_map hel _ _ hF, size_setBlock _ _ _⟩
  · simp [Instr.entryStore, MapKept.run_getObj_map hb, asInt, asIntOf, hfind, MapKept.run_setObj_map _ hb, Result.andThen, setBlock]
  · intro x hx
    rcases (hm x).1 hx with rfl | ⟨hx, _⟩
    · exact hks e0 (List.mem_of_getElem? h2)
    · exact hks x hx
  · intro key'
    by_cases hk : key' = key
    · subst hk
      rw [putM_same]
      exact Or.inr ⟨_, (hm _).2 (Or.inl rfl), h3, rfl⟩
    · rw [putM_other _ _ hk]
      rcases hr key' hk with ⟨g1, g2⟩ | ⟨x, hx, g1, g2⟩
      · refine Or.inl ⟨g1, fun x hx => ?_⟩
        rcases (hm x).1 hx with rfl | ⟨hx, _⟩
        · exact fun e => hk (e.symm.trans h3)
        · exact g2 x hx
      · exact Or.inr ⟨x, (hm x).2 (Or.inr ⟨hx, by rw [g1, h3]; exact hk⟩), g1, g2⟩

end Go.K55
