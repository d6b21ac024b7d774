/- Plain facts on lists of messages, with no program in sight. -/
import Derived.Test.YtcjcccmlpilbbaaNetSt
namespace Go.Proofs.Ytcjcccmlpilbbaa
open Go.RowKit Go.K55 Go.Maps
set_option linter.unusedVariables false
set_option linter.unusedSimpArgs false

def hit (a b : Int) (m : Msg) : Bool := m.fr == a && m.to == b

/-- The places of a link's messages, from 'base' on. -/
def places (a b : Int) : List Msg → Nat → List Nat
  | [], _ => []
  | m :: r, base => if hit a b m then base :: places a b r (base + 1) else places a b r (base + 1)

theorem places_length (a b : Int) : ∀ (l : List Msg) (base : Nat), (places a b l base).length = (l.filter (hit a b)).length
  | [], _ => rfl
  | m :: r, base => by
    unfold places
    by_cases h : hit a b m = true
    · simp [h, places_length a b r]
    · simp [h, places_length a b r]

theorem places_get (a b : Int) : ∀ (l : List Msg) (base i k : Nat), (places a b l base)[i]? = some k →
    base ≤ k ∧ ∃ m, l[k - base]? = some m ∧ hit a b m = true ∧ (l.filter (hit a b))[i]? = some m ∧ ∀ c d, (l.eraseIdx (k - base)).filter (hit c d) = if c = a ∧ d = b then (l.filter (hit a b)).eraseIdx i else l.filter (hit c d)
  | [], _, _, _, h => by simp [places] at h
  | m :: r, base, i, k, h => by
    unfold places at h
    by_cases hm : hit a b m = true
    · rw [if_pos hm] at h
      cases i with
      | zero =>
        simp at h
        subst h
        refine ⟨Nat.le_refl _, m, by simp, hm, by simp [hm], fun c d => ?_⟩
        simp only [Nat.sub_self, List.eraseIdx_zero, List.tail_cons]
        by_cases e : c = a ∧ d = b
        · obtain ⟨rfl, rfl⟩ := e
          simp [hm]
        · rw [if_neg e]
          have hn : hit c d m = false := by
            unfold hit at hm ⊢
            simp only [Bool.and_eq_true, beq_iff_eq] at hm
            simp only [Bool.and_eq_false_iff, beq_eq_false_iff_ne]
            by_cases e1 : c = a
            · exact Or.inr (fun e2 => e ⟨e1, by rw [← e2, hm.2]⟩)
            · exact Or.inl (fun e2 => e1 (by rw [← e2, hm.1]))
          simp [hn]
      | succ i =>
        simp at h
        obtain ⟨h1, m', h2, h3, h4, h5⟩ := places_get a b r (base + 1) i k h
        have e : k - base = (k - (base + 1)) + 1 := by omega
        refine ⟨by omega, m', by rw [e]; simpa using h2, h3, by simpa [hm] using h4, fun c d => ?_⟩
        rw [e, List.eraseIdx_cons_succ]
        have h5' := h5 c d
        by_cases ecd : c = a ∧ d = b
        · obtain ⟨rfl, rfl⟩ := ecd
          simp [hm] at h5' ⊢
          exact h5'
        · rw [if_neg ecd] at h5' ⊢
          simp only [List.filter_cons, h5']
    · rw [if_neg hm] at h
      obtain ⟨h1, m', h2, h3, h4, h5⟩ := places_get a b r (base + 1) i k h
      have e : k - base = (k - (base + 1)) + 1 := by omega
      refine ⟨by omega, m', by rw [e]; simpa using h2, h3, by simpa [hm] using h4, fun c d => ?_⟩
      rw [e, List.eraseIdx_cons_succ]
      have h5' := h5 c d
      by_cases ecd : c = a ∧ d = b
      · obtain ⟨rfl, rfl⟩ := ecd
        simp [hm] at h5' ⊢
        exact h5'
      · rw [if_neg ecd] at h5' ⊢
        simp only [List.filter_cons, h5']

theorem link_eq (S : NS) (a b : Int) : S.link a b = (S.msgs.filter (hit a b)).map (·.s) := rfl

/-- A message more. -/
def NS.add (S : NS) (m : Msg) : NS := { S with msgs := S.msgs ++ [m] }
/-- A message less. -/
def NS.del (S : NS) (k : Nat) : NS := { S with msgs := S.msgs.eraseIdx k }

theorem link_add_same (S : NS) (a b : Int) (s : ByteArray) : (S.add ⟨a, b, s⟩).link a b = S.link a b ++ [s] := by
  simp [link_eq, NS.add, hit, List.filter_append]

theorem link_add_other (S : NS) (a b : Int) (s : ByteArray) {c d : Int} (h : ¬ (c = a ∧ d = b)) : (S.add ⟨a, b, s⟩).link c d = S.link c d := by
  have : hit c d ⟨a, b, s⟩ = false := by
    unfold hit
    simp only [Bool.and_eq_false_iff, beq_eq_false_iff_ne]
    by_cases e1 : c = a
    · exact Or.inr (fun e2 => h ⟨e1, e2.symm⟩)
    · exact Or.inl (fun e2 => e1 e2.symm)
  simp [link_eq, NS.add, List.filter_append, this]

theorem link_del_same (S : NS) {a b : Int} {i k : Nat} (h : (places a b S.msgs 0)[i]? = some k) : (S.del k).link a b = (S.link a b).eraseIdx i := by
  obtain ⟨_, m, _, _, _, h5⟩ := places_get a b S.msgs 0 i k h
  have := h5 a b
  rw [if_pos ⟨rfl, rfl⟩] at this
  simp only [link_eq, NS.del]
  rw [Nat.sub_zero] at this
  rw [this]
  exact ChangeMaps.map_eraseIdx _ _ _

theorem link_del_other (S : NS) {a b : Int} {i k : Nat} (h : (places a b S.msgs 0)[i]? = some k) {c d : Int} (hn : ¬ (c = a ∧ d = b)) : (S.del k).link c d = S.link c d := by
  obtain ⟨_, m, _, _, _, h5⟩ := places_get a b S.msgs 0 i k h
  have := h5 c d
  rw [if_neg hn, Nat.sub_zero] at this
  simp only [link_eq, NS.del, this]

theorem link_length (S : NS) (a b : Int) : (S.link a b).length = (places a b S.msgs 0).length := by
  rw [places_length, link_eq, List.length_map]

theorem link_get (S : NS) {a b : Int} {i k : Nat} (h : (places a b S.msgs 0)[i]? = some k) : ∃ m, S.msgs[k]? = some m ∧ m.fr = a ∧ m.to = b ∧ (S.link a b)[i]? = some m.s := by
  obtain ⟨_, m, h1, h2, h3, _⟩ := places_get a b S.msgs 0 i k h
  unfold hit at h2
  simp only [Bool.and_eq_true, beq_iff_eq] at h2
  refine ⟨m, by simpa using h1, h2.1, h2.2, ?_⟩
  rw [link_eq, List.getElem?_map, h3]; rfl

end Go.Proofs.Ytcjcccmlpilbbaa
