/- HapStep: lemmas on the way to the law (no condition of their own beyond what each states). -/
import Derived.Test.YtcjcccmlpilbbaaHapJ
namespace Go.Proofs.Ytcjcccmlpilbbaa
open Go.RowKit Go.K55 Go.Maps
set_option linter.unusedVariables false
set_option linter.unusedSimpArgs false

instance (S : NS) (a b : Int) : Decidable (Knows S a b) := by unfold Knows; infer_instance

/-- The step of the kept state; st is the text that a send has. -/
def NS.stepAt (S : NS) (k A B : Int) (i : Nat) (nn : Int) (st : ByteArray) : NS :=
  if k = 0 ∨ k = 1 then (if Knows S A B then S.add ⟨A, B, st⟩ else S)
  else if k = 2 ∨ k = 3 then (if Knows S A B ∧ S.side A.toNat = S.side B.toNat then (match (places A B S.msgs 0)[i]? with | some j => S.del j | none => S) else S)
  else if k = 4 then (if Knows S A B then (match (places A B S.msgs 0)[i]? with | some j => S.del j | none => S) else S)
  else if k = 5 then (if Knows S A B then (match (places A B S.msgs 0)[i]? with | some j => (match S.msgs[j]? with | some m => S.add m | none => S) | none => S) else S)
  else if k = 6 then (if bit nn S.nodes = true then S else S.sided nn 7)
  else if k = 7 then (if 1 ≤ A ∧ A ≤ (S.nodes : Int) then S.tick A.toNat else S)
  else (if (1 ≤ A ∧ A ≤ (S.nodes : Int)) ∧ 3 ≤ nn then S.draw A.toNat else S)

def NS.step (S : NS) (K fr tu ii nn : Int) (st : ByteArray) : NS := S.stepAt (K.tmod 9) (fr.tmod ((S.nodes : Int) + 2)) (tu.tmod ((S.nodes : Int) + 2)) (ii.tmod 4).toNat nn st

theorem Wf.mono {S : NS} {N M : Nat} (h : Wf S N) (hm : N ≤ M) : Wf S M := ⟨h.n1, h.n2, Nat.le_trans h.len hm, h.small, h.known⟩
theorem Wf.add {S : NS} {N : Nat} {m : Msg} (h : Wf S N) (hs : m.s.size ≤ 100) (hk : Knows S m.fr m.to) : Wf (S.add m) (N + 1) := by
  obtain ⟨⟨k1, k2⟩, k3, k4⟩ := hk
  refine ⟨h.n1, h.n2, by simp [NS.add]; exact h.len, ?_, ?_⟩
  · intro x hx
    simp only [NS.add, List.mem_append, List.mem_singleton] at hx
    rcases hx with hx | rfl
    · exact h.small x hx
    · exact hs
  · intro x hx
    simp only [NS.add, List.mem_append, List.mem_singleton] at hx
    rcases hx with hx | rfl
    · exact h.known x hx
    · exact ⟨k1, k2, k3, k4⟩
theorem Wf.del {S : NS} {N k : Nat} (h : Wf S N) : Wf (S.del k) (N + 1) := by
  have hsub : ∀ x, x ∈ (S.del k).msgs → x ∈ S.msgs := fun x hx => List.mem_of_mem_eraseIdx hx
  refine ⟨h.n1, h.n2, ?_, fun x hx => h.small x (hsub x hx), fun x hx => h.known x (hsub x hx)⟩
  have : (S.del k).msgs.length ≤ S.msgs.length := by simp only [NS.del]; rw [List.length_eraseIdx]; split <;> omega
  have := h.len; omega

theorem Wf.stepAt {S : NS} {N : Nat} {k A B nn : Int} {i : Nat} {st : ByteArray} (h : Wf S N) (hs : st.size ≤ 100) : Wf (S.stepAt k A B i nn st) (N + 1) := by
  have h0 : Wf S (N + 1) := h.mono (by omega)
  unfold NS.stepAt
  repeat' split
  all_goals first | exact h0 | exact h.del | exact h.add hs (by assumption) | exact ⟨h0.n1, h0.n2, h0.len, h0.small, h0.known⟩ | skip
  rename_i hm
  have hm' := List.mem_of_getElem? hm
  exact h.add (h.small _ hm') ⟨⟨(h.known _ hm').1, (h.known _ hm').2.1⟩, (h.known _ hm').2.2.1, (h.known _ hm').2.2.2⟩

theorem stepAt_nodes {S : NS} {k A B nn : Int} {i : Nat} {st : ByteArray} : (S.stepAt k A B i nn st).nodes = S.nodes := by
  unfold NS.stepAt
  repeat' split
  all_goals rfl

end Go.Proofs.Ytcjcccmlpilbbaa
