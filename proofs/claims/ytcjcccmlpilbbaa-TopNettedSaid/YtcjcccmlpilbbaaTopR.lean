/- TopNetted: for every input the law returns true, and each argument reads afterwards as it read before. Conditions: none. -/
import Derived.Test.YtcjcccmlpilbbaaTopW
import Derived.ProofKit
import Derived.OpenShut
import Derived.ShutString
import Derived.ChangeOld
import Derived.Below
import Derived.Deep.Slices
import Derived.Deep.Fields
import Derived.ChangeSame
namespace Go.Proofs.Ytcjcccmlpilbbaa
open Go.ChangeShapes Go.WideShapes Go.ChangeAt Go.RowKit Go.Deep
set_option linter.unusedVariables false
set_option linter.unusedSimpArgs false

section
variable {H : Type} {enc : TypeId × Value → H} {P : Program} {w : World} {base : Nat} {spare : Nat → Bool} {held : Bool}
theorem open_slice_fields {t e : TypeId} {fs : Array Field} {fuel : Nat} {cs : List Value} {x : DataW H × List MemPlace} (ht : P.underlying t = some (.slice e)) (he : P.underlying e = some (.struct fs))
    (hone : oneCellFields P fs = true) (hC : P.cellsOf e = fs.size) (h : DataW.trod enc P w base spare held fuel t cs = some x) :
    (cs = [.slice none 0 0] ∧ x = (.nil, [])) ∨
    ∃ (a : Addr) (len cap m : Nat), cs = [.slice (some a) len cap] ∧ len ≤ cap ∧ m = (if spare a.block then cap else len) ∧
      ∀ i, i < m → ∀ (j : Nat) (f : Field), fs[j]? = some f → ∃ (v : Value) (y : DataW H × List MemPlace) (n : Nat), w.cell? (a.add (i * fs.size + j)) = some v ∧ DataW.trod enc P w base spare held n f.type [v] = some y := by
  rcases open_slice ht h with h0 | ⟨a, len, cap, m, n, D, Pl, hcs, hb, hl, hm, hmm, hx, hi⟩
  · exact .inl h0
  · refine .inr ⟨a, len, cap, m, hcs, hl, hmm, fun i him j f hj => ?_⟩
    obtain ⟨cs', hc, ht'⟩ := hi i him
    rw [hC] at hc
    obtain ⟨ys, n', hn', hy, hlen, hyl, hf⟩ := DataW.trod_struct he ht'
    obtain ⟨_, hcl, hat⟩ := World.cells?_some hc
    obtain ⟨ho, hk⟩ := hone_of hone j f hj
    have hjl : j < fs.size := (Array.getElem?_eq_some_iff.1 hj).1
    have hcell := hat j hjl
    have hv : cs'[j]? = some (cs'[j]'(by omega)) := List.getElem?_eq_getElem (by omega)
    have h1 := hf j f hj
    rw [ho, hk] at h1
    have hone' : (cs'.drop j).take 1 = [cs'[j]'(by omega)] := by
      rw [List.drop_eq_getElem_cons (by omega)]
      rfl
    rw [hone'] at h1
    have hys : ys[j]? = some (ys[j]'(by omega)) := List.getElem?_eq_getElem (by omega)
    refine ⟨_, _, _, ?_, h1.trans hys⟩
    rw [← Go.Deep.add_add, hcell, hv]
end

theorem list_of {α : Type} {Q : Nat → α → Prop} : ∀ n, (∀ i, i < n → ∃ x, Q i x) → ∃ l : List α, l.length = n ∧ ∀ i x, l[i]? = some x → Q i x
  | 0, _ => ⟨[], rfl, fun i x h => by simp at h⟩
  | n + 1, h => by
    obtain ⟨l, h1, h2⟩ := list_of n (fun i hi => h i (by omega))
    obtain ⟨x, hx⟩ := h n (by omega)
    refine ⟨l ++ [x], by simp [h1], fun i y hy => ?_⟩
    by_cases e : i < n
    · rw [List.getElem?_append_left (by omega)] at hy; exact h2 i y hy
    · have hl := (List.getElem?_eq_some_iff.1 hy).1
      simp at hl
      obtain rfl : i = n := by omega
      rw [List.getElem?_append_right (by omega), h1, Nat.sub_self] at hy
      simp at hy
      rw [← hy]; exact hx

theorem wf_u8_in {n : Int} (h : (Lit.int .u8 n).wf = true) : 0 ≤ n ∧ n ≤ 255 := by
  simp only [Lit.wf, Bool.and_eq_true, decide_eq_true_eq] at h
  exact h
theorem wf_u64_in {n : Int} (h : (Lit.int .u64 n).wf = true) : 0 ≤ n ∧ n < 18446744073709551616 := by
  simp only [Lit.wf, Bool.and_eq_true, decide_eq_true_eq] at h
  have h2 : n ≤ 18446744073709551615 := h.2
  have h1 : 0 ≤ n := h.1
  omega

/-- The steps that came in. -/
theorem steps_in {H : Type} {enc : TypeId × Value → H} {W : World} {base : Nat} {held : Bool} {a2 : Option Addr} {len cap : Nat} {d : DataW H} {ps : List MemPlace}
    (h : DataW.Trod enc Try.prog W base (fun _ => true) held 23 (.slice a2 len cap) d ps) : ∃ xs : List Stp, (∀ x ∈ xs, x.ok) ∧ RowC W 5 a2 len (stps xs) := by
  obtain ⟨fuel, hf⟩ := h
  rcases open_slice_fields Try.underlying23 Try.underlying25 (by kernel_rfl) (by kernel_rfl) hf with ⟨hcs, _⟩ | ⟨a, l, c, m, hcs, hlc, hm, hcell⟩
  · simp [Value.cells] at hcs
    obtain ⟨rfl, rfl, rfl⟩ := hcs
    exact ⟨[], fun x hx => by simp at hx, rfl, fun h => by omega, fun b o hb => by cases hb⟩
  · simp [Value.cells] at hcs
    obtain ⟨rfl, rfl, rfl⟩ := hcs
    rw [if_pos rfl] at hm
    have each : ∀ i, i < len → ∃ x : Stp, x.ok ∧ W.cell? (a.add (i * 5)) = some (.int .u8 x.k) ∧ W.cell? (a.add (i * 5 + 1)) = some (.int .u8 x.fr) ∧ W.cell? (a.add (i * 5 + 2)) = some (.int .u8 x.tu) ∧ W.cell? (a.add (i * 5 + 3)) = some (.int .u8 x.ii) ∧ W.cell? (a.add (i * 5 + 4)) = some (.int .u8 x.nn) := by
      intro i hi
      have hi' : i < m := by omega
      obtain ⟨v0, y0, n0, c0, t0⟩ := hcell i hi' 0 _ rfl
      obtain ⟨v1, y1, n1, c1, t1⟩ := hcell i hi' 1 _ rfl
      obtain ⟨v2, y2, n2, c2, t2⟩ := hcell i hi' 2 _ rfl
      obtain ⟨v3, y3, n3, c3, t3⟩ := hcell i hi' 3 _ rfl
      obtain ⟨v4, y4, n4, c4, t4⟩ := hcell i hi' 4 _ rfl
      obtain ⟨k0, e0, _, w0⟩ := DataW.trod_int Try.underlying5 t0
      obtain ⟨k1, e1, _, w1⟩ := DataW.trod_int Try.underlying5 t1
      obtain ⟨k2, e2, _, w2⟩ := DataW.trod_int Try.underlying5 t2
      obtain ⟨k3, e3, _, w3⟩ := DataW.trod_int Try.underlying5 t3
      obtain ⟨k4, e4, _, w4⟩ := DataW.trod_int Try.underlying5 t4
      simp only [List.cons.injEq, and_true] at e0 e1 e2 e3 e4
      subst e0; subst e1; subst e2; subst e3; subst e4
      exact ⟨⟨k0, k1, k2, k3, k4⟩, ⟨wf_u8_in w0, wf_u8_in w1, wf_u8_in w2, wf_u8_in w3, wf_u8_in w4⟩, c0, c1, c2, c3, c4⟩
    obtain ⟨xs, hl, hx⟩ := list_of len each
    refine ⟨xs, fun x hxm => ?_, by rw [stps_length, hl], fun hpos => ?_, fun b o hb j u hj => ?_⟩
    · obtain ⟨i, hi, e⟩ := List.getElem_of_mem hxm
      exact (hx i x (by rw [List.getElem?_eq_getElem hi, e])).1
    · obtain ⟨x, _, c0, _⟩ := each 0 hpos
      obtain ⟨b, o, s⟩ := a
      cases s with
      | none => exact ⟨b, o, rfl⟩
      | some s =>
        simp only [Nat.zero_mul, Addr.add, if_true, World.cell?] at c0
        split at c0 <;> simp at c0
    · obtain rfl := Option.some.inj hb
      have hjl := (List.getElem?_eq_some_iff.1 hj).1
      rw [stps_length, hl] at hjl
      have hil : j / 5 < xs.length := by omega
      have hxi := List.getElem?_eq_getElem hil
      obtain ⟨_, c0, c1, c2, c3, c4⟩ := hx _ _ hxi
      obtain ⟨g0, g1, g2, g3, g4⟩ := stps_get xs _ _ hxi
      rw [Addr.add_lit] at c0 c1 c2 c3 c4
      rcases (show j = j / 5 * 5 ∨ j = j / 5 * 5 + 1 ∨ j = j / 5 * 5 + 2 ∨ j = j / 5 * 5 + 3 ∨ j = j / 5 * 5 + 4 by omega) with e | e | e | e | e
      · rw [← e] at c0 g0; rw [g0] at hj; rw [c0]; exact hj
      · rw [← e] at c1 g1; rw [g1] at hj; rw [c1]; exact hj
      · rw [← e] at c2 g2; rw [g2] at hj; rw [c2]; exact hj
      · rw [← e] at c3 g3; rw [g3] at hj; rw [c3]; exact hj
      · rw [← e] at c4 g4; rw [g4] at hj; rw [c4]; exact hj

theorem Try.own : ownKnob Try.prog.godebug = none := by kernel_rfl

set_option maxRecDepth 100000 in
theorem topNetted_lifted (os : Os) (started : os.Started) (H : Type) (enc : TypeId × Value → H) :
    ReturnsInHanded {} Try.checked os 3 .any (Rows.topNettedSpec.pre6 enc Try.prog Try.f3 Rows.topNettedRow.domain false) (Rows.topNettedSpec.post enc Try.prog Try.f3 false true false false) := by
  refine returnsInHanded_of_change (C := Try.checked) Try.own started (by kernel_rfl) Try.func3
    (ChangeSpec.witness6 (enc := enc) (C := Try.checked) false ⟨#[], #[.int .u8 0, .int .u64 0, .slice none 0 0], []⟩ 8 (by kernel_rfl) (by kernel_rfl) (by kernel_rfl) (by kernel_rfl)) ?_
  intro W base args ds gs before hval0 hW hcnd _
  have hval : ∀ (j : Nat) t v, Try.f3.params[j]? = some t → args[j]? = some v → Value.okWide Try.prog W .any base t v := hval0
  have hW' := hW
  obtain ⟨p, q, hA0, hV, rfl, hfz, hnd⟩ := hW
  have hA : DataW.TrodAll enc Try.prog W 0 (fun _ => true) true Try.f3.params.toList args.toList ds p := hA0
  rw [Try.params3] at hA hval
  obtain ⟨v0, vs0, d0, ds0, p0, q0, hargs, rfl, rfl, h0, r0⟩ := trodAll_cons hA
  obtain ⟨v1, vs1, d1, ds1, p1, q1, rfl, rfl, rfl, h1, r1⟩ := trodAll_cons r0
  obtain ⟨v2, vs2, d2, ds2, p2, q2, rfl, rfl, rfl, h2, r2⟩ := trodAll_cons r1
  obtain ⟨rfl, rfl, rfl⟩ := trodAll_nil r2
  obtain rfl : args = #[v0, v1, v2] := by cases args; simp_all
  obtain ⟨rfl, rfl⟩ := trodVars_none hV
  obtain ⟨a0, rfl, rfl, rfl, w0⟩ := open_int Try.underlying5 (hval 0 5 v0 rfl rfl) h0
  obtain ⟨a1, rfl, rfl, rfl, w1⟩ := open_int Try.underlying22 (hval 1 22 v1 rfl rfl) h1
  obtain ⟨a2, len2, cap2, rfl⟩ := okWide_slice Try.underlying23 (hval 2 23 v2 rfl rfl)
  have k2 := h2
  have lt2 : ∀ x ∈ p2, x.block < W.heap.size := by obtain ⟨m, hm⟩ := k2; exact DataW.trod_lt m _ _ _ hm
  obtain ⟨xs, hxs, hrow⟩ := steps_in h2
  clear hA0 hval0
  refine (top_walk a0 a1 a2 len2 cap2 xs W hxs hrow (wf_u8_in w0).1 (wf_u8_in w0).2 (wf_u64_in w1).1 (wf_u64_in w1).2).mono fun e W' ⟨he, bel⟩ => ?_
  subst he
  exact ⟨_, rfl, _, _, _, [], _, [], hW', trodAll_mk1 (shut_bool Try.underlying4 _), (trodAll_cons_mk (shut_int Try.underlying5 w0) (trodAll_cons_mk (shut_int Try.underlying22 w1) (trodAll_cons_mk (Below.trod Try.laidOut (by kernel_rfl) (of_decide_eq_true (by kernel_rfl)) k2 bel lt2) trodAll_mk0))), rfl, bel.frame _, fun h => by cases h⟩

theorem topNetted_holds : Rows.TopNettedSaid :=
  OpenClaim.holds_of_wide 3 Try.f3 rfl rfl rfl rfl rfl rfl rfl ⟨rfl, rfl, rfl, rfl, rfl⟩ rfl rfl rfl rfl rfl (by kernel_rfl) Try.func3 (by kernel_rfl)
    (of_decide_eq_true (by kernel_rfl)) (by unfold Func.isWrapper; first | (rw [if_pos (by decide +kernel)]; kernel_rfl) | (rw [if_neg (by decide +kernel)]; exact ⟨rfl, rfl⟩))
    (fun os started H enc _ => topNetted_lifted os started H enc)

#print axioms topNetted_holds

end Go.Proofs.Ytcjcccmlpilbbaa
