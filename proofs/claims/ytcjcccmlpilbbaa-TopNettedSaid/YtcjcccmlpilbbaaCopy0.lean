/- Copy0: lemmas on the way to the law (no condition of their own beyond what each states). -/
import Derived.Test.YtcjcccmlpilbbaaCloneW
import Derived.Test.YtcjcccmlpilbbaaReg
namespace Go.Proofs.Ytcjcccmlpilbbaa
open Go.RowKit Go.K55 Go.Maps
set_option linter.unusedVariables false
set_option linter.unusedSimpArgs false

/-- The machines' cells. -/
def machV (S : NS) (n : Nat) : List Value := (List.range n).flatMap fun i => [.int .i64 (S.ticks (i + 1)), .int .u64 (S.draws (i + 1)), .bool (S.side (i + 1))]

theorem machV_succ (S : NS) (n : Nat) : machV S (n + 1) = machV S n ++ [.int .i64 (S.ticks (n + 1)), .int .u64 (S.draws (n + 1)), .bool (S.side (n + 1))] := by
  simp [machV, List.range_succ]
theorem machV_length (S : NS) : ∀ n, (machV S n).length = n * 3
  | 0 => rfl
  | n + 1 => by rw [machV_succ, List.length_append, machV_length S n]; simp; omega
theorem machV_get (S : NS) : ∀ n i, i < n → (machV S n)[i * 3]? = some (.int .i64 (S.ticks (i + 1))) ∧ (machV S n)[i * 3 + 1]? = some (.int .u64 (S.draws (i + 1))) ∧ (machV S n)[i * 3 + 2]? = some (.bool (S.side (i + 1)))
  | n + 1, i, h => by
    rw [machV_succ]
    by_cases e : i = n
    · subst e
      have hl := machV_length S i
      refine ⟨?_, ?_, ?_⟩
      · rw [List.getElem?_append_right (by omega), hl, Nat.sub_self]; rfl
      · rw [List.getElem?_append_right (by omega), hl, show i * 3 + 1 - i * 3 = 1 by omega]; rfl
      · rw [List.getElem?_append_right (by omega), hl, show i * 3 + 2 - i * 3 = 2 by omega]; rfl
    · have hl := machV_length S n
      obtain ⟨h1, h2, h3⟩ := machV_get S n i (by omega)
      refine ⟨?_, ?_, ?_⟩
      · rw [List.getElem?_append_left (by omega)]; exact h1
      · rw [List.getElem?_append_left (by omega)]; exact h2
      · rw [List.getElem?_append_left (by omega)]; exact h3
theorem machV_one (S : NS) (n : Nat) : ∀ u ∈ machV S n, u.oneCell' = true := by
  intro u hu
  obtain ⟨i, _, hi⟩ := List.mem_flatMap.1 hu
  simp at hi
  rcases hi with rfl | rfl | rfl <;> rfl

theorem NetW.machRow {w : World} {p : Nat} {S : NS} {G : Nat → Prop} {lb mb mcap : Nat} {M : Value → Option Value} (h : NetW w p S G lb mb mcap M) (hmc : S.nodes ≤ mcap) : Row w 48 3 (some ⟨mb, 0, none⟩) S.nodes mcap (machV S S.nodes) := by
  refine ⟨hmc, machV_length S _, (fun h => by cases h), fun y hy => ?_⟩
  obtain rfl := Option.some.inj hy
  refine ⟨rfl, fun _ => ⟨h.glt _ h.gm, h.em⟩, fun j u hj => ?_⟩
  have hl := (List.getElem?_eq_some_iff.1 hj).1
  rw [machV_length] at hl
  obtain ⟨g1, g2, g3⟩ := machV_get S S.nodes (j / 3) (by omega)
  have t := h.tk (j / 3) (by omega)
  have d := h.dr (j / 3) (by omega)
  have s := h.sd (j / 3) (by omega)
  simp only [Nat.zero_add]
  rcases (show j = j / 3 * 3 ∨ j = j / 3 * 3 + 1 ∨ j = j / 3 * 3 + 2 by omega) with e | e | e
  · rw [← e] at g1 t; rw [g1] at hj; rw [t]; exact hj
  · rw [← e] at g2 d; rw [g2] at hj; rw [d]; exact hj
  · rw [← e] at g3 s; rw [g3] at hj; rw [s]; exact hj

/-- The parts of a copied net, before its links are laid: c the net, cl its map, b its machines. -/
structure CopyM (w wx : World) (S : NS) (c cl b cap' : Nat) : Prop where
  bel : Below w.heap.size w wx
  c0 : wx.cell? ⟨c, 0, none⟩ = some (.map (some cl))
  c1 : wx.cell? ⟨c, 1, none⟩ = some (.slice (some ⟨b, 0, none⟩) S.nodes cap')
  c2 : wx.cell? ⟨c, 2, none⟩ = some (.int .i64 (S.msgs.length : Int))
  f2 : wx.frozen? ⟨c, 2, none⟩ = false
  ep : elemAt wx c = some 46
  row : Row wx 48 3 (some ⟨b, 0, none⟩) S.nodes cap' (machV S S.nodes)
  mf : ∀ j, j < S.nodes * 3 → wx.frozen? ⟨b, j, none⟩ = false
  map : MapAt Try.prog 51 wx cl (fun _ => none)
  hc : w.heap.size ≤ c
  hcl : w.heap.size ≤ cl
  hb : w.heap.size ≤ b

/-- The net box is laid last. -/
theorem CopyM.of {w w3 : World} {S : NS} {cl b cap' : Nat} (bel : Below w.heap.size w w3) (row : Row w3 48 3 (some ⟨b, 0, none⟩) S.nodes cap' (machV S S.nodes)) (mf : ∀ j, j < S.nodes * 3 → w3.frozen? ⟨b, j, none⟩ = false) (map : MapAt Try.prog 51 w3 cl (fun _ => none))
    (hcl : w.heap.size ≤ cl) (hb : w.heap.size ≤ b) (hbl : b < w3.heap.size) :
    CopyM w (w3.alloc (.cells #[.map (some cl), .slice (some ⟨b, 0, none⟩) S.nodes cap', .int .i64 (S.msgs.length : Int)] 46)) S w3.heap.size cl b cap' := by
  refine ⟨bel.alloc bel.size _, ?_, ?_, ?_, ?_, ?_, ?_, ?_, ?_, bel.size, hcl, hb⟩
  · simp [World.cell?_alloc_at]
  · simp [World.cell?_alloc_at]
  · simp [World.cell?_alloc_at]
  · exact World.frozen?_alloc_at _ _ _ _ rfl
  · exact elemAt_alloc_new _ _ _ _
  · exact row.kept (F := fun _ _ => False) (Frm.alloc1 _ _) (fun _ _ _ _ _ _ h => h)
  · intro j hj; rw [World.frozen?_alloc_past _ _ _ hbl]; exact mf j hj
  · exact map.of_heap (Below.heap_alloc _ _ _ map.lt)

end Go.Proofs.Ytcjcccmlpilbbaa
