/- HapG: lemmas on the way to the law (no condition of their own beyond what each states). -/
import Derived.Test.YtcjcccmlpilbbaaHapLem
namespace Go.Proofs.Ytcjcccmlpilbbaa
open Go.RowKit Go.K55 Go.Maps
set_option linter.unusedVariables false
set_option linter.unusedSimpArgs false

/-- The message's cells. -/
def msgX (A B : Int) (t : ByteArray) : Obj := .cells #[.int .i64 A, .int .i64 B, .string t] 60

/-- What the append of a message wants. -/
structure Grow (w3 : World) (q B : Nat) (S : NS) (ao : Option Addr) (cap : Nat) (A C : Int) (t : ByteArray) : Prop where
  row : Row (w3.alloc (msgX A C t)).drew 60 3 ao S.msgs.length cap (pkts S.msgs)
  sp : Spare (Lof ao S.msgs.length cap) (w3.alloc (msgX A C t)).drew 3 ao S.msgs.length cap
  news : ∀ y, some (⟨w3.heap.size, 0, none⟩ : Addr) = some y → ∀ j u, [Value.int .i64 A, .int .i64 C, .string t][j]? = some u → (w3.alloc (msgX A C t)).drew.cell? (y.add j) = some u
  one : ∀ u ∈ [Value.int .i64 A, .int .i64 C, .string t], u.oneCell' = true
  c0 : (w3.alloc (msgX A C t)).drew.cell? ⟨B, 0, none⟩ = some (.pointer (some ⟨q, 0, none⟩)) ∧ (w3.alloc (msgX A C t)).drew.cell? ⟨q, 1, none⟩ = some (.slice ao S.msgs.length cap)
  keep : ∀ w4, Frm (Lof ao S.msgs.length cap) (w3.alloc (msgX A C t)).drew w4 → w4.cell? ⟨B, 0, none⟩ = some (.pointer (some ⟨q, 0, none⟩)) ∧ w4.cell? ⟨q, 1, none⟩ = some (.slice ao S.msgs.length cap) ∧ w4.frozen? ⟨q, 1, none⟩ = false

theorem Grow.of {w3 : World} {q B : Nat} {S : NS} {ao : Option Addr} {cap : Nat} (h : W55G w3 q S ao cap) (hB : w3.cell? ⟨B, 0, none⟩ = some (.pointer (some ⟨q, 0, none⟩))) (hBt : elemAt w3 B ≠ some 60) (A C : Int) (t : ByteArray) : Grow w3 q B S ao cap A C t := by
  have f : Frm (fun _ _ => False) w3 (w3.alloc (msgX A C t)).drew := ((Frm.refl _ w3).alloc _).drew
  have hBl := World.block_lt_of_cell? w3 _ hB
  have hql := h.st.lt
  have r := h.st.row.kept f (fun _ _ _ _ _ _ h => h)
  have hs : Spare (fun _ _ => True) (w3.alloc (msgX A C t)).drew 3 ao S.msgs.length cap := h.sp.kept (H := fun _ _ => False) f (fun _ _ _ h => h)
  have e1 := (f.cel B 0 hBl (fun h => h)).trans hB
  have e2 := (f.cel q 1 hql (fun h => h)).trans h.st.c1
  refine ⟨r, spare_Lof r hs, ?_, ?_, ⟨e1, e2⟩, ?_⟩
  · intro y hy j u hj
    obtain rfl := Option.some.inj hy
    obtain ⟨hj', e⟩ := List.getElem?_eq_some_iff.1 hj
    rw [Addr.add_lit]
    match j, hj' with
    | 0, _ => simp at e; subst e; simp [msgX, World.cell?_alloc_at]
    | 1, _ => simp at e; subst e; simp [msgX, World.cell?_alloc_at]
    | 2, _ => simp at e; subst e; simp [msgX, World.cell?_alloc_at]
  · intro u hu; simp at hu; rcases hu with rfl | rfl | rfl <;> rfl
  · intro w4 f4
    have hBl' : B < w3.heap.size := hBl
    have s4 : w3.heap.size < (w3.alloc (msgX A C t)).drew.heap.size := by simp
    have t1 : ∀ o, ¬ Lof ao S.msgs.length cap B o := fun o ho => hBt (Lof_type h.st.row ho).2
    have t2 : ∀ o, ¬ Lof ao S.msgs.length cap q o := fun o ho => by have := (Lof_type h.st.row ho).2; rw [h.st.eq] at this; cases this
    exact ⟨(f4.cel _ _ (by omega) (t1 _)).trans e1, (f4.cel _ _ (by omega) (t2 _)).trans e2, (f4.frz _ _ (by omega)).trans ((f.frz _ _ hql).trans (h.st.fz 1))⟩

theorem Ctx.boxt {w w2 : World} {p q : Nat} {S : NS} {G : Nat → Prop} {ao : Option Addr} {cap : Nat} {K fr to ii nn : Int} (h : Ctx w w2 p q S G ao cap K fr to ii nn) : elemAt w2 w.heap.size ≠ some 60 := by
  have e : w2.heap[w.heap.size]? = _ := h.bel.block w.heap.size (by omega)
  unfold elemAt
  rw [e]
  have e2 : (W1 w q K fr to ii nn).heap[w.heap.size]? = some (.cells #[.pointer (some ⟨q, 0, none⟩)] 33) := by
    unfold W1
    rw [Below.heap_alloc _ _ _ (by simp)]
    exact (MapKept.heap_alloc w _).1
  rw [e2]
  intro h
  injection h with h
  exact absurd h (by decide)

theorem Hap.sameA {w w2 w4 : World} {p q : Nat} {S : NS} {G : Nat → Prop} {ao : Option Addr} {cap : Nat} (hw : W55G w q S ao cap) (hn : NetG w p S G) (hb : Below w.heap.size w w2) (hb4 : Below w2.heap.size w2 w4) (o : Obj) : Hap w p q S S G ao cap (.returned (.bool true)) (w4.alloc o) :=
  Hap.same hw hn ((hb.trans (hb4.mono hb.size)).alloc (by have := hb.size; have := hb4.size; omega) _)

theorem link_cell {w2 : World} {ai : Option Addr} {ci i k : Nat} {l : List Nat} (h : Row w2 3 1 ai l.length ci (ints (natInts l))) (hi : l[i]? = some k) :
    ∃ b o, ai = some ⟨b, o, none⟩ ∧ w2.cell? ⟨b, o + i, none⟩ = some (.int .i64 (k : Int)) := by
  have hlt := (List.getElem?_eq_some_iff.1 hi).1
  have h1 := h.1
  obtain ⟨b, o, rfl⟩ := h.some (by omega)
  refine ⟨b, o, rfl, h.cell ?_⟩
  simp [ints, natInts, hi]

theorem place_msg {A B : Int} {l : List Msg} {i k : Nat} (h : (places A B l 0)[i]? = some k) : ∃ m, l[k]? = some m ∧ k < l.length ∧ m.fr = A ∧ m.to = B := by
  obtain ⟨_, m, hm, hh, _⟩ := places_get A B l 0 i k h
  simp only [Nat.sub_zero] at hm
  refine ⟨m, hm, (List.getElem?_eq_some_iff.1 hm).1, ?_⟩
  simpa [hit] using hh

theorem pre_size {s : ByteArray} (h : s.size ≤ 2) : ((⟨#[109]⟩ : ByteArray) ++ s).size ≤ 100 := by
  rw [ByteArray.size_append]
  have : (⟨#[109]⟩ : ByteArray).size = 1 := rfl
  omega

end Go.Proofs.Ytcjcccmlpilbbaa
