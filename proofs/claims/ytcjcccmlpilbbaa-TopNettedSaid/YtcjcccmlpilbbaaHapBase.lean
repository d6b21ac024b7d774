/- HapBase: lemmas on the way to the law (no condition of their own beyond what each states). -/
import Derived.Test.YtcjcccmlpilbbaaHap0
namespace Go.Proofs.Ytcjcccmlpilbbaa
open Go.RowKit Go.K55 Go.Maps
set_option linter.unusedVariables false
set_option linter.unusedSimpArgs false

theorem Below.at {B : Nat} {w w' : World} (h : Below B w w') {b o : Nat} {v : Value} (hb : b < B) (hc : w.cell? ⟨b, o, none⟩ = some v) : w'.cell? ⟨b, o, none⟩ = some v := (h.cell (p := ⟨b, o, none⟩) hb).trans hc

/-- What a step leaves: both tell of S'. -/
def Hap (w : World) (p q : Nat) (S S' : NS) (G : Nat → Prop) (ao : Option Addr) (cap : Nat) (e : Ending) (w' : World) : Prop :=
  e = .returned (.bool true) ∧ ∃ G' ao' cap', NetG w' p S' G' ∧ W55G w' q S' ao' cap' ∧ (∀ x, G' x → G x ∨ w.heap.size ≤ x) ∧ (∀ b o, Lof ao' S'.msgs.length cap' b o → Lof ao S.msgs.length cap b o ∨ w.heap.size ≤ b) ∧
    Frm (fun b o => G b ∨ b = q ∨ Lof ao S.msgs.length cap b o) w w'

theorem W55G.below {w w' : World} {q : Nat} {S : NS} {ao : Option Addr} {cap : Nat} (h : W55G w q S ao cap) (hb : Below w.heap.size w w') : W55G w' q S ao cap :=
  ⟨h.st.below hb, h.sp.kept (H := fun _ _ => False) (Frm.of_below hb) (fun _ _ _ h => h)⟩

/-- Nothing has turned. -/
theorem Hap.same {w w' : World} {p q : Nat} {S : NS} {G : Nat → Prop} {ao : Option Addr} {cap : Nat} (hw : W55G w q S ao cap) (hn : NetG w p S G) (hb : Below w.heap.size w w') : Hap w p q S S G ao cap (.returned (.bool true)) w' :=
  ⟨rfl, G, ao, cap, hn.below hb, hw.below hb, fun _ h => Or.inl h, fun _ _ h => Or.inl h, Frm.of_below hb⟩

/-- The world in which the boxes lie. -/
def W1 (w : World) (q : Nat) (K fr to ii nn : Int) : World := (w.alloc (.cells #[.pointer (some ⟨q, 0, none⟩)] 33)).alloc (.cells #[.int .u8 K, .int .u8 fr, .int .u8 to, .int .u8 ii, .int .u8 nn] 25)

theorem W1_size (w : World) (q : Nat) (K fr to ii nn : Int) : (W1 w q K fr to ii nn).heap.size = w.heap.size + 2 := by simp [W1]

theorem W1_below (w : World) (q : Nat) (K fr to ii nn : Int) : Below w.heap.size w (W1 w q K fr to ii nn) :=
  ((Below.refl _ w).alloc (Nat.le_refl _) _).alloc (by simp) _

/-- Behind the call of link. -/
structure Ctx (w w2 : World) (p q : Nat) (S : NS) (G : Nat → Prop) (ao : Option Addr) (cap : Nat) (K fr to ii nn : Int) : Prop where
  bel : Below (w.heap.size + 2) (W1 w q K fr to ii nn) w2
  cb : w2.cell? ⟨w.heap.size, 0, none⟩ = some (.pointer (some ⟨q, 0, none⟩))
  x0 : w2.cell? ⟨w.heap.size + 1, 0, none⟩ = some (.int .u8 K)
  x1 : w2.cell? ⟨w.heap.size + 1, 1, none⟩ = some (.int .u8 fr)
  x2 : w2.cell? ⟨w.heap.size + 1, 2, none⟩ = some (.int .u8 to)
  x3 : w2.cell? ⟨w.heap.size + 1, 3, none⟩ = some (.int .u8 ii)
  x4 : w2.cell? ⟨w.heap.size + 1, 4, none⟩ = some (.int .u8 nn)
  w55 : W55G w2 q S ao cap
  net : NetG w2 p S G

theorem Ctx.of {w w2 : World} {p q : Nat} {S : NS} {G : Nat → Prop} {ao : Option Addr} {cap : Nat} {K fr to ii nn : Int} {n : Nat} (hw : W55G w q S ao cap) (hn : NetG w p S G) (hb : Below (w.heap.size + 2) ((W1 w q K fr to ii nn).drewN n) w2) : Ctx w w2 p q S G ao cap K fr to ii nn := by
  have hb' : Below (w.heap.size + 2) (W1 w q K fr to ii nn) w2 := (Below.trans (b := (W1 w q K fr to ii nn).drewN n) ⟨rfl, rfl, rfl, Nat.le_refl _, fun _ _ => rfl⟩ hb)
  have hb0 : Below w.heap.size w w2 := (W1_below w q K fr to ii nn).trans (hb'.mono (by omega))
  exact ⟨hb', Below.at hb' (by omega) (by simp [W1, World.cell?_alloc_at, World.cell?_alloc_past]), Below.at hb' (by omega) (by simp [W1, World.cell?_alloc_at, World.cell?_alloc_past]),
    Below.at hb' (by omega) (by simp [W1, World.cell?_alloc_at, World.cell?_alloc_past]), Below.at hb' (by omega) (by simp [W1, World.cell?_alloc_at, World.cell?_alloc_past]),
    Below.at hb' (by omega) (by simp [W1, World.cell?_alloc_at, World.cell?_alloc_past]), Below.at hb' (by omega) (by simp [W1, World.cell?_alloc_at, World.cell?_alloc_past]), hw.below hb0, hn.below hb0⟩

theorem Ctx.below {w w2 : World} {p q : Nat} {S : NS} {G : Nat → Prop} {ao : Option Addr} {cap : Nat} {K fr to ii nn : Int} (h : Ctx w w2 p q S G ao cap K fr to ii nn) : Below w.heap.size w w2 :=
  (W1_below w q K fr to ii nn).trans (h.bel.mono (by omega))

theorem Ctx.drewN {w w2 : World} {p q : Nat} {S : NS} {G : Nat → Prop} {ao : Option Addr} {cap : Nat} {K fr to ii nn : Int} (h : Ctx w w2 p q S G ao cap K fr to ii nn) (n : Nat) : Ctx w (w2.drewN n) p q S G ao cap K fr to ii nn :=
  ⟨h.bel.trans ⟨rfl, rfl, rfl, Nat.le_refl _, fun _ _ => rfl⟩, h.cb, h.x0, h.x1, h.x2, h.x3, h.x4, h.w55.drewN n, h.net.kept (F := fun _ _ => False) ((Frm.refl _ _).drewN n) (fun _ _ _ h => h)⟩

end Go.Proofs.Ytcjcccmlpilbbaa
