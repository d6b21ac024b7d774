/- Hap0: lemmas on the way to the law (no condition of their own beyond what each states). -/
import Derived.Test.YtcjcccmlpilbbaaWithout
namespace Go.Proofs.Ytcjcccmlpilbbaa
open Go.RowKit Go.K55 Go.Maps
set_option linter.unusedVariables false
set_option linter.unusedSimpArgs false

/-- What a turn of the kept messages leaves. -/
def Moved (w : World) (q : Nat) (S' : NS) (L : Nat → Nat → Prop) (w' : World) : Prop :=
  ∃ ao' cap', W55G w' q S' ao' cap' ∧ Frm (fun b o => b = q ∨ L b o) w w' ∧ ∀ b o, Lof ao' S'.msgs.length cap' b o → L b o ∨ w.heap.size ≤ b

theorem W55G.drewN {w : World} {q : Nat} {S : NS} {ao : Option Addr} {cap : Nat} (h : W55G w q S ao cap) (n : Nat) : W55G (w.drewN n) q S ao cap :=
  ⟨h.st.kept (F := fun _ _ => False) ((Frm.refl _ _).drewN n) (fun _ h => h) (fun _ _ _ _ _ _ h => h), h.sp.kept (H := fun _ _ => False) ((Frm.refl _ _).drewN n) (fun _ _ _ h => h)⟩

theorem del_pkts (l : List Msg) (k : Nat) : (pkts l).take (k * 3) ++ (pkts l).drop ((k + 1) * 3) = pkts (l.eraseIdx k) := by
  rw [pkts_take, pkts_drop, ← pkts_append, List.eraseIdx_eq_take_drop_succ]

theorem without_spec {w : World} {q B : Nat} {S : NS} {ao : Option Addr} {cap k : Nat} (h : W55G w q S ao cap) (hB : w.cell? ⟨B, 0, none⟩ = some (.pointer (some ⟨q, 0, none⟩))) (hk : k < S.msgs.length) (hl : S.msgs.length ≤ 900) :
    Calls Try.prog 12 #[.int .i64 (k : Int), .pointer (some ⟨B, 0, none⟩)] w fun e w' => e = .returned (.tuple #[]) ∧ Moved w q (S.del k) (Lof ao S.msgs.length cap) w' := by
  have hncap := h.st.row.1
  obtain ⟨xb, off, rfl⟩ := h.st.row.some (by omega)
  refine (without_walk q B _ xb off cap k _ w hB h.st.c1 (h.st.fz 1) h.st.row (pkts_one _) hl hk).mono ?_
  rintro e w' ⟨rfl, ao', cap', w2, m, r2, s2, f2, l2, rfl⟩
  refine ⟨rfl, ao', cap', ?_, ?_, ?_⟩
  · have e1 : S.msgs.length - 1 = (S.del k).msgs.length := by simp only [NS.del]; rw [List.length_eraseIdx, if_pos hk]
    rw [del_pkts] at r2
    rw [e1] at r2 s2 ⊢
    exact (h.st.renew f2 (fun _ h => h) r2 s2 rfl rfl rfl rfl).drewN m
  · exact (((f2.mono (fun _ _ _ h => h.elim)).setCell _ (fun _ => Or.inl rfl)).drewN m)
  · rintro b o ⟨ob, rfl, h1, h2⟩
    exact Or.inr (l2 ⟨b, ob, none⟩ rfl (by omega))

end Go.Proofs.Ytcjcccmlpilbbaa
