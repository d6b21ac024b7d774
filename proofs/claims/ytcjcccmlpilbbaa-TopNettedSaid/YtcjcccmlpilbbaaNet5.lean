/- Net5: lemmas on the way to the law (no condition of their own beyond what each states). -/
import Derived.Test.YtcjcccmlpilbbaaNet4
import Derived.Test.YtcjcccmlpilbbaaPlain
namespace Go.Proofs.Ytcjcccmlpilbbaa
open Go.RowKit Go.K55 Go.Maps
set_option linter.unusedVariables false
set_option linter.unusedSimpArgs false

/-- What is always so of a net that one tells of. -/
structure Wf (S : NS) (N : Nat) : Prop where
  n1 : 1 ≤ S.nodes
  n2 : S.nodes ≤ 5
  len : S.msgs.length ≤ N
  small : ∀ m ∈ S.msgs, m.s.size ≤ 100
  known : ∀ m ∈ S.msgs, 1 ≤ m.fr ∧ m.fr ≤ S.nodes ∧ 1 ≤ m.to ∧ m.to ≤ S.nodes

def NetG (w : World) (p : Nat) (S : NS) (G : Nat → Prop) : Prop := ∃ lb mb mcap M, NetW w p S G lb mb mcap M ∧ S.nodes ≤ mcap

def Knows (S : NS) (a b : Int) : Prop := (1 ≤ a ∧ a ≤ S.nodes) ∧ 1 ≤ b ∧ b ≤ S.nodes
def Unknown (S : NS) (a b : Int) : Prop := (a < 1 ∨ (S.nodes : Int) < a) ∨ (b < 1 ∨ (S.nodes : Int) < b)

/-- What an operation on a net that writes leaves. -/
def Turned (w : World) (p : Nat) (S' : NS) (G : Nat → Prop) (v : Value) (e : Ending) (w' : World) : Prop :=
  e = .returned v ∧ ∃ G', NetG w' p S' G' ∧ (∀ x, G' x → G x ∨ w.heap.size ≤ x) ∧ Frm (fun x _ => G x) w w'
/-- .. that writes nothing of it. -/
def Same (w : World) (v : Value) (e : Ending) (w' : World) : Prop := e = .returned v ∧ Below w.heap.size w w'

theorem link_len {S : NS} {N : Nat} (hS : Wf S N) (a b : Int) : (S.link a b).length ≤ N := by
  rw [link_eq, List.length_map]
  exact Nat.le_trans (List.length_filter_le _ _) hS.len

theorem NetW.lookup {w : World} {p : Nat} {S : NS} {G : Nat → Prop} {lb mb mcap : Nat} {M : Value → Option Value} (h : NetW w p S G lb mb mcap M) {a b : Int} (wa : (Lit.int .i64 a).wf = true) (wb : (Lit.int .i64 b).wf = true) :
    (Instr.lookup 43 (.map (some lb)) (.agg #[.int .i64 a, .int .i64 b]) false).run Try.prog w = .ok ((M (key a b)).getD nilS) w := by
  obtain ⟨kl, hk⟩ := keyOf_key wa wb
  exact run_lookup_at h.map Try.keyed51 Try.underlying43 (zero52 w) hk

theorem send_spec {w : World} {p : Nat} {S : NS} {G : Nat → Prop} {N : Nat} (h : NetG w p S G) (hS : Wf S N) (hN : N ≤ 900) {a b : Int} (hk : Knows S a b) (s : ByteArray) (hs : s.size ≤ 100) :
    Calls Try.prog 14 #[.pointer (some ⟨p, 0, none⟩), .int .i64 a, .int .i64 b, .string s] w (Turned w p (S.add ⟨a, b, s⟩) G (.int .i64 0)) := by
  obtain ⟨lb, mb, mcap, M, h, hmc⟩ := h
  obtain ⟨⟨h1, h2⟩, h3, h4⟩ := hk
  have hn := hS.n2
  have hlk := link_len hS a b
  have hlen := hS.len
  obtain ⟨ao, cap, g1, g2, g3, g4⟩ := h.row a b
  refine (send_walk p mb lb S.nodes mcap a b (S.msgs.length : Int) s ao _ cap _ M w (by omega) h.c1 h1 h2 h3 h4 h.c0 h.c2 h.f2 h.ep (by omega) (by omega) (by omega) h.map g1 g2 g3 (by omega)).mono ?_
  rintro e w' ⟨rfl, ao', cap', w2, m2, r2, s2, l2, f2, rfl⟩
  have hl : (S.link a b ++ [s]).length = (S.link a b).length + 1 := by simp
  have hst : strs (S.link a b) ++ [.string s] = strs (S.link a b ++ [s]) := by simp [strs]
  rw [← hl] at m2 s2
  rw [← hl, hst] at r2
  obtain ⟨G', n1, n2⟩ := h.put (S' := S.add ⟨a, b, s⟩) g1 f2 (fun x o hx => hx.imp id id) m2 r2 s2 l2 ⟨h1, h2⟩ ⟨h3, h4⟩ rfl rfl rfl rfl (link_add_same S a b s) (fun c d hcd => link_add_other S a b s hcd)
  have e1 : (((S.add ⟨a, b, s⟩).msgs.length : Nat) : Int) = (S.msgs.length : Int) + 1 := by simp [NS.add]
  rw [e1] at n1
  refine ⟨rfl, G', ⟨lb, mb, mcap, _, n1, hmc⟩, n2, ?_⟩
  refine ((f2.mono (G := fun x _ => G x) ?_).setCell _ (fun _ => h.gp))
  rintro x o _ (rfl | ⟨y, hy, hc, rfl⟩)
  · exact h.gl
  · exact g4 y hy hc

theorem drop_spec {w : World} {p : Nat} {S : NS} {G : Nat → Prop} {N : Nat} (h : NetG w p S G) (hS : Wf S N) (hN : N ≤ 900) {a b : Int} (hk : Knows S a b) {i k : Nat} (hi : (places a b S.msgs 0)[i]? = some k) :
    Calls Try.prog 16 #[.pointer (some ⟨p, 0, none⟩), .int .i64 a, .int .i64 b, .int .i64 (i : Int)] w (Turned w p (S.del k) G (.int .i64 0)) := by
  obtain ⟨lb, mb, mcap, M, h, hmc⟩ := h
  obtain ⟨⟨h1, h2⟩, h3, h4⟩ := hk
  have hn := hS.n2
  have hlk := link_len hS a b
  have hlen := hS.len
  obtain ⟨m, hm1, hm2, hm3, hm4⟩ := link_get S hi
  have hil : i < (S.link a b).length := (List.getElem?_eq_some_iff.1 hm4).1
  have hkl : k < S.msgs.length := (List.getElem?_eq_some_iff.1 hm1).1
  obtain ⟨ao, cap, g1, g2, g3, g4⟩ := h.row a b
  obtain ⟨xb, off, rfl⟩ := g2.some (by have := g2.1; omega)
  have hsi : (strs (S.link a b))[i]? = some (.string m.s) := by simp [strs, hm4]
  refine (drop_walk p mb lb S.nodes mcap a b (S.msgs.length : Int) m.s xb off _ cap i _ M w (by omega) h.c1 h1 h2 h3 h4 h.c0 h.c2 h.f2 h.ep (by omega) (by omega) h.map g1 g2 (by omega) hil hsi (strs_one _)).mono ?_
  rintro e w' ⟨rfl, ao', cap', w2, m2, r2, s2, l2, f2, rfl⟩
  have hl : ((S.link a b).eraseIdx i).length = (S.link a b).length - 1 := by rw [List.length_eraseIdx, if_pos hil]
  have hst : (strs (S.link a b)).eraseIdx i = strs ((S.link a b).eraseIdx i) := (ChangeMaps.map_eraseIdx _ _ _).symm
  rw [← hl] at m2 s2
  rw [← hl, hst] at r2
  obtain ⟨G', n1, n2⟩ := h.put (S' := S.del k) g1 f2 (fun x o hx => hx.imp id id) m2 r2 s2 l2 ⟨h1, h2⟩ ⟨h3, h4⟩ rfl rfl rfl rfl (link_del_same S hi) (fun c d hcd => link_del_other S hi hcd)
  have e1 : (((S.del k).msgs.length : Nat) : Int) = (S.msgs.length : Int) - 1 := by simp only [NS.del]; rw [List.length_eraseIdx, if_pos hkl]; omega
  rw [e1] at n1
  refine ⟨rfl, G', ⟨lb, mb, mcap, _, n1, hmc⟩, n2, ?_⟩
  refine ((f2.mono (G := fun x _ => G x) ?_).setCell _ (fun _ => h.gp))
  rintro x o _ (rfl | ⟨y, hy, hc, rfl⟩)
  · exact h.gl
  · exact g4 y hy hc

theorem peek_spec {w : World} {p : Nat} {S : NS} {G : Nat → Prop} {N : Nat} (h : NetG w p S G) (hS : Wf S N) (hN : N ≤ 900) {a b : Int} (hk : Knows S a b) {i k : Nat} {m : Msg} (hi : (places a b S.msgs 0)[i]? = some k) (hm : S.msgs[k]? = some m) :
    Calls Try.prog 25 #[.pointer (some ⟨p, 0, none⟩), .int .i64 a, .int .i64 b, .int .i64 (i : Int)] w fun e w' => e = .returned (.tuple #[.string m.s, .int .i64 0]) ∧ w = w' := by
  obtain ⟨lb, mb, mcap, M, h, hmc⟩ := h
  obtain ⟨⟨h1, h2⟩, h3, h4⟩ := hk
  have hn := hS.n2
  obtain ⟨m', hm1, hm2, hm3, hm4⟩ := link_get S hi
  obtain rfl : m = m' := by rw [hm] at hm1; exact Option.some.inj hm1
  have hil : i < (S.link a b).length := (List.getElem?_eq_some_iff.1 hm4).1
  obtain ⟨ao, cap, g1, g2, g3, g4⟩ := h.row a b
  obtain ⟨xb, off, rfl⟩ := g2.some (by have := g2.1; omega)
  have hsi : (strs (S.link a b))[i]? = some (.string m.s) := by simp [strs, hm4]
  have hl := h.lookup (wf_small h1 (by omega)) (wf_small h3 (by omega))
  rw [g1] at hl
  exact peek_ok p mb lb S.nodes mcap a b i xb off _ cap m.s w (by omega) h.c1 h1 h2 h3 h4 h.c0 hl (by omega) (by omega) (by simpa using g2.cell hsi)

theorem peek_none_spec {w : World} {p : Nat} {S : NS} {G : Nat → Prop} {N : Nat} (h : NetG w p S G) (hS : Wf S N) {a b : Int} (hk : Knows S a b) {i : Int} (h0 : 0 ≤ i) (hi : ((places a b S.msgs 0).length : Int) ≤ i) :
    Calls Try.prog 25 #[.pointer (some ⟨p, 0, none⟩), .int .i64 a, .int .i64 b, .int .i64 i] w fun e w' => e = .returned (.tuple #[.string ⟨#[]⟩, .int .i64 5]) ∧ w = w' := by
  obtain ⟨lb, mb, mcap, M, h, hmc⟩ := h
  obtain ⟨⟨h1, h2⟩, h3, h4⟩ := hk
  have hn := hS.n2
  obtain ⟨ao, cap, g1, g2, g3, g4⟩ := h.row a b
  have hl := h.lookup (wf_small h1 (by omega)) (wf_small h3 (by omega))
  rw [g1] at hl
  exact peek_none p mb lb S.nodes mcap a b i ao _ cap w (by omega) h.c1 h1 h2 h3 h4 h.c0 hl h0 (by rw [link_length]; exact hi)

theorem peek_bad_spec {w : World} {p : Nat} {S : NS} {G : Nat → Prop} {N : Nat} (h : NetG w p S G) (hS : Wf S N) {a b : Int} (hk : Unknown S a b) (i : Int) :
    Calls Try.prog 25 #[.pointer (some ⟨p, 0, none⟩), .int .i64 a, .int .i64 b, .int .i64 i] w fun e w' => e = .returned (.tuple #[.string ⟨#[]⟩, .int .i64 2]) ∧ w = w' := by
  obtain ⟨lb, mb, mcap, M, h, hmc⟩ := h
  have hn := hS.n2
  exact peek_bad p mb S.nodes mcap a b i w (by omega) h.c1 hk

end Go.Proofs.Ytcjcccmlpilbbaa
