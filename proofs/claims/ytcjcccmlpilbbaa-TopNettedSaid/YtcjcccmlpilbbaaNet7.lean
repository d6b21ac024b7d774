/- Net7: lemmas on the way to the law (no condition of their own beyond what each states). -/
import Derived.Test.YtcjcccmlpilbbaaNet6
namespace Go.Proofs.Ytcjcccmlpilbbaa
open Go.RowKit Go.K55 Go.Maps
set_option linter.unusedVariables false
set_option linter.unusedSimpArgs false

theorem send_bad_spec {w : World} {p : Nat} {S : NS} {G : Nat → Prop} {N : Nat} (h : NetG w p S G) (hS : Wf S N) {a b : Int} (hk : Unknown S a b) (s : ByteArray) :
    Calls Try.prog 14 #[.pointer (some ⟨p, 0, none⟩), .int .i64 a, .int .i64 b, .string s] w fun e w' => e = .returned (.int .i64 2) ∧ w = w' := by
  obtain ⟨lb, mb, mcap, M, h, hmc⟩ := h
  have hn := hS.n2
  go_enter Try.func14, Try.ntmps14
  go_wp2_with fail
  refine (between_bad p mb S.nodes mcap a b w (by omega) h.c1 hk).mono ?_; rintro e w' ⟨rfl, rfl⟩
  go_wp2_with fail
  go_ret
  exact ⟨rfl, rfl⟩

theorem drop_bad_spec {w : World} {p : Nat} {S : NS} {G : Nat → Prop} {N : Nat} (h : NetG w p S G) (hS : Wf S N) {a b : Int} (hk : Unknown S a b) (i : Int) :
    Calls Try.prog 16 #[.pointer (some ⟨p, 0, none⟩), .int .i64 a, .int .i64 b, .int .i64 i] w fun e w' => e = .returned (.int .i64 2) ∧ w = w' := by
  go_enter Try.func16, Try.ntmps16
  go_wp2_with fail
  refine (peek_bad_spec h hS hk i).mono ?_; rintro e w' ⟨rfl, rfl⟩
  go_wp2_with fail
  go_ret
  exact ⟨rfl, rfl⟩

theorem drop_none_spec {w : World} {p : Nat} {S : NS} {G : Nat → Prop} {N : Nat} (h : NetG w p S G) (hS : Wf S N) {a b : Int} (hk : Knows S a b) {i : Int} (h0 : 0 ≤ i) (hi : ((places a b S.msgs 0).length : Int) ≤ i) :
    Calls Try.prog 16 #[.pointer (some ⟨p, 0, none⟩), .int .i64 a, .int .i64 b, .int .i64 i] w fun e w' => e = .returned (.int .i64 5) ∧ w = w' := by
  have hk' := Lib.hid hi; clear hi
  go_enter Try.func16, Try.ntmps16
  go_wp2_with fail
  refine (peek_none_spec h hS hk h0 hk'.out).mono ?_; rintro e w' ⟨rfl, rfl⟩
  go_wp2_with fail
  go_ret
  exact ⟨rfl, rfl⟩

theorem double_bad_spec {w : World} {p : Nat} {S : NS} {G : Nat → Prop} {N : Nat} (h : NetG w p S G) (hS : Wf S N) {a b : Int} (hk : Unknown S a b) (i : Int) :
    Calls Try.prog 17 #[.pointer (some ⟨p, 0, none⟩), .int .i64 a, .int .i64 b, .int .i64 i] w fun e w' => e = .returned (.int .i64 2) ∧ w = w' := by
  go_enter Try.func17, Try.ntmps17
  go_wp2_with fail
  refine (peek_bad_spec h hS hk i).mono ?_; rintro e w' ⟨rfl, rfl⟩
  go_wp2_with fail
  go_ret
  exact ⟨rfl, rfl⟩

theorem double_none_spec {w : World} {p : Nat} {S : NS} {G : Nat → Prop} {N : Nat} (h : NetG w p S G) (hS : Wf S N) {a b : Int} (hk : Knows S a b) {i : Int} (h0 : 0 ≤ i) (hi : ((places a b S.msgs 0).length : Int) ≤ i) :
    Calls Try.prog 17 #[.pointer (some ⟨p, 0, none⟩), .int .i64 a, .int .i64 b, .int .i64 i] w fun e w' => e = .returned (.int .i64 5) ∧ w = w' := by
  have hk' := Lib.hid hi; clear hi
  go_enter Try.func17, Try.ntmps17
  go_wp2_with fail
  refine (peek_none_spec h hS hk h0 hk'.out).mono ?_; rintro e w' ⟨rfl, rfl⟩
  go_wp2_with fail
  go_ret
  exact ⟨rfl, rfl⟩

theorem double_spec {w : World} {p : Nat} {S : NS} {G : Nat → Prop} {N : Nat} (h : NetG w p S G) (hS : Wf S N) (hN : N ≤ 900) {a b : Int} (hk : Knows S a b) {i k : Nat} {m : Msg} (hi : (places a b S.msgs 0)[i]? = some k) (hm : S.msgs[k]? = some m) :
    Calls Try.prog 17 #[.pointer (some ⟨p, 0, none⟩), .int .i64 a, .int .i64 b, .int .i64 (i : Int)] w (Turned w p (S.add m) G (.int .i64 0)) := by
  have hpk := Lib.hid (peek_spec h hS hN hk hi hm)
  have hsm := hS.small m (List.mem_of_getElem? hm)
  have hma : m = ⟨a, b, m.s⟩ := by
    obtain ⟨m', h1, h2, h3, _⟩ := link_get S hi
    rw [hm] at h1; obtain rfl := Option.some.inj h1
    cases m; simp_all
  have hsn := Lib.hid (send_spec h hS hN hk m.s hsm)
  have Hma := Lib.hid hma; clear hma hi hm
  go_enter Try.func17, Try.ntmps17
  go_wp2_with fail
  refine (hpk.out).mono ?_; rintro e w' ⟨rfl, rfl⟩
  go_wp2_with fail
  refine (hsn.out).mono ?_; rintro e w' ⟨rfl, G', hg⟩
  have Hg := Lib.hid hg; clear hg
  go_wp2_with fail
  go_ret
  exact ⟨rfl, G', by rw [Hma.out]; exact Hg.out⟩

def pkt (m : Msg) : Value := .agg #[.int .i64 m.fr, .int .i64 m.to, .string m.s]
def pkt0 : Value := .agg #[.int .i64 0, .int .i64 0, .string ⟨#[]⟩]

theorem take_bad_spec {w : World} {p : Nat} {S : NS} {G : Nat → Prop} {N : Nat} (h : NetG w p S G) (hS : Wf S N) {a b : Int} (hk : Unknown S a b) (i : Int) :
    Calls Try.prog 15 #[.pointer (some ⟨p, 0, none⟩), .int .i64 a, .int .i64 b, .int .i64 i] w (Same w (.tuple #[pkt0, .int .i64 2])) := by
  have h' := fun o => peek_bad_spec (h.alloc o) hS hk i
  have H := Lib.hid h'; clear h'
  go_enter Try.func15, Try.ntmps15
  go_wp2_with fail
  refine (H.out _).mono ?_; rintro e w' ⟨rfl, rfl⟩
  go_wp2_with fail
  refine bodyPost_ret (v := .tuple #[pkt0, .int .i64 2]) (by simp [results, Try.results15, go_sem, pkt0]) rfl ⟨rfl, ?_⟩
  exact (Below.refl _ _).alloc (Nat.le_refl _) _

theorem take_none_spec {w : World} {p : Nat} {S : NS} {G : Nat → Prop} {N : Nat} (h : NetG w p S G) (hS : Wf S N) {a b : Int} (hk : Knows S a b) {i : Int} (h0 : 0 ≤ i) (hi : ((places a b S.msgs 0).length : Int) ≤ i) :
    Calls Try.prog 15 #[.pointer (some ⟨p, 0, none⟩), .int .i64 a, .int .i64 b, .int .i64 i] w (Same w (.tuple #[pkt0, .int .i64 5])) := by
  have h' := fun o => peek_none_spec (h.alloc o) hS hk h0 hi
  have H := Lib.hid h'; clear h' hi
  go_enter Try.func15, Try.ntmps15
  go_wp2_with fail
  refine (H.out _).mono ?_; rintro e w' ⟨rfl, rfl⟩
  go_wp2_with fail
  refine bodyPost_ret (v := .tuple #[pkt0, .int .i64 5]) (by simp [results, Try.results15, go_sem, pkt0]) rfl ⟨rfl, ?_⟩
  exact (Below.refl _ _).alloc (Nat.le_refl _) _

theorem take_parted_spec {w : World} {p : Nat} {S : NS} {G : Nat → Prop} {N : Nat} (h : NetG w p S G) (hS : Wf S N) (hN : N ≤ 900) {a b : Int} (hk : Knows S a b) {i k : Nat} {m : Msg} (hi : (places a b S.msgs 0)[i]? = some k) (hm : S.msgs[k]? = some m)
    (hp : (S.side a.toNat != S.side b.toNat) = true) :
    Calls Try.prog 15 #[.pointer (some ⟨p, 0, none⟩), .int .i64 a, .int .i64 b, .int .i64 (i : Int)] w (Same w (.tuple #[pkt0, .int .i64 3])) := by
  have h' := fun o => peek_spec (h.alloc o) hS hN hk hi hm
  have h2 := fun o => parted_spec (h.alloc o) hS hk
  rw [hp] at h2
  have H := Lib.hid h'; clear h' hi hm
  have H2 := Lib.hid h2; clear h2 hp
  go_enter Try.func15, Try.ntmps15
  go_wp2_with fail
  refine (H.out _).mono ?_; rintro e w' ⟨rfl, rfl⟩
  go_wp2_with fail
  refine (H2.out _).mono ?_; rintro e w' ⟨rfl, n, rfl⟩
  go_wp2_with fail
  refine bodyPost_ret (v := .tuple #[pkt0, .int .i64 3]) (by simp [results, Try.results15, go_sem, pkt0]) rfl ⟨rfl, ?_⟩
  exact (((((((Frm.refl (fun _ _ => False) w).alloc _).drewN n).setCell _ (fun h => by omega)).setCell _ (fun h => by omega)).setCell _ (fun h => by omega))).below (Nat.le_refl _) (fun _ _ _ h => h)

set_option maxHeartbeats 400000 in
theorem take_spec {w : World} {p : Nat} {S : NS} {G : Nat → Prop} {N : Nat} (h : NetG w p S G) (hS : Wf S N) (hN : N ≤ 900) {a b : Int} (hk : Knows S a b) {i k : Nat} {m : Msg} (hi : (places a b S.msgs 0)[i]? = some k) (hm : S.msgs[k]? = some m)
    (hp : (S.side a.toNat != S.side b.toNat) = false) :
    Calls Try.prog 15 #[.pointer (some ⟨p, 0, none⟩), .int .i64 a, .int .i64 b, .int .i64 (i : Int)] w (Turned w p (S.del k) G (.tuple #[pkt m, .int .i64 0])) := by
  have h' := fun o => peek_spec (h.alloc o) hS hN hk hi hm
  have h2 := fun o => parted_spec (h.alloc o) hS hk
  have h3 := fun o n => drop_spec ((h.alloc o).drewN n) hS hN hk hi
  have hma : m.fr = a ∧ m.to = b := by
    obtain ⟨m', h1, h2, h3, _⟩ := link_get S hi
    rw [hm] at h1; obtain rfl := Option.some.inj h1
    exact ⟨h2, h3⟩
  have hglt := h.glt
  rw [hp] at h2
  have H := Lib.hid h'; clear h' hi hm
  have H2 := Lib.hid h2; clear h2 hp
  have H3 := Lib.hid h3; clear h3
  have Hma := Lib.hid hma; clear hma
  have Hglt := Lib.hid hglt; clear hglt
  go_enter Try.func15, Try.ntmps15
  go_wp2_with fail
  refine (H.out _).mono ?_; rintro e w' ⟨rfl, rfl⟩
  go_wp2_with fail
  refine (H2.out _).mono ?_; rintro e w' ⟨rfl, n, rfl⟩
  go_wp2_with fail
  refine (H3.out _ _).mono ?_; rintro e w2 ⟨rfl, G', hg, hg2, hf⟩
  have sz2 := hf.size
  have c0 : w2.cell? ⟨w.heap.size, 0, none⟩ = some (.int .i64 0) := (hf.cel _ _ (by simp) (fun h => by have := Hglt.out _ h; omega)).trans (by simp [World.cell?_alloc_at])
  have c1 : w2.cell? ⟨w.heap.size, 1, none⟩ = some (.int .i64 0) := (hf.cel _ _ (by simp) (fun h => by have := Hglt.out _ h; omega)).trans (by simp [World.cell?_alloc_at])
  have c2 : w2.cell? ⟨w.heap.size, 2, none⟩ = some (.string ⟨#[]⟩) := (hf.cel _ _ (by simp) (fun h => by have := Hglt.out _ h; omega)).trans (by simp [World.cell?_alloc_at])
  have f0 : ∀ o, w2.frozen? ⟨w.heap.size, o, none⟩ = false := fun o => (hf.frz _ _ (by simp)).trans (by simp [World.frozen?_alloc_at])
  have e0 : elemAt w2 w.heap.size = some 60 := (hf.elm _ (by simp)).trans (elemAt_alloc_new _ _ _ _)
  have Hg := Lib.hid hg; clear hg
  have Hg2 := Lib.hid hg2; clear hg2
  have E0 := Lib.hid e0; clear e0
  go_wp2_with fail
  refine bodyPost_ret (v := .tuple #[pkt m, .int .i64 0]) (by simp [results, Try.results15, go_sem, pkt, Hma.out.1, Hma.out.2, c0, c1, c2]) rfl ⟨rfl, G', ?_, ?_, ?_⟩
  · have hk := Hg.out
    refine hk.kept (F := fun x _ => x = w.heap.size) ((((Frm.refl (fun x _ => x = w.heap.size) w2).setCell _ (fun _ => rfl)).setCell _ (fun _ => rfl)).setCell _ (fun _ => rfl)) ?_
    rintro b o hb rfl
    rcases hk.gty _ hb with e | e | e | e <;> (rw [E0.out] at e; cases e)
  · intro x hx
    refine (Hg2.out x hx).imp id (fun h => ?_)
    simp at h; omega
  · have g1 : Frm (fun x _ => G x) w w2 := ((((Frm.refl _ w).alloc _).drewN n)).trans hf (fun _ _ _ h => h)
    exact ((g1.setCell _ (fun h => by omega)).setCell _ (fun h => by omega)).setCell _ (fun h => by omega)

end Go.Proofs.Ytcjcccmlpilbbaa
