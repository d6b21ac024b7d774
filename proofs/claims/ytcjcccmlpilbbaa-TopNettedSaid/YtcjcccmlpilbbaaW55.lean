/- W55: lemmas on the way to the law (no condition of their own beyond what each states). -/
import Derived.Test.YtcjcccmlpilbbaaDig
namespace Go.Proofs.Ytcjcccmlpilbbaa
open Go.RowKit Go.K55 Go.Maps
set_option linter.unusedVariables false
set_option linter.unusedSimpArgs false

def pkts (l : List Msg) : List Value := l.flatMap fun m => [.int .i64 m.fr, .int .i64 m.to, .string m.s]

theorem pkts_length : ∀ l : List Msg, (pkts l).length = l.length * 3
  | [] => rfl
  | m :: r => by
    have := pkts_length r
    simp only [pkts, List.flatMap_cons, List.length_append, List.length_cons, List.length_nil] at this ⊢
    omega

theorem pkts_cons (m : Msg) (r : List Msg) : pkts (m :: r) = .int .i64 m.fr :: .int .i64 m.to :: .string m.s :: pkts r := rfl

theorem pkts_get : ∀ (l : List Msg) (k : Nat) (m : Msg), l[k]? = some m → (pkts l)[k * 3]? = some (.int .i64 m.fr) ∧ (pkts l)[k * 3 + 1]? = some (.int .i64 m.to) ∧ (pkts l)[k * 3 + 2]? = some (.string m.s)
  | [], _, _, h => by simp at h
  | x :: r, 0, m, h => by
    simp at h; subst h
    simp [pkts_cons]
  | x :: r, k + 1, m, h => by
    simp at h
    obtain ⟨h1, h2, h3⟩ := pkts_get r k m h
    rw [pkts_cons, show (k + 1) * 3 = k * 3 + 1 + 1 + 1 by omega]
    refine ⟨by simpa using h1, ?_, ?_⟩
    · rw [show k * 3 + 1 + 1 + 1 + 1 = (k * 3 + 1) + 1 + 1 + 1 by omega]; simpa using h2
    · rw [show k * 3 + 1 + 1 + 1 + 2 = (k * 3 + 2) + 1 + 1 + 1 by omega]; simpa using h3

theorem pkts_append (l r : List Msg) : pkts (l ++ r) = pkts l ++ pkts r := by simp [pkts, List.flatMap_append]

theorem pkts_one (l : List Msg) : ∀ u ∈ pkts l, u.oneCell' = true := by
  intro u hu
  obtain ⟨m, _, hm⟩ := List.mem_flatMap.1 hu
  simp at hm
  rcases hm with rfl | rfl | rfl <;> rfl

/-- What is kept beside the net, at q. -/
structure W55 (w : World) (q : Nat) (S : NS) (ao : Option Addr) (cap : Nat) : Prop where
  c0 : w.cell? ⟨q, 0, none⟩ = some (.int .i64 (S.nodes : Int))
  c1 : w.cell? ⟨q, 1, none⟩ = some (.slice ao S.msgs.length cap)
  row : Row w 60 3 ao S.msgs.length cap (pkts S.msgs)
  sd : ∀ i, i < 8 → w.cell? ⟨q, 2 + i, none⟩ = some (.bool (S.side i))
  tk : ∀ i, i < 8 → w.cell? ⟨q, 10 + i, none⟩ = some (.int .i64 (S.ticks i))
  dr : ∀ i, i < 8 → w.cell? ⟨q, 18 + i, none⟩ = some (.int .u64 (S.draws i))
  fz : ∀ o, w.frozen? ⟨q, o, none⟩ = false
  eq : elemAt w q = some 39

theorem W55.lt {w : World} {q : Nat} {S : NS} {ao : Option Addr} {cap : Nat} (h : W55 w q S ao cap) : q < w.heap.size := World.block_lt_of_cell? w _ h.c0

theorem W55.kept {w w' : World} {q : Nat} {S : NS} {ao : Option Addr} {cap : Nat} (h : W55 w q S ao cap) {F : Nat → Nat → Prop} (hf : Frm F w w') (hq : ∀ o, ¬ F q o)
    (hF : ∀ b o, ao = some ⟨b, o, none⟩ → 0 < cap → ∀ j, j < S.msgs.length * 3 → ¬ F b (o + j)) : W55 w' q S ao cap where
  c0 := (hf.cel _ _ h.lt (hq _)).trans h.c0
  c1 := (hf.cel _ _ h.lt (hq _)).trans h.c1
  row := h.row.kept hf hF
  sd i hi := (hf.cel _ _ h.lt (hq _)).trans (h.sd i hi)
  tk i hi := (hf.cel _ _ h.lt (hq _)).trans (h.tk i hi)
  dr i hi := (hf.cel _ _ h.lt (hq _)).trans (h.dr i hi)
  fz o := (hf.frz _ _ h.lt).trans (h.fz o)
  eq := (hf.elm _ h.lt).trans h.eq

theorem W55.below {w w' : World} {q : Nat} {S : NS} {ao : Option Addr} {cap : Nat} (h : W55 w q S ao cap) (hb : Below w.heap.size w w') : W55 w' q S ao cap :=
  h.kept (F := fun _ _ => False) (Frm.of_below hb) (fun _ h => h) (fun _ _ _ _ _ _ h => h)

theorem places_snoc (a b : Int) (m : Msg) : ∀ (l : List Msg) (base : Nat), places a b (l ++ [m]) base = places a b l base ++ (if hit a b m then [base + l.length] else [])
  | [], base => by simp [places]
  | x :: r, base => by
    have := places_snoc a b m r (base + 1)
    simp only [List.cons_append, places]
    rw [this, show base + 1 + r.length = base + (r.length + 1) by omega]
    by_cases hx : hit a b x = true
    · simp [hx]
    · simp [hx]

def natInts (l : List Nat) : List Int := l.map (fun k : Nat => (k : Int))

theorem Try.info3 : (Try.prog.info? 3).map (fun i => (i.zero, i.size, i.bytes)) = some (some (.int .i64 0), 1, 8) := by kernel_rfl

/-- A list of places, as a slice that lies in new memory. -/
def IntsAt (B : Nat) (w : World) (v : Value) (l : List Nat) : Prop := ∃ ao cap, v = .slice ao l.length cap ∧ Row w 3 1 ao l.length cap (ints (natInts l)) ∧ Spare (fun b _ => B ≤ b) w 1 ao l.length cap ∧ (∀ y, ao = some y → 0 < cap → B ≤ y.block)

theorem IntsAt.nil (B : Nat) (w : World) : IntsAt B w (.slice none 0 0) [] := ⟨none, 0, rfl, Row.nil _ _ _, Spare.nil _ _ _ _ _, fun _ h => by cases h⟩

theorem take_snoc {α : Type} (l : List α) (k : Nat) (x : α) (h : l[k]? = some x) : l.take (k + 1) = l.take k ++ [x] := by
  rw [List.take_add_one, h]; rfl

theorem IntsAt.below {B : Nat} {w w' : World} {v : Value} {l : List Nat} (h : IntsAt B w v l) (hb : Below w.heap.size w w') : IntsAt B w' v l := by
  obtain ⟨ao, cap, rfl, h1, h2, h3⟩ := h
  exact ⟨ao, cap, rfl, h1.kept (F := fun _ _ => False) (Frm.of_below hb) (fun _ _ _ _ _ _ h => h), h2.kept (H := fun _ _ => False) (Frm.of_below hb) (fun _ _ _ h => h), h3⟩

/-- One place more: behind an append. -/
theorem IntsAt.more {B : Nat} {w w' : World} {ao ao' : Option Addr} {cap' : Nat} {l : List Nat} {cap k : Nat} (hlo : ∀ y, ao = some y → 0 < cap → B ≤ y.block) (hB : B ≤ w.heap.size)
    (row' : Row w' 3 1 ao' (l.length + 1) cap' (ints (natInts l) ++ [.int .i64 (k : Int)]))
    (loc : (ao' = ao ∧ cap' = cap ∧ l.length + 1 ≤ cap ∧ Spare (fun b _ => B ≤ b) w' 1 ao' (l.length + 1) cap') ∨ (ao' = some ⟨w.heap.size, 0, none⟩ ∧ w.heap.size < w'.heap.size ∧ ∀ j, j < cap' * 1 → (w'.cell? ⟨w.heap.size, j, none⟩).isSome = true ∧ w'.frozen? ⟨w.heap.size, j, none⟩ = false)) :
    IntsAt B w' (.slice ao' (l.length + 1) cap') (l ++ [k]) := by
  have e1 : (l ++ [k]).length = l.length + 1 := by simp
  have e2 : ints (natInts (l ++ [k])) = ints (natInts l) ++ [.int .i64 (k : Int)] := by simp [ints, natInts]
  refine ⟨ao', cap', by rw [e1], by rw [e1, e2]; exact row', ?_, ?_⟩
  · rw [e1]
    rcases loc with ⟨_, _, _, sp⟩ | ⟨rfl, _, hnew⟩
    · exact sp
    · intro y hy j g1 g2
      obtain rfl := Option.some.inj hy
      obtain ⟨k1, k2⟩ := hnew j g2
      simp only [Nat.zero_add]
      exact ⟨k1, k2, hB⟩
  · intro y hy hc
    rcases loc with ⟨rfl, rfl, h3, _⟩ | ⟨rfl, _⟩
    · exact hlo y hy (by omega)
    · obtain rfl := Option.some.inj hy
      exact hB

def LinkPost (w : World) (l : List Nat) (e : Ending) (w' : World) : Prop := ∃ v, e = .returned v ∧ IntsAt w.heap.size w' v l ∧ Below w.heap.size w w'

set_option maxRecDepth 100000 in
set_option maxHeartbeats 1000000 in
theorem link_walk (q : Nat) (S : NS) (ao : Option Addr) (cap : Nat) (a b : Int) (w : World) (h : W55 w q S ao cap) (hlen : S.msgs.length ≤ 900) :
    Calls Try.prog 11 #[.pointer (some ⟨q, 0, none⟩), .int .i64 a, .int .i64 b] w (LinkPost w (places a b S.msgs 0)) := by
  obtain ⟨i0, hi0, hz0, hz1, hz2⟩ := info_parts Try.info3
  have c1 := h.c1
  have hrow := h.row
  have hncap := hrow.1
  have Hrow := Lib.hid hrow; clear hrow
  go_enter Try.func11, Try.ntmps11
  go_wp2_with fail
  go_loopw [7, 15] (fun v i wr => ∃ k : Nat, k ≤ S.msgs.length ∧ i = .int .i64 k ∧ IntsAt w.heap.size wr v (places a b (S.msgs.take k) 0) ∧ Below w.heap.size w wr) (fun _ i _ => S.msgs.length - (intOf i).toNat)
  case atStart => exact ⟨0, Nat.zero_le _, rfl, IntsAt.nil _ _, Below.refl _ _⟩
  case round =>
    obtain ⟨k, hk, rfl, ⟨ai, ci, rfl, hri, hsi, hli⟩, hbl⟩ := hrel
    by_cases hlt : k < S.msgs.length
    · obtain ⟨m, hm⟩ : ∃ m, S.msgs[k]? = some m := ⟨S.msgs[k], List.getElem?_eq_getElem hlt⟩
      have hr0 := Hrow.out
      obtain ⟨xb, off, hao⟩ := hr0.some (by omega)
      obtain ⟨p0, p1, p2⟩ := pkts_get _ _ _ hm
      have hlt' := ((hr0.2.2.2 _ hao).2.1 (by omega)).1
      dsimp only at hlt'
      have g0 : wr.cell? ⟨xb, off + k * 3, none⟩ = some (.int .i64 m.fr) := (hbl.cell (p := ⟨xb, off + k * 3, none⟩) hlt').trans ((hr0.2.2.2 _ hao).2.2 _ _ p0)
      have g1 : wr.cell? ⟨xb, off + k * 3 + 1, none⟩ = some (.int .i64 m.to) := (hbl.cell (p := ⟨xb, off + k * 3 + 1, none⟩) hlt').trans (by have := (hr0.2.2.2 _ hao).2.2 _ _ p1; rwa [← Nat.add_assoc] at this)
      have g2 : wr.cell? ⟨xb, off + k * 3 + 2, none⟩ = some (.string m.s) := (hbl.cell (p := ⟨xb, off + k * 3 + 2, none⟩) hlt').trans (by have := (hr0.2.2.2 _ hao).2.2 _ _ p2; rwa [← Nat.add_assoc] at this)
      subst hao
      have ht := take_snoc _ _ _ hm
      have hpl := places_snoc a b m (S.msgs.take k) 0
      rw [← ht, List.length_take, Nat.min_eq_left hk, Nat.zero_add] at hpl
      have hk1 : (0 : Int) ≤ (k : Int) := by omega
      have hk2 : (k : Int) < (S.msgs.length : Int) := by omega
      by_cases hf : m.fr = a
      · by_cases hto : m.to = b
        · have b1 : (m.fr == a) = true := by simp [hf]
          have b2 : (m.to == b) = true := by simp [hto]
          have hh : hit a b m = true := by unfold hit; rw [b1, b2]; rfl
          rw [hh] at hpl
          simp only [if_true] at hpl
          have hpk : (places a b (S.msgs.take k) 0).length ≤ k := by
            rw [places_length]
            exact Nat.le_trans (List.length_filter_le _ _) (by rw [List.length_take]; omega)
          have rowX : Row ((wr.alloc (.cells #[.int .i64 m.fr, .int .i64 m.to, .string m.s] 60)).alloc (.cells #[.int .i64 (k : Int)] 3)) 3 1 ai (places a b (S.msgs.take k) 0).length ci (ints (natInts (places a b (S.msgs.take k) 0))) :=
            (hri.kept (F := fun _ _ => False) (Frm.alloc1 _ _) (fun _ _ _ _ _ _ h => h)).kept (F := fun _ _ => False) (Frm.alloc1 _ _) (fun _ _ _ _ _ _ h => h)
          have spX : Spare (fun b _ => w.heap.size ≤ b) ((wr.alloc (.cells #[.int .i64 m.fr, .int .i64 m.to, .string m.s] 60)).alloc (.cells #[.int .i64 (k : Int)] 3)) 1 ai (places a b (S.msgs.take k) 0).length ci :=
            (hsi.kept (H := fun _ _ => False) (Frm.alloc1 _ _) (fun _ _ _ h => h)).kept (H := fun _ _ => False) (Frm.alloc1 _ _) (fun _ _ _ h => h)
          have hone : ∀ u ∈ [Value.int .i64 (k : Int)], u.oneCell' = true := by simp [Value.oneCell']
          have hmax : (places a b (S.msgs.take k) 0).length + 1 ≤ maxLen := by simp only [maxLen]; omega
          have hbyt : ((places a b (S.msgs.take k) 0).length + 1) * 8 ≤ 140737488355328 := by omega
          have hcn : ((wr.alloc (.cells #[.int .i64 m.fr, .int .i64 m.to, .string m.s] 60)).alloc (.cells #[.int .i64 (k : Int)] 3)).cell? ⟨wr.heap.size + 1, 0, none⟩ = some (.int .i64 (k : Int)) := by simp [World.cell?_alloc_at]
          have Hhpl := Lib.hid hpl; clear hpl ht hh hf hto hm
          have Hri := Lib.hid hri; clear hri
          have Hsi := Lib.hid hsi; clear hsi
          have Hli := Lib.hid hli; clear hli
          generalize hL : places a b (S.msgs.take k) 0 = L at *
          have HL := Lib.hid hL; clear hL
          go_wp2_with (at_builtin; refine wpList_app _ rfl _ _ 54 rfl (fun b _ => w.heap.size ≤ b) 3 i0 _ 1 8 Try.underlying54 hi0 hz0 hz1 hz2 rfl (by decide) (bo := some ⟨wr.heap.size + 1, 0, none⟩) (m := 1) (c := 1) (news := [.int .i64 (k : Int)]) rfl rfl rowX spX rfl (fun h => by cases h) (news_one hcn) hone hmax hbyt ?_; intro ao' cap' w2 row2 frm2 loc2)
          go_roundw
          case rel =>
            refine ⟨k + 1, by omega, by go_num, ?_, ?_⟩
            · rw [Hhpl.out]
              exact IntsAt.more Hli.out (by simp; have := hbl.size; omega) row2 loc2
            · have g := ((Frm.of_below (F := fun b _ => w.heap.size ≤ b) hbl).alloc (.cells #[.int .i64 m.fr, .int .i64 m.to, .string m.s] 60)).alloc (.cells #[.int .i64 (k : Int)] 3)
              exact (g.trans frm2 (fun _ _ _ h => h)).below (Nat.le_refl _) (fun b _ hb h => by omega)
          case measure => simp [intOf]; omega
        · have b1 : (m.fr == a) = true := by simp [hf]
          have b2 : (m.to == b) = false := by simp [hto]
          have hh : hit a b m = false := by unfold hit; rw [b1, b2]; rfl
          rw [hh] at hpl
          simp only [Bool.false_eq_true, if_false, List.append_nil] at hpl
          have Hpl := Lib.hid hpl; clear hpl ht hh hf hto hm
          go_wp2_with fail
          go_roundw
          case rel =>
            refine ⟨k + 1, by omega, by go_num, ?_, ?_⟩
            · rw [Hpl.out]
              exact IntsAt.below ⟨ai, ci, rfl, hri, hsi, hli⟩ ((Below.refl _ _).alloc (Nat.le_refl _) _)
            · exact hbl.alloc hbl.size _
          case measure => simp [intOf]; omega
      · have b1 : (m.fr == a) = false := by simp [hf]
        have hh : hit a b m = false := by unfold hit; rw [b1]; rfl
        rw [hh] at hpl
        simp only [Bool.false_eq_true, if_false, List.append_nil] at hpl
        have Hpl := Lib.hid hpl; clear hpl ht hh hf hm
        go_wp2_with fail
        go_roundw
        case rel =>
          refine ⟨k + 1, by omega, by go_num, ?_, ?_⟩
          · rw [Hpl.out]
            exact IntsAt.below ⟨ai, ci, rfl, hri, hsi, hli⟩ ((Below.refl _ _).alloc (Nat.le_refl _) _)
          · exact hbl.alloc hbl.size _
        case measure => simp [intOf]; omega
    · go_wp2_with fail
      go_ret
      have e : S.msgs.take k = S.msgs := List.take_of_length_le (by omega)
      rw [e] at hri hsi ⊢
      exact ⟨_, rfl, ⟨ai, ci, rfl, hri, hsi, hli⟩, hbl⟩

end Go.Proofs.Ytcjcccmlpilbbaa
