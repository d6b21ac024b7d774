/- HapAll: lemmas on the way to the law (no condition of their own beyond what each states). -/
import Derived.Test.YtcjcccmlpilbbaaHapStep
import Derived.Test.YtcjcccmlpilbbaaHap01
import Derived.Test.YtcjcccmlpilbbaaHap23a
import Derived.Test.YtcjcccmlpilbbaaHap23b
import Derived.Test.YtcjcccmlpilbbaaHap45
import Derived.Test.YtcjcccmlpilbbaaHap78
import Derived.Test.YtcjcccmlpilbbaaHap6
namespace Go.Proofs.Ytcjcccmlpilbbaa
open Go.RowKit Go.K55 Go.Maps
set_option linter.unusedVariables false
set_option linter.unusedSimpArgs false

theorem unknown_ways {S : NS} {A B : Int} (h : ¬ Knows S A B) : A < 1 ∨ (1 ≤ A ∧ (S.nodes : Int) < A) ∨ ((1 ≤ A ∧ A ≤ (S.nodes : Int)) ∧ B < 1) ∨ ((1 ≤ A ∧ A ≤ (S.nodes : Int)) ∧ 1 ≤ B ∧ (S.nodes : Int) < B) := by
  simp only [Knows] at h; omega

theorem size0 : (⟨#[]⟩ : ByteArray).size ≤ 100 := by decide

/-- A step of the net and of what is kept: both say the same. -/
theorem happens_spec {w : World} {p q : Nat} {S : NS} {G : Nat → Prop} {N : Nat} {ao : Option Addr} {cap : Nat} (hw : W55G w q S ao cap) (hn : NetG w p S G) (hS : Wf S N) (hN : N ≤ 800)
    (K fr tu ii nn num : Int) (hK0 : 0 ≤ K) (hm0 : 0 ≤ num) (hm1 : num ≤ 40) (hf0 : 0 ≤ fr) (hf1 : fr ≤ 255) (ht0 : 0 ≤ tu) (ht1 : tu ≤ 255) (hi0 : 0 ≤ ii) (hi1 : ii ≤ 255) (hn0 : 0 ≤ nn) (hn1 : nn ≤ 255) :
    Calls Try.prog 7 #[.pointer (some ⟨q, 0, none⟩), .pointer (some ⟨p, 0, none⟩), .agg #[.int .u8 K, .int .u8 fr, .int .u8 tu, .int .u8 ii, .int .u8 nn], .int .i64 num] w
      (fun e w' => ∃ st : ByteArray, st.size ≤ 100 ∧ Hap w p q S (S.step K fr tu ii nn st) G ao cap e w') := by
  have n1 := hS.n1
  have n2 := hS.n2
  have a0 := Int.tmod_nonneg ((S.nodes : Int) + 2) hf0
  have a1 := Int.tmod_lt_of_pos fr (show (0 : Int) < (S.nodes : Int) + 2 by omega)
  have b0 := Int.tmod_nonneg ((S.nodes : Int) + 2) ht0
  have b1 := Int.tmod_lt_of_pos tu (show (0 : Int) < (S.nodes : Int) + 2 by omega)
  have i0 := Int.tmod_nonneg 4 hi0
  have i1 := Int.tmod_lt_of_pos ii (show (0 : Int) < 4 by omega)
  have k0 := Int.tmod_nonneg 9 hK0
  have k1 := Int.tmod_lt_of_pos K (show (0 : Int) < 9 by omega)
  have hI : ii.tmod 4 = (((ii.tmod 4).toNat : Nat) : Int) := by omega
  unfold NS.step
  generalize hA : fr.tmod ((S.nodes : Int) + 2) = A at *
  generalize hB : tu.tmod ((S.nodes : Int) + 2) = B at *
  generalize (ii.tmod 4).toNat = i at *
  have hi3 : (i : Int) ≤ 3 := by omega
  rcases (show K.tmod 9 = 0 ∨ K.tmod 9 = 1 ∨ K.tmod 9 = 2 ∨ K.tmod 9 = 3 ∨ K.tmod 9 = 4 ∨ K.tmod 9 = 5 ∨ K.tmod 9 = 6 ∨ K.tmod 9 = 7 ∨ K.tmod 9 = 8 by omega) with hk | hk | hk | hk | hk | hk | hk | hk | hk <;> rw [hk]
  · by_cases hkn : Knows S A B
    · refine (hap0_K hw hn hS hN K fr tu ii nn num A B i hk hm0 hm1 hA hB hI hf0 hf1 ht0 ht1 hi0 hi1 hn0 hn1 a0 b0 hi3 (by omega) (by omega) hkn).mono ?_
      rintro e w' ⟨st, h1, h2⟩
      exact ⟨st, h1, by simpa [NS.stepAt, hkn] using h2⟩
    · refine (hap0_U hw hn hS hN K fr tu ii nn num A B i hk hm0 hm1 hA hB hI hf0 hf1 ht0 ht1 hi0 hi1 hn0 hn1 a0 b0 hi3 (by omega) (by omega) (unknown_ways hkn)).mono ?_
      rintro e w' h2
      exact ⟨⟨#[]⟩, size0, by simpa [NS.stepAt, hkn] using h2⟩
  · by_cases hkn : Knows S A B
    · refine (hap1_K hw hn hS hN K fr tu ii nn num A B i hk hm0 hm1 hA hB hI hf0 hf1 ht0 ht1 hi0 hi1 hn0 hn1 a0 b0 hi3 (by omega) (by omega) hkn).mono ?_
      rintro e w' ⟨st, h1, h2⟩
      exact ⟨st, h1, by simpa [NS.stepAt, hkn] using h2⟩
    · refine (hap1_U hw hn hS hN K fr tu ii nn num A B i hk hm0 hm1 hA hB hI hf0 hf1 ht0 ht1 hi0 hi1 hn0 hn1 a0 b0 hi3 (by omega) (by omega) (unknown_ways hkn)).mono ?_
      rintro e w' h2
      exact ⟨⟨#[]⟩, size0, by simpa [NS.stepAt, hkn] using h2⟩
  · by_cases hkn : Knows S A B
    · by_cases hO : i < (places A B S.msgs 0).length
      · by_cases hAB : A = B
        · refine (hap2_Q hw hn hS hN K fr tu ii nn num A B i hk hm0 hm1 hA hB hI hf0 hf1 ht0 ht1 hi0 hi1 hn0 hn1 a0 b0 hi3 (by omega) (by omega) hkn hO hAB).mono ?_
          rintro e w' ⟨j, m, h1, h2, h3⟩
          exact ⟨⟨#[]⟩, size0, by simpa [NS.stepAt, hkn, h1, show S.side A.toNat = S.side B.toNat by rw [hAB]] using h3⟩
        · by_cases hsd : S.side A.toNat = S.side B.toNat
          · refine (hap2_N hw hn hS hN K fr tu ii nn num A B i hk hm0 hm1 hA hB hI hf0 hf1 ht0 ht1 hi0 hi1 hn0 hn1 a0 b0 hi3 (by omega) (by omega) hkn hO hAB (by simp [hsd])).mono ?_
            rintro e w' ⟨j, m, h1, h2, h3⟩
            exact ⟨⟨#[]⟩, size0, by simpa [NS.stepAt, hkn, h1, hsd] using h3⟩
          · refine (hap2_P hw hn hS hN K fr tu ii nn num A B i hk hm0 hm1 hA hB hI hf0 hf1 ht0 ht1 hi0 hi1 hn0 hn1 a0 b0 hi3 (by omega) (by omega) hkn hO (by simpa using hsd)).mono ?_
            rintro e w' h2
            exact ⟨⟨#[]⟩, size0, by simpa [NS.stepAt, hkn, hsd] using h2⟩
      · refine (hap2_E hw hn hS hN K fr tu ii nn num A B i hk hm0 hm1 hA hB hI hf0 hf1 ht0 ht1 hi0 hi1 hn0 hn1 a0 b0 hi3 (by omega) (by omega) hkn (by omega)).mono ?_
        rintro e w' h2
        have hno : (places A B S.msgs 0)[i]? = none := List.getElem?_eq_none (by omega)
        exact ⟨⟨#[]⟩, size0, by simpa [NS.stepAt, hkn, hno] using h2⟩
    · refine (hap2_U hw hn hS hN K fr tu ii nn num A B i hk hm0 hm1 hA hB hI hf0 hf1 ht0 ht1 hi0 hi1 hn0 hn1 a0 b0 hi3 (by omega) (by omega) (unknown_ways hkn)).mono ?_
      rintro e w' h2
      exact ⟨⟨#[]⟩, size0, by simpa [NS.stepAt, hkn] using h2⟩
  · by_cases hkn : Knows S A B
    · by_cases hO : i < (places A B S.msgs 0).length
      · by_cases hAB : A = B
        · refine (hap3_Q hw hn hS hN K fr tu ii nn num A B i hk hm0 hm1 hA hB hI hf0 hf1 ht0 ht1 hi0 hi1 hn0 hn1 a0 b0 hi3 (by omega) (by omega) hkn hO hAB).mono ?_
          rintro e w' ⟨j, m, h1, h2, h3⟩
          exact ⟨⟨#[]⟩, size0, by simpa [NS.stepAt, hkn, h1, show S.side A.toNat = S.side B.toNat by rw [hAB]] using h3⟩
        · by_cases hsd : S.side A.toNat = S.side B.toNat
          · refine (hap3_N hw hn hS hN K fr tu ii nn num A B i hk hm0 hm1 hA hB hI hf0 hf1 ht0 ht1 hi0 hi1 hn0 hn1 a0 b0 hi3 (by omega) (by omega) hkn hO hAB (by simp [hsd])).mono ?_
            rintro e w' ⟨j, m, h1, h2, h3⟩
            exact ⟨⟨#[]⟩, size0, by simpa [NS.stepAt, hkn, h1, hsd] using h3⟩
          · refine (hap3_P hw hn hS hN K fr tu ii nn num A B i hk hm0 hm1 hA hB hI hf0 hf1 ht0 ht1 hi0 hi1 hn0 hn1 a0 b0 hi3 (by omega) (by omega) hkn hO (by simpa using hsd)).mono ?_
            rintro e w' h2
            exact ⟨⟨#[]⟩, size0, by simpa [NS.stepAt, hkn, hsd] using h2⟩
      · refine (hap3_E hw hn hS hN K fr tu ii nn num A B i hk hm0 hm1 hA hB hI hf0 hf1 ht0 ht1 hi0 hi1 hn0 hn1 a0 b0 hi3 (by omega) (by omega) hkn (by omega)).mono ?_
        rintro e w' h2
        have hno : (places A B S.msgs 0)[i]? = none := List.getElem?_eq_none (by omega)
        exact ⟨⟨#[]⟩, size0, by simpa [NS.stepAt, hkn, hno] using h2⟩
    · refine (hap3_U hw hn hS hN K fr tu ii nn num A B i hk hm0 hm1 hA hB hI hf0 hf1 ht0 ht1 hi0 hi1 hn0 hn1 a0 b0 hi3 (by omega) (by omega) (unknown_ways hkn)).mono ?_
      rintro e w' h2
      exact ⟨⟨#[]⟩, size0, by simpa [NS.stepAt, hkn] using h2⟩
  · by_cases hkn : Knows S A B
    · by_cases hO : i < (places A B S.msgs 0).length
      · refine (hap4_O hw hn hS hN K fr tu ii nn num A B i hk hm0 hm1 hA hB hI hf0 hf1 ht0 ht1 hi0 hi1 hn0 hn1 a0 b0 hi3 (by omega) (by omega) hkn hO).mono ?_
        rintro e w' ⟨j, m, h1, h2, h3⟩
        exact ⟨⟨#[]⟩, size0, by simpa [NS.stepAt, hkn, h1] using h3⟩
      · refine (hap4_E hw hn hS hN K fr tu ii nn num A B i hk hm0 hm1 hA hB hI hf0 hf1 ht0 ht1 hi0 hi1 hn0 hn1 a0 b0 hi3 (by omega) (by omega) hkn (by omega)).mono ?_
        rintro e w' h2
        have hno : (places A B S.msgs 0)[i]? = none := List.getElem?_eq_none (by omega)
        exact ⟨⟨#[]⟩, size0, by simpa [NS.stepAt, hkn, hno] using h2⟩
    · refine (hap4_U hw hn hS hN K fr tu ii nn num A B i hk hm0 hm1 hA hB hI hf0 hf1 ht0 ht1 hi0 hi1 hn0 hn1 a0 b0 hi3 (by omega) (by omega) (unknown_ways hkn)).mono ?_
      rintro e w' h2
      exact ⟨⟨#[]⟩, size0, by simpa [NS.stepAt, hkn] using h2⟩
  · by_cases hkn : Knows S A B
    · by_cases hO : i < (places A B S.msgs 0).length
      · refine (hap5_O hw hn hS hN K fr tu ii nn num A B i hk hm0 hm1 hA hB hI hf0 hf1 ht0 ht1 hi0 hi1 hn0 hn1 a0 b0 hi3 (by omega) (by omega) hkn hO).mono ?_
        rintro e w' ⟨j, m, h1, h2, h3⟩
        exact ⟨⟨#[]⟩, size0, by simpa [NS.stepAt, hkn, h1, h2] using h3⟩
      · refine (hap5_E hw hn hS hN K fr tu ii nn num A B i hk hm0 hm1 hA hB hI hf0 hf1 ht0 ht1 hi0 hi1 hn0 hn1 a0 b0 hi3 (by omega) (by omega) hkn (by omega)).mono ?_
        rintro e w' h2
        have hno : (places A B S.msgs 0)[i]? = none := List.getElem?_eq_none (by omega)
        exact ⟨⟨#[]⟩, size0, by simpa [NS.stepAt, hkn, hno] using h2⟩
    · refine (hap5_U hw hn hS hN K fr tu ii nn num A B i hk hm0 hm1 hA hB hI hf0 hf1 ht0 ht1 hi0 hi1 hn0 hn1 a0 b0 hi3 (by omega) (by omega) (unknown_ways hkn)).mono ?_
      rintro e w' h2
      exact ⟨⟨#[]⟩, size0, by simpa [NS.stepAt, hkn] using h2⟩
  · cases hb : bit nn S.nodes with
    | true =>
      refine (hap6_W hw hn hS hN K fr tu ii nn num A B i hk hm0 hm1 hA hB hI hf0 hf1 ht0 ht1 hi0 hi1 hn0 hn1 a0 b0 hi3 (by omega) (by omega) hb).mono ?_
      rintro e w' h2
      exact ⟨⟨#[]⟩, size0, by simpa [NS.stepAt, hb] using h2⟩
    | false =>
      refine (hap6_K hw hn hS hN K fr tu ii nn num A B i hk hm0 hm1 hA hB hI hf0 hf1 ht0 ht1 hi0 hi1 hn0 hn1 a0 b0 hi3 (by omega) (by omega) hb).mono ?_
      rintro e w' h2
      exact ⟨⟨#[]⟩, size0, by simpa [NS.stepAt, hb] using h2⟩
  · by_cases hkn : 1 ≤ A ∧ A ≤ (S.nodes : Int)
    · refine (hap7_K hw hn hS hN K fr tu ii nn num A B i hk hm0 hm1 hA hB hI hf0 hf1 ht0 ht1 hi0 hi1 hn0 hn1 a0 b0 hi3 (by omega) (by omega) hkn.1 hkn.2).mono ?_
      rintro e w' h2
      exact ⟨⟨#[]⟩, size0, by simpa [NS.stepAt, hkn] using h2⟩
    · refine (hap7_U hw hn hS hN K fr tu ii nn num A B i hk hm0 hm1 hA hB hI hf0 hf1 ht0 ht1 hi0 hi1 hn0 hn1 a0 b0 hi3 (by omega) (by omega) (by omega)).mono ?_
      rintro e w' h2
      exact ⟨⟨#[]⟩, size0, by simpa [NS.stepAt, hkn] using h2⟩
  · by_cases hkn : 1 ≤ A ∧ A ≤ (S.nodes : Int)
    · by_cases h3 : 3 ≤ nn
      · refine (hap8_K hw hn hS hN K fr tu ii nn num A B i hk hm0 hm1 hA hB hI hf0 hf1 ht0 ht1 hi0 hi1 hn0 hn1 a0 b0 hi3 (by omega) (by omega) hkn.1 hkn.2 h3).mono ?_
        rintro e w' h2
        exact ⟨⟨#[]⟩, size0, by simpa [NS.stepAt, hkn, h3] using h2⟩
      · refine (hap8_L hw hn hS hN K fr tu ii nn num A B i hk hm0 hm1 hA hB hI hf0 hf1 ht0 ht1 hi0 hi1 hn0 hn1 a0 b0 hi3 (by omega) (by omega) hkn.1 hkn.2 (by omega)).mono ?_
        rintro e w' h2
        exact ⟨⟨#[]⟩, size0, by simpa [NS.stepAt, hkn, h3] using h2⟩
    · refine (hap8_U hw hn hS hN K fr tu ii nn num A B i hk hm0 hm1 hA hB hI hf0 hf1 ht0 ht1 hi0 hi1 hn0 hn1 a0 b0 hi3 (by omega) (by omega) (by omega)).mono ?_
      rintro e w' h2
      exact ⟨⟨#[]⟩, size0, by simpa [NS.stepAt, hkn] using h2⟩

end Go.Proofs.Ytcjcccmlpilbbaa
