/- The walk of the reference's number. -/
import Derived.Test.YtippkncnecbhlaaDoorRf4
namespace Go.Proofs.YtippkncnecbhlaaDoor.Lx
open Go.RowKit
theorem ext_snoc (s : ByteArray) (i k : Nat) (hik : i ≤ k) (hk : k < s.size) : (s.extract i (k + 1)).data.toList = (s.extract i k).data.toList ++ [s[k]] := by
  apply List.ext_getElem
  · simp; have : s.data.size = s.size := rfl; omega
  · intro n h1 h2
    have hs : s.data.size = s.size := rfl
    simp at h1
    by_cases hn : n < k - i
    · rw [List.getElem_append_left (by simp; omega)]; simp
    · rw [List.getElem_append_right (by simp; omega)]
      have : i + n = k := by omega
      simp [this]; rfl
theorem ext_nil (s : ByteArray) (i : Nat) : (s.extract i i).data.toList = [] := by simp
set_option maxRecDepth 100000 in
set_option maxHeartbeats 4000000 in
theorem refNumber_any (s : ByteArray) (i : Nat) (w : World) (hi : i < s.size) (hd : digitB (s[i].toNat : Int) = true) (hs : s.size ≤ 65536) :
    Calls Tryd.prog 24 #[.string s, .int .i64 i] w (RefPost (scanNumber s i) i w) := by
  obtain ⟨j, hj⟩ : ∃ j, runEnd digitB s i = j := ⟨_, rfl⟩
  have hle := runEnd_le digitB s (s.size - i) i rfl (by omega)
  have hgt : i < runEnd digitB s i := by
    rw [runEnd_step hi hd]; have := (runEnd_le digitB s (s.size - (i + 1)) (i + 1) rfl (by omega)).1; omega
  have hall := runEnd_all digitB s (s.size - i) i rfl
  obtain ⟨R, hR⟩ : ∃ R, scanNumber s i = R := ⟨_, rfl⟩
  have HR := Lib.hid hR
  rw [hj] at hle hgt hall
  have HJ := Lib.hid hj
  have HALL := Lib.hid hall
  have hdig : ∀ k, i ≤ k → k ≤ j → ∀ b ∈ (s.extract i k).data.toList, 48 ≤ b.toNat := by
    intro k h1 h2 b hb
    obtain ⟨q, hq, e⟩ := List.mem_iff_getElem.1 hb
    have hss : s.data.size = s.size := rfl
    have hq2 : q < k - i := by simp at hq; omega
    have h3 := hall (i + q) (by omega) (by omega) (by omega)
    simp [digitB] at h3
    have e2 : b = s[i + q] := by rw [← e]; simp; rfl
    rw [e2]; omega
  have HDIG := Lib.hid hdig
  rw [hR]
  clear hj hR hall hdig hd
  go_enter Tryd.func24, Tryd.ntmps24
  go_wp2_with fail
  have R0 := Lib.hid (tok_new w)
  have K0 : Keep [] w (w.alloc (.cells #[.int .i64 0, .string ⟨#[]⟩, .int .i64 0, .int .i64 0] 30)) := (Keep.refl _ _).alloc _
  generalize (w.alloc (.cells #[.int .i64 0, .string ⟨#[]⟩, .int .i64 0, .int .i64 0] 30)) = w1 at R0 K0 ⊢
  go_loop [7, 8] (fun c n => ∃ k : Nat, i ≤ k ∧ k ≤ j ∧ c = .int .i64 k ∧ n = .int .i64 (numFold (s.extract i k).data.toList)) (fun c _ => s.size - (intOf c).toNat)
  case atStart => exact ⟨i, Nat.le_refl _, hle.1, rfl, by rw [ext_nil]; rfl⟩
  case round =>
    obtain ⟨k, hk1, hk2, rfl, rfl⟩ := hrel
    have hbd := numFold_bd _ (HDIG.out k hk1 hk2)
    by_cases hc : k < j
    · have hks : k < s.size := by omega
      have hdk := HALL.out k hk1 hc hks
      have hdk2 := hdk
      simp [digitB] at hdk2
      have HN : Hid (numFold (s.extract i (k + 1)).data.toList = min (10 * numFold (s.extract i k).data.toList + ((s[k].toNat : Int) - 48)) 1125899906842625) := by rw [ext_snoc s i k hk1 hks]; exact numFold_snoc _ _
      obtain ⟨q, hq⟩ : ∃ q, numFold (s.extract i k).data.toList = q := ⟨_, rfl⟩
      rw [hq] at hbd HN ⊢
      clear hq
      go_wp2_with (first | (go_at_call 23; refine (refDigit_any _ _).mono ?_; rintro e w' ⟨rfl, rfl⟩))
      go_round
      case rel => exact ⟨k + 1, by omega, by omega, by go_num, by rw [HN.out, Int.mul_comm]⟩
      case measure => simp [intOf]; omega
    · obtain rfl : k = j := by omega
      obtain ⟨q, hq⟩ : ∃ q, numFold (s.extract i k).data.toList = q := ⟨_, rfl⟩
      rw [hq] at hbd ⊢
      have HQ := Lib.hid hq
      clear hq
      have hex : ∀ h : k < s.size, digitB (s[k].toNat : Int) = false := by
        have h3 := runEnd_at digitB s (s.size - i) i rfl
        rw [HJ.out] at h3
        exact h3
      have hcs : (∃ _ : k < s.size, (k : Int) < (s.size : Int) ∧ digitB (s[k].toNat : Int) = false ∧ letterB (s[k].toNat : Int) = true) ∨ (∃ _ : k < s.size, (k : Int) < (s.size : Int) ∧ digitB (s[k].toNat : Int) = false ∧ letterB (s[k].toNat : Int) = false) ∨ (¬ (k : Int) < (s.size : Int)) := by
        by_cases h : k < s.size
        · cases h2 : letterB (s[k].toNat : Int) with
          | true => exact Or.inl ⟨h, by omega, hex h, h2⟩
          | false => exact Or.inr (Or.inl ⟨h, by omega, hex h, h2⟩)
        · exact Or.inr (Or.inr (by omega))
      have hp : (((s[i].toNat : Int) == 48) = true ∧ (i : Int) + 1 < (k : Int)) ∨ (((s[i].toNat : Int) == 48) = true ∧ decide ((i : Int) + 1 < (k : Int)) = false) ∨ (((s[i].toNat : Int) == 48) = false) := by
        cases h : ((s[i].toNat : Int) == 48) with
        | false => exact Or.inr (Or.inr rfl)
        | true =>
          by_cases h2 : (i : Int) + 1 < (k : Int)
          · exact Or.inl ⟨rfl, h2⟩
          · exact Or.inr (Or.inl ⟨rfl, by simpa using h2⟩)
      have HBAD : Hid (numBad s i k = (decide (1 < k - i) && ((s[i].toNat : Int) == 48) || decide (k < s.size) && letterB (byteAt s k))) := Lib.hid (by rw [numBad, byteAt_eq hi])
      have HR2 : Hid (numOf (numBad s i k) q i k = R) := Lib.hid (by rw [← HR.out, scanNumber, HJ.out, HQ.out])
      obtain ⟨r0, r1, r2, r3, f0, f1, f2, f3⟩ := blk4 R0
      clear hex
      rcases hp with ⟨p1, p2⟩ | ⟨p1, p2⟩ | p1
      · rcases hcs with ⟨c1, c2, c3, c4⟩ | ⟨c1, c2, c3, c4⟩ | c1
        all_goals
          go_wp2_with (first | (go_at_call 21; refine (refLetter_any _ _).mono ?_; rintro e w' ⟨rfl, rfl⟩) | (go_at_call 23; refine (refDigit_any _ _).mono ?_; rintro e w' ⟨rfl, rfl⟩))
          refine bodyPost_ret (v := .tuple #[zeroTok, .int .i64 i, .int .i64 1]) (by simp [results, Tryd.results24, go_sem, r0, r1, r2, r3, zeroTok]) rfl ?_
          refine ⟨K0.set4 (Nat.le_refl _) _ _ _ _, ?_⟩
          have HB2 : numBad s i k = true := by rw [HBAD.out, p1]; simp; left; omega
          rw [← HR2.out, HB2]
          exact ⟨rfl, rfl⟩
      · rcases hcs with ⟨c1, c2, c3, c4⟩ | ⟨c1, c2, c3, c4⟩ | c1
        · go_wp2_with (first | (go_at_call 21; refine (refLetter_any _ _).mono ?_; rintro e w' ⟨rfl, rfl⟩) | (go_at_call 23; refine (refDigit_any _ _).mono ?_; rintro e w' ⟨rfl, rfl⟩))
          refine bodyPost_ret (v := .tuple #[zeroTok, .int .i64 i, .int .i64 1]) (by simp [results, Tryd.results24, go_sem, r0, r1, r2, r3, zeroTok]) rfl ?_
          refine ⟨K0.set4 (Nat.le_refl _) _ _ _ _, ?_⟩
          have HB2 : numBad s i k = true := by rw [HBAD.out, p1, byteAt_eq c1, c4]; simp; right; exact c1
          rw [← HR2.out, HB2]
          exact ⟨rfl, rfl⟩
        · have HB2 : numBad s i k = false := by rw [HBAD.out]; (have h9 : ¬ 1 < k - i := by (simp at p2; omega)); rw [p1, byteAt_eq c1, c4]; simp [h9]
          by_cases hbig : 1125899906842624 < q
          · go_wp2_with (first | (go_at_call 21; refine (refLetter_any _ _).mono ?_; rintro e w' ⟨rfl, rfl⟩) | (go_at_call 23; refine (refDigit_any _ _).mono ?_; rintro e w' ⟨rfl, rfl⟩))
            refine bodyPost_ret (v := .tuple #[zeroTok, .int .i64 i, .int .i64 6]) (by simp [results, Tryd.results24, go_sem, r0, r1, r2, r3, zeroTok]) rfl ?_
            refine ⟨K0.set4 (Nat.le_refl _) _ _ _ _, ?_⟩
            rw [← HR2.out, HB2, numOf, if_neg (by simp), if_pos hbig]
            exact ⟨rfl, rfl⟩
          · go_wp2_with (first | (go_at_call 21; refine (refLetter_any _ _).mono ?_; rintro e w' ⟨rfl, rfl⟩) | (go_at_call 23; refine (refDigit_any _ _).mono ?_; rintro e w' ⟨rfl, rfl⟩))
            refine bodyPost_ret (v := .tuple #[.agg #[.int .i64 3, .string ⟨#[]⟩, .int .i64 q, .int .i64 i], .int .i64 k, .int .i64 0]) (by simp [results, Tryd.results24, go_sem, r0, r1, r2, r3]) rfl ?_
            refine ⟨K0.set4 (Nat.le_refl _) _ _ _ _, ?_⟩
            rw [← HR2.out, HB2, numOf, if_neg (by simp), if_neg (by omega)]
            rfl
        · have HB2 : numBad s i k = false := by rw [HBAD.out]; (have h9 : ¬ 1 < k - i := by (simp at p2; omega)); (have h8 : ¬ k < s.size := by omega); rw [p1]; simp [h9, h8]
          by_cases hbig : 1125899906842624 < q
          · go_wp2_with (first | (go_at_call 21; refine (refLetter_any _ _).mono ?_; rintro e w' ⟨rfl, rfl⟩) | (go_at_call 23; refine (refDigit_any _ _).mono ?_; rintro e w' ⟨rfl, rfl⟩))
            refine bodyPost_ret (v := .tuple #[zeroTok, .int .i64 i, .int .i64 6]) (by simp [results, Tryd.results24, go_sem, r0, r1, r2, r3, zeroTok]) rfl ?_
            refine ⟨K0.set4 (Nat.le_refl _) _ _ _ _, ?_⟩
            rw [← HR2.out, HB2, numOf, if_neg (by simp), if_pos hbig]
            exact ⟨rfl, rfl⟩
          · go_wp2_with (first | (go_at_call 21; refine (refLetter_any _ _).mono ?_; rintro e w' ⟨rfl, rfl⟩) | (go_at_call 23; refine (refDigit_any _ _).mono ?_; rintro e w' ⟨rfl, rfl⟩))
            refine bodyPost_ret (v := .tuple #[.agg #[.int .i64 3, .string ⟨#[]⟩, .int .i64 q, .int .i64 i], .int .i64 k, .int .i64 0]) (by simp [results, Tryd.results24, go_sem, r0, r1, r2, r3]) rfl ?_
            refine ⟨K0.set4 (Nat.le_refl _) _ _ _ _, ?_⟩
            rw [← HR2.out, HB2, numOf, if_neg (by simp), if_neg (by omega)]
            rfl
      · rcases hcs with ⟨c1, c2, c3, c4⟩ | ⟨c1, c2, c3, c4⟩ | c1
        · go_wp2_with (first | (go_at_call 21; refine (refLetter_any _ _).mono ?_; rintro e w' ⟨rfl, rfl⟩) | (go_at_call 23; refine (refDigit_any _ _).mono ?_; rintro e w' ⟨rfl, rfl⟩))
          refine bodyPost_ret (v := .tuple #[zeroTok, .int .i64 i, .int .i64 1]) (by simp [results, Tryd.results24, go_sem, r0, r1, r2, r3, zeroTok]) rfl ?_
          refine ⟨K0.set4 (Nat.le_refl _) _ _ _ _, ?_⟩
          have HB2 : numBad s i k = true := by rw [HBAD.out, p1, byteAt_eq c1, c4]; simp; exact c1
          rw [← HR2.out, HB2]
          exact ⟨rfl, rfl⟩
        · have HB2 : numBad s i k = false := by rw [HBAD.out]; rw [p1, byteAt_eq c1, c4]; simp
          by_cases hbig : 1125899906842624 < q
          · go_wp2_with (first | (go_at_call 21; refine (refLetter_any _ _).mono ?_; rintro e w' ⟨rfl, rfl⟩) | (go_at_call 23; refine (refDigit_any _ _).mono ?_; rintro e w' ⟨rfl, rfl⟩))
            refine bodyPost_ret (v := .tuple #[zeroTok, .int .i64 i, .int .i64 6]) (by simp [results, Tryd.results24, go_sem, r0, r1, r2, r3, zeroTok]) rfl ?_
            refine ⟨K0.set4 (Nat.le_refl _) _ _ _ _, ?_⟩
            rw [← HR2.out, HB2, numOf, if_neg (by simp), if_pos hbig]
            exact ⟨rfl, rfl⟩
          · go_wp2_with (first | (go_at_call 21; refine (refLetter_any _ _).mono ?_; rintro e w' ⟨rfl, rfl⟩) | (go_at_call 23; refine (refDigit_any _ _).mono ?_; rintro e w' ⟨rfl, rfl⟩))
            refine bodyPost_ret (v := .tuple #[.agg #[.int .i64 3, .string ⟨#[]⟩, .int .i64 q, .int .i64 i], .int .i64 k, .int .i64 0]) (by simp [results, Tryd.results24, go_sem, r0, r1, r2, r3]) rfl ?_
            refine ⟨K0.set4 (Nat.le_refl _) _ _ _ _, ?_⟩
            rw [← HR2.out, HB2, numOf, if_neg (by simp), if_neg (by omega)]
            rfl
        · have HB2 : numBad s i k = false := by rw [HBAD.out]; (have h8 : ¬ k < s.size := by omega); rw [p1]; simp [h8]
          by_cases hbig : 1125899906842624 < q
          · go_wp2_with (first | (go_at_call 21; refine (refLetter_any _ _).mono ?_; rintro e w' ⟨rfl, rfl⟩) | (go_at_call 23; refine (refDigit_any _ _).mono ?_; rintro e w' ⟨rfl, rfl⟩))
            refine bodyPost_ret (v := .tuple #[zeroTok, .int .i64 i, .int .i64 6]) (by simp [results, Tryd.results24, go_sem, r0, r1, r2, r3, zeroTok]) rfl ?_
            refine ⟨K0.set4 (Nat.le_refl _) _ _ _ _, ?_⟩
            rw [← HR2.out, HB2, numOf, if_neg (by simp), if_pos hbig]
            exact ⟨rfl, rfl⟩
          · go_wp2_with (first | (go_at_call 21; refine (refLetter_any _ _).mono ?_; rintro e w' ⟨rfl, rfl⟩) | (go_at_call 23; refine (refDigit_any _ _).mono ?_; rintro e w' ⟨rfl, rfl⟩))
            refine bodyPost_ret (v := .tuple #[.agg #[.int .i64 3, .string ⟨#[]⟩, .int .i64 q, .int .i64 i], .int .i64 k, .int .i64 0]) (by simp [results, Tryd.results24, go_sem, r0, r1, r2, r3]) rfl ?_
            refine ⟨K0.set4 (Nat.le_refl _) _ _ _ _, ?_⟩
            rw [← HR2.out, HB2, numOf, if_neg (by simp), if_neg (by omega)]
            rfl
end Go.Proofs.YtippkncnecbhlaaDoor.Lx
