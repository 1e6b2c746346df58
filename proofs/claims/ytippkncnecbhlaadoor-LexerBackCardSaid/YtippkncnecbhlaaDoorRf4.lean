/- The walk of the reference's word. -/
import Derived.Test.YtippkncnecbhlaaDoorRf3
import Derived.Test.YtippkncnecbhlaaDoorLxScan2
namespace Go.Proofs.YtippkncnecbhlaaDoor.Lx
open Go.RowKit
def zeroTok : Value := .agg #[.int .i64 0, .string ⟨#[]⟩, .int .i64 0, .int .i64 0]
def RefPost (r : Scan) (i : Nat) (w : World) (e : Ending) (w' : World) : Prop :=
  Keep [] w w' ∧ match r with
    | .error (a, c) => a = i ∧ e = .returned (.tuple #[zeroTok, .int .i64 i, .int .i64 c])
    | .ok (t, j) => e = .returned (.tuple #[t.val, .int .i64 j, .int .i64 0])
/-- Is there an upper-case letter from i up to k? -/
def upB (s : ByteArray) (i k : Nat) : Bool := (s.extract i k).data.toList.any Lib.isUpperB
theorem upB_start (s : ByteArray) (i : Nat) : upB s i i = false := by
  unfold upB
  have : (s.extract i i).data.toList = [] := by simp
  rw [this]; rfl
theorem upB_step (s : ByteArray) (i k : Nat) (hik : i ≤ k) (hk : k < s.size) : upB s i (k + 1) = (upB s i k || Lib.isUpperB s[k]) := by
  have e : (s.extract i (k + 1)).data.toList = (s.extract i k).data.toList ++ [s[k]] := by
    apply List.ext_getElem
    · simp; have : s.data.size = s.size := rfl; omega
    · intro n h1 h2
      have hs : s.data.size = s.size := rfl
      simp at h1
      by_cases hn : n < k - i
      · rw [List.getElem_append_left (by simp; omega)]; simp
      · rw [List.getElem_append_right (by simp; omega)]
        have : i + n = k := by omega
        simp [this]; rfl
  unfold upB
  rw [e, List.any_append]; simp
theorem isUpper_eq (b : UInt8) : Lib.isUpperB b = decide (65 ≤ (b.toNat : Int) ∧ (b.toNat : Int) ≤ 90) := by
  rw [Bool.eq_iff_iff]; simp [Lib.isUpperB, UInt8.le_iff_toNat_le]; omega
theorem lower_iff (l : List UInt8) : Lib.toLowerA l = l ↔ l.any Lib.isUpperB = false := by
  induction l with
  | nil => simp [Lib.toLowerA]
  | cons b l ih =>
    rw [List.any_cons, Bool.or_eq_false_iff, ← ih]
    unfold Lib.toLowerA
    rw [List.map_cons, List.cons.injEq]
    constructor
    · rintro ⟨h1, h2⟩
      refine ⟨?_, h2⟩
      cases hu : Lib.isUpperB b with
      | false => rfl
      | true =>
        unfold Lib.lowerB at h1
        rw [if_pos hu] at h1
        have := congrArg UInt8.toNat h1
        simp only [UInt8.toNat_add] at this
        have hb := UInt8.toNat_lt b
        simp at this
        omega
    · rintro ⟨h1, h2⟩
      exact ⟨by unfold Lib.lowerB; rw [if_neg (by rw [h1]; simp)], h2⟩
set_option maxRecDepth 100000 in
set_option maxHeartbeats 4000000 in
theorem refWordTok_any (s : ByteArray) (i : Nat) (w : World) (hi : i < s.size) (hs : s.size ≤ 65536) :
    Calls Tryd.prog 22 #[.string s, .int .i64 i] w (RefPost (scanWord s i) i w) := by
  obtain ⟨j, hj⟩ : ∃ j, runEnd wordB s i = j := ⟨_, rfl⟩
  have hle := runEnd_le wordB s (s.size - i) i rfl (by omega)
  obtain ⟨R, hR⟩ : ∃ R, scanWord s i = R := ⟨_, rfl⟩
  have HR := Lib.hid hR
  rw [hj] at hle
  have HJ := Lib.hid hj
  rw [hR]
  clear hj hR
  go_enter Tryd.func22, Tryd.ntmps22
  go_wp2_with fail
  have R0 := Lib.hid (tok_new w)
  have K0 : Keep [] w (w.alloc (.cells #[.int .i64 0, .string ⟨#[]⟩, .int .i64 0, .int .i64 0] 30)) := (Keep.refl _ _).alloc _
  generalize (w.alloc (.cells #[.int .i64 0, .string ⟨#[]⟩, .int .i64 0, .int .i64 0] 30)) = w1 at R0 K0 ⊢
  go_loop [7, 8] (fun c u => ∃ k : Nat, i ≤ k ∧ k ≤ j ∧ c = .int .i64 k ∧ u = .bool (upB s i k) ∧ Hid (runEnd wordB s k = j)) (fun c _ => s.size - (intOf c).toNat)
  case atStart => exact ⟨i, Nat.le_refl _, hle.1, rfl, by rw [upB_start], HJ.out⟩
  case round =>
    obtain ⟨k, hk1, hk2, rfl, rfl, HK⟩ := hrel
    obtain ⟨ub, hub⟩ : ∃ ub, upB s i k = ub := ⟨_, rfl⟩
    have HUB := Lib.hid hub
    rw [hub]
    clear hub
    by_cases hlt : k < s.size
    · cases hw : wordB (s[k].toNat : Int) with
      | true =>
        have hkj : k < j := by
          have h1 := HK.out
          rw [runEnd_step hlt hw] at h1
          have := (runEnd_le wordB s (s.size - (k + 1)) (k + 1) rfl (by omega)).1
          omega
        have HK2 : Hid (runEnd wordB s (k + 1) = j) := by have h1 := HK.out; rw [runEnd_step hlt hw] at h1; exact h1
        have hst := upB_step s i k hk1 hlt
        rw [isUpper_eq] at hst
        have HST := Lib.hid hst
        clear hst
        have hl : letterB (s[k].toNat : Int) = true ∨ (letterB (s[k].toNat : Int) = false ∧ digitB (s[k].toNat : Int) = true) := by
          simp only [wordB, Bool.or_eq_true] at hw
          cases h1 : letterB (s[k].toNat : Int) with
          | true => exact Or.inl rfl
          | false => rw [h1] at hw; exact Or.inr ⟨rfl, by simpa using hw⟩
        clear hw
        rcases hl with hl | ⟨hl1, hl2⟩ <;> cases ub
        all_goals
          go_wp2_with (first | (go_at_call 21; refine (refLetter_any _ _).mono ?_; rintro e w' ⟨rfl, rfl⟩) | (go_at_call 23; refine (refDigit_any _ _).mono ?_; rintro e w' ⟨rfl, rfl⟩))
          all_goals
            go_round
            case rel => exact ⟨k + 1, by omega, by omega, by go_num, congrArg Value.bool (by rw [HST.out, HUB.out, Bool.eq_iff_iff]; simp <;> omega), HK2.out⟩
            case measure => simp [intOf]; omega
      | false =>
        have hkj : k = j := by have h1 := HK.out; rw [runEnd_stop hlt hw] at h1; exact h1
        have hl1 : letterB (s[k].toNat : Int) = false := by simp only [wordB, Bool.or_eq_false_iff] at hw; exact hw.1
        have hl2 : digitB (s[k].toNat : Int) = false := by simp only [wordB, Bool.or_eq_false_iff] at hw; exact hw.2
        clear hw
        subst hkj
        obtain ⟨t, ht⟩ : ∃ t, s.extract i k = t := ⟨_, rfl⟩
        have HX := Lib.hid ht
        have hts : t.size ≤ 65536 := by rw [← ht, extract_size s i k (by omega)]; omega
        have hw1 : wordOf t i k = R := by rw [← HR.out, scanWord, HJ.out, ht]
        have hub2 : ub = t.data.toList.any Lib.isUpperB := by rw [← HUB.out, upB, ht]
        have HW := Lib.hid hw1
        have HU2 := Lib.hid hub2
        clear ht hw1 hub2
        have i1 : (i : Int) ≤ (k : Int) := by omega
        have i2 : (k : Int) ≤ (s.size : Int) := by omega
        go_wp2_with (first | (go_at_call 21; refine (refLetter_any _ _).mono ?_; rintro e w' ⟨rfl, rfl⟩) | (go_at_call 23; refine (refDigit_any _ _).mono ?_; rintro e w' ⟨rfl, rfl⟩))
        rw [HX.out]
        refine (refWord_any t _ (by omega)).mono ?_
        rintro e w2 ⟨rfl, hk2w⟩
        have K2 : Keep [] w w2 := K0.trans hk2w
        have R2 := hk2w.at R0.out (by simp)
        cases hkw : kwB t.data.toList with
        | true =>
          have HKW := Lib.hid hkw
          clear hkw R2
          go_wp2_with fail
          refine (refUpper_any t _ (by omega)).mono ?_
          rintro e w3 ⟨rfl, hk3⟩
          have R3 := hk3.at (hk2w.at R0.out (by simp)) (by simp)
          obtain ⟨r0, r1, r2, r3, f0, f1, f2, f3⟩ := blk4 R3
          clear R3
          go_wp2_with fail
          refine bodyPost_ret (v := .tuple #[.agg #[.int .i64 2, .string ⟨(Lib.toUpperA t.data.toList).toArray⟩, .int .i64 0, .int .i64 i], .int .i64 k, .int .i64 0]) (by simp [results, Tryd.results22, go_sem, r0, r1, r2, r3]) rfl ?_
          refine ⟨(K2.trans hk3).set4 (Nat.le_refl _) _ _ _ _, ?_⟩
          rw [← HW.out, wordOf, if_pos HKW.out]
          rfl
        | false =>
          have HKW := Lib.hid hkw
          clear hkw
          obtain ⟨r0, r1, r2, r3, f0, f1, f2, f3⟩ := blk4 R2
          clear R2
          cases ub with
          | true =>
            go_wp2_with fail
            refine bodyPost_ret (v := .tuple #[zeroTok, .int .i64 i, .int .i64 1]) (by simp [results, Tryd.results22, go_sem, r0, r1, r2, r3, zeroTok]) rfl ?_
            refine ⟨K2.set4 (Nat.le_refl _) _ _ _ _, ?_⟩
            rw [← HW.out, wordOf, if_neg (by rw [HKW.out]; simp), if_neg (by rw [lower_iff, ← HU2.out]; simp)]
            exact ⟨rfl, rfl⟩
          | false =>
            by_cases h24 : t.size ≤ 24
            · have h24' : ¬ (24 : Int) < (t.size : Int) := by omega
              go_wp2_with fail
              refine bodyPost_ret (v := .tuple #[.agg #[.int .i64 1, .string t, .int .i64 0, .int .i64 i], .int .i64 k, .int .i64 0]) (by simp [results, Tryd.results22, go_sem, r0, r1, r2, r3]) rfl ?_
              refine ⟨K2.set4 (Nat.le_refl _) _ _ _ _, ?_⟩
              rw [← HW.out, wordOf, if_neg (by rw [HKW.out]; simp), if_pos (by rw [lower_iff, ← HU2.out]), if_pos h24]
              rfl
            · have h24' : (24 : Int) < (t.size : Int) := by omega
              go_wp2_with fail
              refine bodyPost_ret (v := .tuple #[zeroTok, .int .i64 i, .int .i64 5]) (by simp [results, Tryd.results22, go_sem, r0, r1, r2, r3, zeroTok]) rfl ?_
              refine ⟨K2.set4 (Nat.le_refl _) _ _ _ _, ?_⟩
              rw [← HW.out, wordOf, if_neg (by rw [HKW.out]; simp), if_pos (by rw [lower_iff, ← HU2.out]), if_neg h24]
              exact ⟨rfl, rfl⟩
    · have hkj : k = j := by have h1 := HK.out; rw [runEnd_end hlt] at h1; exact h1
      subst hkj
      have hge : k = s.size := by omega
      have hge2 : ¬ (k : Int) < (s.size : Int) := by omega
      clear hge
      obtain ⟨t, ht⟩ : ∃ t, s.extract i k = t := ⟨_, rfl⟩
      have HX := Lib.hid ht
      have hts : t.size ≤ 65536 := by rw [← ht, extract_size s i k (by omega)]; omega
      have hw1 : wordOf t i k = R := by rw [← HR.out, scanWord, HJ.out, ht]
      have hub2 : ub = t.data.toList.any Lib.isUpperB := by rw [← HUB.out, upB, ht]
      have HW := Lib.hid hw1
      have HU2 := Lib.hid hub2
      clear ht hw1 hub2
      have i1 : (i : Int) ≤ (k : Int) := by omega
      have i2 : (k : Int) ≤ (s.size : Int) := by omega
      go_wp2_with (first | (go_at_call 21; refine (refLetter_any _ _).mono ?_; rintro e w' ⟨rfl, rfl⟩) | (go_at_call 23; refine (refDigit_any _ _).mono ?_; rintro e w' ⟨rfl, rfl⟩))
      rw [HX.out]
      refine (refWord_any t _ (by omega)).mono ?_
      rintro e w2 ⟨rfl, hk2w⟩
      have K2 : Keep [] w w2 := K0.trans hk2w
      have R2 := hk2w.at R0.out (by simp)
      cases hkw : kwB t.data.toList with
      | true =>
        have HKW := Lib.hid hkw
        clear hkw R2
        go_wp2_with fail
        refine (refUpper_any t _ (by omega)).mono ?_
        rintro e w3 ⟨rfl, hk3⟩
        have R3 := hk3.at (hk2w.at R0.out (by simp)) (by simp)
        obtain ⟨r0, r1, r2, r3, f0, f1, f2, f3⟩ := blk4 R3
        clear R3
        go_wp2_with fail
        refine bodyPost_ret (v := .tuple #[.agg #[.int .i64 2, .string ⟨(Lib.toUpperA t.data.toList).toArray⟩, .int .i64 0, .int .i64 i], .int .i64 k, .int .i64 0]) (by simp [results, Tryd.results22, go_sem, r0, r1, r2, r3]) rfl ?_
        refine ⟨(K2.trans hk3).set4 (Nat.le_refl _) _ _ _ _, ?_⟩
        rw [← HW.out, wordOf, if_pos HKW.out]
        rfl
      | false =>
        have HKW := Lib.hid hkw
        clear hkw
        obtain ⟨r0, r1, r2, r3, f0, f1, f2, f3⟩ := blk4 R2
        clear R2
        cases ub with
        | true =>
          go_wp2_with fail
          refine bodyPost_ret (v := .tuple #[zeroTok, .int .i64 i, .int .i64 1]) (by simp [results, Tryd.results22, go_sem, r0, r1, r2, r3, zeroTok]) rfl ?_
          refine ⟨K2.set4 (Nat.le_refl _) _ _ _ _, ?_⟩
          rw [← HW.out, wordOf, if_neg (by rw [HKW.out]; simp), if_neg (by rw [lower_iff, ← HU2.out]; simp)]
          exact ⟨rfl, rfl⟩
        | false =>
          by_cases h24 : t.size ≤ 24
          · have h24' : ¬ (24 : Int) < (t.size : Int) := by omega
            go_wp2_with fail
            refine bodyPost_ret (v := .tuple #[.agg #[.int .i64 1, .string t, .int .i64 0, .int .i64 i], .int .i64 k, .int .i64 0]) (by simp [results, Tryd.results22, go_sem, r0, r1, r2, r3]) rfl ?_
            refine ⟨K2.set4 (Nat.le_refl _) _ _ _ _, ?_⟩
            rw [← HW.out, wordOf, if_neg (by rw [HKW.out]; simp), if_pos (by rw [lower_iff, ← HU2.out]), if_pos h24]
            rfl
          · have h24' : (24 : Int) < (t.size : Int) := by omega
            go_wp2_with fail
            refine bodyPost_ret (v := .tuple #[zeroTok, .int .i64 i, .int .i64 5]) (by simp [results, Tryd.results22, go_sem, r0, r1, r2, r3, zeroTok]) rfl ?_
            refine ⟨K2.set4 (Nat.le_refl _) _ _ _ _, ?_⟩
            rw [← HW.out, wordOf, if_neg (by rw [HKW.out]; simp), if_pos (by rw [lower_iff, ← HU2.out]), if_neg h24]
            exact ⟨rfl, rfl⟩
end Go.Proofs.YtippkncnecbhlaaDoor.Lx
