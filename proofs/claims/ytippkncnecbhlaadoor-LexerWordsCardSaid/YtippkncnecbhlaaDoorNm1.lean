/- The walks of lexer.Name and of the reference's Name. -/
import Derived.Test.YtippkncnecbhlaaDoorRf9
namespace Go.Proofs.YtippkncnecbhlaaDoor.Lx
open Go.RowKit
def lowB (c : Int) : Bool := decide (97 ≤ c ∧ c ≤ 122 ∨ 48 ≤ c ∧ c ≤ 57 ∨ c = 95)
def nameB (s : ByteArray) : Bool := decide (0 < s.size ∧ s.size ≤ 24) && ((!digitB (byteAt s 0)) && ((!kwB s.data.toList) && (runEnd lowB s 0 == s.size)))
def BoolPost (b : Bool) (w : World) (e : Ending) (w' : World) : Prop := e = .returned (.bool b) ∧ Keep [] w w'
theorem low_split (c : Int) : lowB c = (digitB c || (letterB c && !(decide (65 ≤ c) && decide (c ≤ 90)))) := by
  rw [Bool.eq_iff_iff]; simp [lowB, digitB, letterB]; omega
set_option maxRecDepth 100000 in
set_option maxHeartbeats 4000000 in
theorem name_any (s : ByteArray) (w : World) (hs : s.size ≤ 140737488355328) (h : Tab w) : Calls Tryd.prog 16 #[.string s] w (BoolPost (nameB s) w) := by
  have HT := Lib.hid h
  clear h
  by_cases h0 : s.size = 0
  · have e : s = ⟨#[]⟩ := by cases s with | mk d => exact congrArg ByteArray.mk (Array.eq_empty_of_size_eq_zero h0)
    subst e
    go_enter Tryd.func16, Tryd.ntmps16
    go_wp2_with fail
    go_ret
    exact ⟨rfl, Keep.refl _ _⟩
  · have q0 : (s.toList == []) = false := by
      rw [ByteArray.toList_eq]
      have : s.data.size ≠ 0 := h0
      cases hd : s.data.toList with
      | nil => exact absurd (by rw [← Array.length_toList, hd]; rfl) this
      | cons a l => rfl
    by_cases h24 : 24 < s.size
    · have q1 : (24 : Int) < (s.size : Int) := by omega
      go_enter Tryd.func16, Tryd.ntmps16
      go_wp2_with fail
      go_ret
      refine ⟨ret_bool ?_, Keep.refl _ _⟩
      unfold nameB
      rw [decide_eq_false (by omega)]; rfl
    · have q1 : ¬ (24 : Int) < (s.size : Int) := by omega
      have q2 : 0 < s.size := by omega
      cases hd : digitB (s[0].toNat : Int) with
      | true =>
        have HD := Lib.hid hd
        clear hd
        go_enter Tryd.func16, Tryd.ntmps16
        go_wp2_with fail
        refine (digit_any _ _).mono ?_
        rintro e w2 ⟨rfl, rfl⟩
        rw [HD.out]
        go_wp2_with fail
        go_ret
        refine ⟨ret_bool ?_, Keep.refl _ _⟩
        unfold nameB
        rw [byteAt_eq q2, HD.out]; simp
      | false =>
        have HD := Lib.hid hd
        clear hd
        cases hk : kwB s.data.toList with
        | true =>
          have HK := Lib.hid hk
          clear hk
          go_enter Tryd.func16, Tryd.ntmps16
          go_wp2_with fail
          refine (digit_any _ _).mono ?_
          rintro e w2 ⟨rfl, rfl⟩
          rw [HD.out]
          go_wp2_with fail
          refine (word_any s _ hs HT.out).mono ?_
          rintro e w2 ⟨rfl, hk2⟩
          rw [HK.out]
          go_wp2_with fail
          go_ret
          refine ⟨ret_bool ?_, hk2⟩
          unfold nameB
          rw [HK.out]; simp
        | false =>
          have HK := Lib.hid hk
          clear hk
          go_enter Tryd.func16, Tryd.ntmps16
          go_wp2_with fail
          refine (digit_any _ _).mono ?_
          rintro e w2 ⟨rfl, rfl⟩
          rw [HD.out]
          go_wp2_with fail
          refine (word_any s _ hs HT.out).mono ?_
          rintro e w2 ⟨rfl, hk2⟩
          rw [HK.out]
          go_wp2_with fail
          have HNB : Hid (nameB s = (runEnd lowB s 0 == s.size)) := Lib.hid (by unfold nameB; rw [decide_eq_true (by omega), byteAt_eq q2, HD.out, HK.out]; rfl)
          go_loop [22] (fun c => ∃ k : Nat, k ≤ s.size ∧ c = .int .i64 k ∧ Hid (runEnd lowB s k = runEnd lowB s 0)) (fun c => s.size - (intOf c).toNat)
          case atStart => exact ⟨0, Nat.zero_le _, rfl, rfl⟩
          case round =>
            obtain ⟨k, hk, rfl, HR⟩ := hrel
            by_cases hlt : k < s.size
            · cases hd : digitB (s[k].toNat : Int) with
              | true =>
                have hL : lowB (s[k].toNat : Int) = true := by rw [low_split, hd]; rfl
                rw [runEnd_step hlt hL] at HR
                clear hL
                go_wp2_with (first | (go_at_call 32; refine (digit_any _ _).mono ?_; rintro e w' ⟨rfl, rfl⟩) | (go_at_call 33; refine (letter_any _ _).mono ?_; rintro e w' ⟨rfl, rfl⟩))
                go_round
                case rel => exact ⟨k + 1, by omega, by go_num, HR⟩
                case measure => simp [intOf]; omega
              | false =>
                cases hl : letterB (s[k].toNat : Int) with
                | false =>
                  have hL : lowB (s[k].toNat : Int) = false := by rw [low_split, hd, hl]; rfl
                  rw [runEnd_stop hlt hL] at HR
                  clear hL
                  go_wp2_with (first | (go_at_call 32; refine (digit_any _ _).mono ?_; rintro e w' ⟨rfl, rfl⟩) | (go_at_call 33; refine (letter_any _ _).mono ?_; rintro e w' ⟨rfl, rfl⟩))
                  go_ret
                  refine ⟨ret_bool ?_, hk2⟩
                  rw [HNB.out, ← HR.out]; simp; omega
                | true =>
                  by_cases h65 : 65 ≤ s[k].toNat
                  · by_cases h90 : s[k].toNat ≤ 90
                    · skip
                      have hL : lowB (s[k].toNat : Int) = false := by rw [low_split, hd, hl]; simp; omega
                      rw [runEnd_stop hlt hL] at HR
                      clear hL
                      go_wp2_with (first | (go_at_call 32; refine (digit_any _ _).mono ?_; rintro e w' ⟨rfl, rfl⟩) | (go_at_call 33; refine (letter_any _ _).mono ?_; rintro e w' ⟨rfl, rfl⟩))
                      go_ret
                      refine ⟨ret_bool ?_, hk2⟩
                      rw [HNB.out, ← HR.out]; simp; omega
                    · skip
                      have hL : lowB (s[k].toNat : Int) = true := by rw [low_split, hd, hl]; simp; omega
                      rw [runEnd_step hlt hL] at HR
                      clear hL
                      go_wp2_with (first | (go_at_call 32; refine (digit_any _ _).mono ?_; rintro e w' ⟨rfl, rfl⟩) | (go_at_call 33; refine (letter_any _ _).mono ?_; rintro e w' ⟨rfl, rfl⟩))
                      go_round
                      case rel => exact ⟨k + 1, by omega, by go_num, HR⟩
                      case measure => simp [intOf]; omega
                  · skip
                    have hL : lowB (s[k].toNat : Int) = true := by rw [low_split, hd, hl]; simp; omega
                    rw [runEnd_step hlt hL] at HR
                    clear hL
                    go_wp2_with (first | (go_at_call 32; refine (digit_any _ _).mono ?_; rintro e w' ⟨rfl, rfl⟩) | (go_at_call 33; refine (letter_any _ _).mono ?_; rintro e w' ⟨rfl, rfl⟩))
                    go_round
                    case rel => exact ⟨k + 1, by omega, by go_num, HR⟩
                    case measure => simp [intOf]; omega
            · obtain rfl : k = s.size := by omega
              rw [runEnd_end hlt] at HR
              go_wp2_with fail
              go_ret
              refine ⟨ret_bool ?_, hk2⟩
              rw [HNB.out, ← HR.out]; simp
end Go.Proofs.YtippkncnecbhlaaDoor.Lx
