/- The walk of the reference's Name. -/
import Derived.Test.YtippkncnecbhlaaDoorNm2
namespace Go.Proofs.YtippkncnecbhlaaDoor.Lx
open Go.RowKit
theorem low_up_byte (b : UInt8) (h : lowB (b.toNat : Int) = true) : Lib.lowerB (Lib.upperB b) = b := by
  have h1 : b.toNat < 256 := b.toNat_lt
  have key : ∀ n : Fin 256, lowB (n.val : Int) = true → Lib.lowerB (Lib.upperB (UInt8.ofNat n.val)) = UInt8.ofNat n.val := by decide +kernel
  have := key ⟨b.toNat, h1⟩ h
  simpa using this
theorem low_iff (l : List UInt8) (h : ∀ b ∈ l, lowB (b.toNat : Int) = true) : l ∈ lows ↔ kwB l = true := by
  have h2 : (Lib.toUpperA l).map Lib.lowerB = l := by
    unfold Lib.toUpperA
    rw [List.map_map]
    conv => rhs; rw [← List.map_id l]
    exact List.map_congr_left (fun b hb => low_up_byte b (h b hb))
  unfold kwB
  rw [decide_eq_true_eq]
  constructor
  · intro hm
    obtain ⟨j, hj, e⟩ := List.mem_iff_getElem.1 hm
    have hj' : j < 87 := by rw [← lows_len]; exact hj
    have e1 : lows.getD j [] = l := by rw [List.getD_eq_getElem?_getD, List.getElem?_eq_getElem hj]; exact e
    have := low_up j hj'
    rw [e1] at this
    rw [this]
    exact getD_mem j hj'
  · intro hm
    rw [← h2]
    exact List.mem_map_of_mem hm
set_option maxRecDepth 100000 in
set_option maxHeartbeats 4000000 in
theorem refName34_any (s : ByteArray) (w : World) (hs : s.size ≤ 140737488355328) : Calls Tryd.prog 34 #[.string s] w (BoolPost (nameB s) w) := by
  by_cases h0 : s.size = 0
  · have e : s = ⟨#[]⟩ := by cases s with | mk d => exact congrArg ByteArray.mk (Array.eq_empty_of_size_eq_zero h0)
    subst e
    go_enter Tryd.func34, Tryd.ntmps34
    go_wp2_with fail
    go_ret
    exact ⟨rfl, Keep.refl _ _⟩
  · have q0 : (s.toList == []) = false := by
      rw [ByteArray.toList_eq]
      have : s.data.size ≠ 0 := h0
      cases hd : s.data.toList with
      | nil => exact absurd (by rw [← Array.length_toList, hd]; rfl) this
      | cons a l => rfl
    by_cases h24 : 24 < s.size
    · have q1 : (24 : Int) < (s.size : Int) := by omega
      go_enter Tryd.func34, Tryd.ntmps34
      go_wp2_with fail
      go_ret
      refine ⟨ret_bool ?_, Keep.refl _ _⟩
      unfold nameB
      rw [decide_eq_false (by omega)]; rfl
    · have q1 : ¬ (24 : Int) < (s.size : Int) := by omega
      have q2 : 0 < s.size := by omega
      by_cases hd : 48 ≤ s[0].toNat ∧ s[0].toNat ≤ 57
      · obtain ⟨d1, d2⟩ := hd
        go_enter Tryd.func34, Tryd.ntmps34
        go_wp2_with fail
        go_ret
        refine ⟨ret_bool ?_, Keep.refl _ _⟩
        have HD : digitB (s[0].toNat : Int) = true := by simp [digitB]; omega
        unfold nameB
        rw [byteAt_eq q2, HD]; simp
      · have hd' : (¬ 48 ≤ s[0].toNat) ∨ (48 ≤ s[0].toNat ∧ ¬ s[0].toNat ≤ 57) := by omega
        have HD : Hid (digitB (s[0].toNat : Int) = false) := Lib.hid (by simp [digitB]; omega)
        clear hd
        rcases hd' with d1 | ⟨d1, d2⟩
        all_goals
          go_enter Tryd.func34, Tryd.ntmps34
          go_wp2_with fail
          go_loop [3] (fun c => ∃ k : Nat, k ≤ s.size ∧ c = .int .i64 k ∧ Hid (runEnd lowB s k = runEnd lowB s 0)) (fun c => s.size - (intOf c).toNat)
          case atStart => exact ⟨0, Nat.zero_le _, rfl, rfl⟩
          case round =>
            have HNB : Hid (nameB s = ((!kwB s.data.toList) && (runEnd lowB s 0 == s.size))) := Lib.hid (by unfold nameB; rw [decide_eq_true (by omega), byteAt_eq q2, HD.out]; rfl)
            obtain ⟨k, hk, rfl, HR⟩ := hrel
            by_cases hlt : k < s.size
            · have hcs : (97 ≤ s[k].toNat ∧ s[k].toNat ≤ 122) ∨ (¬ 97 ≤ s[k].toNat ∧ 48 ≤ s[k].toNat ∧ s[k].toNat ≤ 57) ∨ (¬ 97 ≤ s[k].toNat ∧ 48 ≤ s[k].toNat ∧ ¬ s[k].toNat ≤ 57 ∧ ((s[k].toNat : Int) == 95) = true) ∨
                  (¬ 97 ≤ s[k].toNat ∧ 48 ≤ s[k].toNat ∧ ¬ s[k].toNat ≤ 57 ∧ ((s[k].toNat : Int) == 95) = false) ∨ (97 ≤ s[k].toNat ∧ ¬ s[k].toNat ≤ 122 ∧ 48 ≤ s[k].toNat ∧ ¬ s[k].toNat ≤ 57 ∧ ((s[k].toNat : Int) == 95) = false) ∨
                  (¬ 97 ≤ s[k].toNat ∧ ¬ 48 ≤ s[k].toNat ∧ ((s[k].toNat : Int) == 95) = false) := by
                simp only [beq_iff_eq, beq_eq_false_iff_ne, ne_eq]; omega
              rcases hcs with ⟨c1, c2⟩ | ⟨c1, c2, c3⟩ | ⟨c1, c2, c3, c4⟩ | ⟨c1, c2, c3, c4⟩ | ⟨c1, c2, c3, c4, c5⟩ | ⟨c1, c2, c3⟩
              · skip
                have hL : lowB (s[k].toNat : Int) = true := by simp [lowB]; omega
                rw [runEnd_step hlt hL] at HR
                clear hL
                go_wp2_with fail
                go_round
                case rel => exact ⟨k + 1, by omega, by go_num, HR⟩
                case measure => simp [intOf]; omega
              · skip
                have hL : lowB (s[k].toNat : Int) = true := by simp [lowB]; omega
                rw [runEnd_step hlt hL] at HR
                clear hL
                go_wp2_with fail
                go_round
                case rel => exact ⟨k + 1, by omega, by go_num, HR⟩
                case measure => simp [intOf]; omega
              · skip
                have hL : lowB (s[k].toNat : Int) = true := by simp at c4; simp [lowB]; omega
                rw [runEnd_step hlt hL] at HR
                clear hL
                go_wp2_with fail
                go_round
                case rel => exact ⟨k + 1, by omega, by go_num, HR⟩
                case measure => simp [intOf]; omega
              · skip
                have hL : lowB (s[k].toNat : Int) = false := by simp at c4; simp [lowB]; omega
                rw [runEnd_stop hlt hL] at HR
                clear hL
                go_wp2_with fail
                go_ret
                refine ⟨ret_bool ?_, Keep.refl _ _⟩
                rw [HNB.out, ← HR.out]; simp; intro _; omega
                case roundEnd => exfalso; rename_i hh; simp at hh; omega
              · skip
                have hL : lowB (s[k].toNat : Int) = false := by simp at c5; simp [lowB]; omega
                rw [runEnd_stop hlt hL] at HR
                clear hL
                go_wp2_with fail
                go_ret
                refine ⟨ret_bool ?_, Keep.refl _ _⟩
                rw [HNB.out, ← HR.out]; simp; intro _; omega
                case roundEnd => exfalso; rename_i hh; simp at hh; omega
              · skip
                have hL : lowB (s[k].toNat : Int) = false := by simp at c3; simp [lowB]; omega
                rw [runEnd_stop hlt hL] at HR
                clear hL
                go_wp2_with fail
                go_ret
                refine ⟨ret_bool ?_, Keep.refl _ _⟩
                rw [HNB.out, ← HR.out]; simp; intro _; omega
            · obtain rfl : k = s.size := by omega
              rw [runEnd_end hlt] at HR
              go_wp2_with fail
              refine (refLows_any w).mono ?_
              rintro e w1 ⟨rfl, rfl⟩
              go_wp2_with fail
              refine (in_any s w.heap.size _ (blk_new w _)).mono ?_
              rintro e w2 ⟨rfl, hk2⟩
              go_wp2_with fail
              go_ret
              refine ⟨ret_bool ?_, ((Keep.refl [] w).alloc _).trans hk2⟩
              have hall : ∀ b ∈ s.data.toList, lowB (b.toNat : Int) = true := by
                intro b hb
                obtain ⟨q, hq, e⟩ := List.mem_iff_getElem.1 hb
                rw [toList_get] at e
                rw [← e]
                exact runEnd_all lowB s (s.size - 0) 0 rfl q (Nat.zero_le _) (by have := HR.out; simp at hq; omega) _
              rw [HNB.out, ← HR.out]
              have hl := low_iff _ hall
              cases hk : kwB s.data.toList with
              | true => rw [decide_eq_true (hl.2 hk)]; simp
              | false => rw [decide_eq_false (fun hm => by have := hl.1 hm; rw [hk] at this; cases this)]; simp
theorem refName_any (s : ByteArray) (w : World) (hs : s.size ≤ 140737488355328) : Calls Tryd.prog 17 #[.string s] w (BoolPost (nameB s) w) := by
  go_enter Tryd.func17, Tryd.ntmps17
  go_wp2_with fail
  refine (refName34_any s w hs).mono ?_
  rintro e w1 ⟨rfl, hk⟩
  go_wp2_with fail
  go_ret
  exact ⟨rfl, hk⟩
end Go.Proofs.YtippkncnecbhlaaDoor.Lx
