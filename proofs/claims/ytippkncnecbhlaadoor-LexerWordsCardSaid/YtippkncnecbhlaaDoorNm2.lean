/- The walks of the reference's Name. -/
import Derived.Test.YtippkncnecbhlaaDoorNm1
namespace Go.Proofs.YtippkncnecbhlaaDoor.Lx
open Go.RowKit
set_option maxRecDepth 100000 in
set_option maxHeartbeats 4000000 in
theorem in_any (s : ByteArray) (b : Nat) (w : World) (h : w.heap[b]? = some (.cells lowCells 9 (0, 0))) : Calls Tryd.prog 54 #[.slice (some ⟨b, 0, none⟩) 87 87, .string s] w (BoolPost (decide (s.data.toList ∈ lows)) w) := by
  have HB := Lib.hid h
  clear h
  go_enter Tryd.func54, Tryd.ntmps54
  go_wp2_with fail
  go_loop [5] (fun c => ∃ k : Nat, k ≤ 87 ∧ c = .int .i64 k ∧ Hid (∀ j, j < k → lows.getD j [] ≠ s.data.toList)) (fun c => 87 - (intOf c).toNat)
  case atStart => exact ⟨0, Nat.zero_le _, rfl, fun j hj => by omega⟩
  case round =>
    obtain ⟨k, hk, rfl, HA⟩ := hrel
    by_cases hlt : k < 87
    · have hc := low_cell HB.out k hlt
      obtain ⟨y, hy⟩ : ∃ y, lows.getD k [] = y := ⟨_, rfl⟩
      have HY := Lib.hid hy
      rw [hy] at hc
      clear hy
      have h87 : lows.length = 87 := lows_len
      have HM : Hid (y ∈ lows) := Lib.hid (by rw [← HY.out, List.getD_eq_getElem?_getD, List.getElem?_eq_getElem (by omega)]; exact List.getElem_mem _)
      clear h87
      cases he : (y == s.toList) with
      | true =>
        have e1 : y = s.data.toList := by rw [← ByteArray.toList_eq]; simpa using he
        have E1 := Lib.hid e1
        clear e1
        go_wp2_with fail
        go_ret
        refine ⟨ret_bool ?_, Keep.refl _ _⟩
        rw [← E1.out]; exact (decide_eq_true HM.out).symm
      | false =>
        have e1 : ¬ y = s.data.toList := by rw [← ByteArray.toList_eq]; simpa using he
        have E1 := Lib.hid e1
        clear e1
        go_wp2_with fail
        go_round
        case rel => exact ⟨k + 1, by omega, by go_num, fun j hj => by
          by_cases e : j = k
          · subst e; rw [HY.out]; exact E1.out
          · exact HA.out j (by omega)⟩
        case measure => simp [intOf]; omega
    · obtain rfl : k = 87 := by omega
      go_wp2_with fail
      go_ret
      refine ⟨ret_bool ?_, Keep.refl _ _⟩
      refine (decide_eq_false ?_).symm
      intro hm
      obtain ⟨j, hj, e⟩ := List.mem_iff_getElem.1 hm
      have h87 : lows.length = 87 := lows_len
      refine HA.out j (by omega) ?_
      rw [List.getD_eq_getElem?_getD, List.getElem?_eq_getElem hj]; exact e
end Go.Proofs.YtippkncnecbhlaaDoor.Lx
