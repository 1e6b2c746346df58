/- The walk of the law LexerWords. -/
import Derived.Test.YtippkncnecbhlaaDoorNm3
import Derived.Test.YtippkncnecbhlaaDoorLxAwake
namespace Go.Proofs.YtippkncnecbhlaaDoor.Lx
open Go.RowKit
theorem kwb_cell {w : World} {b : Nat} (h : w.heap[b]? = some (.cells kwCells 9 (0, 0))) (j : Nat) (hj : j < 87) : w.cell? ⟨b, j, none⟩ = some (.string ⟨(kws.getD j []).toArray⟩) := by
  rw [blk_cell h j]
  have h' : j < kws.length := by rw [kws_len]; exact hj
  simp [kwCells, List.getD_eq_getElem?_getD, List.getElem?_eq_getElem h']
set_option maxRecDepth 100000 in
set_option maxHeartbeats 4000000 in
theorem wordsLaw_any (s : ByteArray) (w : World) (hs : s.size ≤ 140737488355328) (h : Tab w) : Calls Tryd.prog 5 #[.string s] w (TruePost w) := by
  have HT := Lib.hid h
  clear h
  go_enter Tryd.func5, Tryd.ntmps5
  go_wp2_with fail
  refine (words_any w HT.out).mono ?_
  rintro e w1 ⟨rfl, hw1⟩
  have K1 : Keep [] w w1 := by rw [hw1]; exact (Keep.refl [] w).alloc _
  have B1 : Hid (w1.heap[w.heap.size]? = some (.cells kwCells 9 (0, 0))) := by rw [hw1]; exact blk_new w _
  clear hw1
  go_wp2_with fail
  refine (refWords_any w1).mono ?_
  rintro e w2 ⟨g, cap, rfl, hown, hk2⟩
  have B2 : Hid (w2.heap[w.heap.size]? = some (.cells kwCells 9 (0, 0))) := hk2.at B1.out (by simp)
  have K2 : Keep [] w w2 := K1.trans hk2
  have HO := Lib.hid hown
  clear hown B1 K1 hk2
  go_wp2_with fail
  go_loopw [15] (fun c wr => ∃ k : Nat, k ≤ 87 ∧ c = .int .i64 k ∧ Keep [] w2 wr) (fun c _ => 87 - (intOf c).toNat)
  case atStart => exact ⟨0, by omega, rfl, Keep.refl _ _⟩
  case round =>
    obtain ⟨k, hk, rfl, hkr⟩ := hrel
    by_cases hlt : k < 87
    · have q1 := kwb_cell (hkr.at B2.out (by simp)) k hlt
      have q2 := kw_row (owns_keep HO.out hkr (by simp)) k hlt
      go_wp2_with fail
      go_quiet (fail)
      go_wp2_with fail
      go_roundw
      case rel => exact ⟨k + 1, by omega, by go_num, hkr.drewN _⟩
      case measure => simp [intOf]; omega
    · obtain rfl : k = 87 := by omega
      have K2 : Keep [] w wr := K2.trans hkr
      clear hkr
      go_wp2_with fail
      refine (word_any s wr hs (HT.out.keep K2 (by simp))).mono ?_
      rintro e w3 ⟨rfl, hk3⟩
      have K3 : Keep [] w w3 := K2.trans hk3
      go_wp2_with fail
      refine (refWord_any s w3 hs).mono ?_
      rintro e w4 ⟨rfl, hk4⟩
      have K4 : Keep [] w w4 := K3.trans hk4
      obtain ⟨b1, hb1⟩ : ∃ b, kwB s.data.toList = b := ⟨_, rfl⟩
      rw [hb1]
      clear hb1 hk3 hk4
      have qb : (b1 == b1) = true := by simp
      go_wp2_with fail
      refine (name_any s w4 hs (HT.out.keep K4 (by simp))).mono ?_
      rintro e w5 ⟨rfl, hk5⟩
      have K5 : Keep [] w w5 := K4.trans hk5
      go_wp2_with fail
      refine (refName_any s w5 hs).mono ?_
      rintro e w6 ⟨rfl, hk6⟩
      have K6 : Keep [] w w6 := K5.trans hk6
      obtain ⟨b2, hb2⟩ : ∃ b, nameB s = b := ⟨_, rfl⟩
      rw [hb2]
      clear hb2 hk5 hk6
      have qb2 : (b2 == b2) = true := by simp
      go_wp2_with fail
      refine (awake_any w6 (HT.out.keep K6 (by simp))).mono ?_
      rintro e w7 ⟨rfl, hk7⟩
      go_wp2_with fail
      go_ret
      exact ⟨rfl, K6.trans hk7⟩
end Go.Proofs.YtippkncnecbhlaaDoor.Lx
