/- The walk of the reference's Word. -/
import Derived.Test.YtippkncnecbhlaaDoorRf2
namespace Go.Proofs.YtippkncnecbhlaaDoor.Lx
open Go.RowKit
theorem kw_row {w : World} {B g cap : Nat} (h : w.ownsRow B 9 1 (.slice (some ⟨g, 0, none⟩) 87 cap) 87 (strC kws)) (j : Nat) (hj : j < 87) : w.cell? ⟨g, j, none⟩ = some (.string ⟨(kws.getD j []).toArray⟩) := by
  rw [h.cellAt j (by omega)]
  have h' : j < kws.length := by rw [kws_len]; exact hj
  simp [strC, List.getD_eq_getElem?_getD, List.getElem?_eq_getElem h']
theorem cell_keep {w w' : World} {a : Addr} {v : Value} (h : Keep [] w w') (hc : w.cell? a = some v) : w'.cell? a = some v := by
  cases hb : w.heap[a.block]? with
  | none => simp [World.cell?, hb] at hc
  | some o => rw [← hc]; exact World.cell?_of_block ((h.at hb (by simp)).trans hb.symm)
set_option maxRecDepth 100000 in
set_option maxHeartbeats 4000000 in
theorem refWord_any (s : ByteArray) (w : World) (hs : s.size ≤ 140737488355328) : Calls Tryd.prog 15 #[.string s] w fun e w' => e = .returned (.bool (kwB s.data.toList)) ∧ Keep [] w w' := by
  obtain ⟨u, hu⟩ : ∃ u, Lib.toUpperA s.data.toList = u := ⟨_, rfl⟩
  have HU := Lib.hid hu
  clear hu
  go_enter Tryd.func15, Tryd.ntmps15
  go_wp2_with fail
  refine (refWords_any _).mono ?_
  rintro e w1 ⟨g, cap, rfl, hown, hk1⟩
  have HO := Lib.hid hown
  clear hown
  go_wp2_with fail
  go_loopw [4] (fun c wr => ∃ k : Nat, k ≤ 87 ∧ c = .int .i64 k ∧ Keep [] w1 wr ∧ Hid (∀ j, j < k → kws.getD j [] ≠ u)) (fun c _ => 87 - (intOf c).toNat)
  case atStart => exact ⟨0, Nat.zero_le _, rfl, Keep.refl _ _, fun j hj => by omega⟩
  case round =>
    obtain ⟨k, hk, rfl, hkeep, HA⟩ := hrel
    by_cases hlt : k < 87
    · have hc := kw_row (owns_keep HO.out hkeep (by simp)) k hlt
      obtain ⟨y, hy⟩ : ∃ y, kws.getD k [] = y := ⟨_, rfl⟩
      have HY := Lib.hid hy
      rw [hy] at hc
      clear hy
      go_wp2_with fail
      go_region_held3 (fun w' => w'.cell? ⟨g, k, none⟩ = some (.string ⟨y.toArray⟩)) (first | assumption | go_keep) (first | (go_at_call 29; refine (refUpper_any s _ hs).mono ?_; rw [HU.out]; rintro e w' ⟨rfl, hk2⟩; have hq := cell_keep (a := ⟨g, k, none⟩) (v := .string ⟨y.toArray⟩) hk2 (by first | assumption | simp [*])))
      have K2 : Keep [] w1 w' := (hkeep.drew).trans hk2
      cases he : (y == u) with
      | true =>
        go_wp2_with fail
        go_ret
        have hyu : y = u := by simpa using he
        refine ⟨ret_bool ?_, hk1.trans K2⟩
        rw [kwB, HU.out, ← hyu, ← HY.out]
        exact (decide_eq_true (getD_mem k hlt)).symm
      | false =>
        have HE := Lib.hid he
        clear he
        go_wp2_with fail
        go_roundw
        case rel => exact ⟨k + 1, by omega, by go_num, K2, fun j hj => by
          by_cases e : j = k
          · subst e; rw [HY.out]; simpa using HE.out
          · exact HA.out j (by omega)⟩
        case measure => simp [intOf]; omega
    · obtain rfl : k = 87 := by omega
      go_wp2_with fail
      go_ret
      refine ⟨ret_bool ?_, hk1.trans hkeep⟩
      rw [kwB, HU.out]
      refine (decide_eq_false ?_).symm
      intro hm
      obtain ⟨j, hj, e⟩ := mem_getD u hm
      exact HA.out j hj e
end Go.Proofs.YtippkncnecbhlaaDoor.Lx
