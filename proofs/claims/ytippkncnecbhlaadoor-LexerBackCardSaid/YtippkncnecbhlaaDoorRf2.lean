/- The walks of the reference's Words and Word. -/
import Derived.Test.YtippkncnecbhlaaDoorRf1
import Derived.Deep.RegionHeld3
namespace Go.Proofs.YtippkncnecbhlaaDoor.Lx
open Go.RowKit
def lows : List (List UInt8) := kws.map fun l => l.map Lib.lowerB
def lowCells : Array Value := (lows.map fun l => Value.string ⟨l.toArray⟩).toArray
set_option maxRecDepth 100000 in
set_option maxHeartbeats 4000000 in
theorem refLows_any (w : World) : Calls Tryd.prog 28 #[] w fun e w' => e = .returned (.slice (some ⟨w.heap.size, 0, none⟩) 87 87) ∧ w' = w.alloc (.cells lowCells 9) := by
  go_enter Tryd.func28, Tryd.ntmps28
  go_wp2_with fail
  go_ret
  exact ⟨rfl, by kernel_rfl⟩
theorem info9 : (Tryd.prog.info? 9).map (fun i => (i.zero, i.size, i.bytes)) = some (some (.string ⟨#[]⟩), 1, 16) := by kernel_rfl
theorem lows_len : lows.length = 87 := by rw [lows, List.length_map, kws_len]
theorem low_cell {w : World} {b : Nat} (h : w.heap[b]? = some (.cells lowCells 9 (0, 0))) (j : Nat) (hj : j < 87) : w.cell? ⟨b, j, none⟩ = some (.string ⟨(lows.getD j []).toArray⟩) := by
  rw [blk_cell h j]
  have h' : j < lows.length := by rw [lows_len]; exact hj
  simp [lowCells, List.getD_eq_getElem?_getD, List.getElem?_eq_getElem h']
def strC (l : List (List UInt8)) : List Value := l.map fun l => Value.string ⟨l.toArray⟩
theorem lows_up : ((List.range 87).all fun j => Lib.toUpperA (lows.getD j []) == kws.getD j []) = true := by decide +kernel
theorem low_up (j : Nat) (hj : j < 87) : Lib.toUpperA (lows.getD j []) = kws.getD j [] := by
  simpa using List.all_eq_true.1 lows_up j (List.mem_range.2 hj)
theorem low_small : ((List.range 87).all fun j => decide ((lows.getD j []).length ≤ 20)) = true := by decide +kernel
theorem low_le (j : Nat) (hj : j < 87) : (lows.getD j []).length ≤ 20 := by
  simpa using List.all_eq_true.1 low_small j (List.mem_range.2 hj)
theorem kws_take (k : Nat) (hk : k < 87) : kws.take (k + 1) = kws.take k ++ [kws.getD k []] := by
  have h' : k < kws.length := by rw [kws_len]; exact hk
  rw [List.take_succ_eq_append_getElem h', List.getD_eq_getElem?_getD, List.getElem?_eq_getElem h']; rfl
set_option maxRecDepth 100000 in
set_option maxHeartbeats 4000000 in
theorem refWords_any (w : World) : Calls Tryd.prog 13 #[] w fun e w' => ∃ g cap, e = .returned (.slice (some ⟨g, 0, none⟩) 87 cap) ∧ w'.ownsRow w.heap.size 9 1 (.slice (some ⟨g, 0, none⟩) 87 cap) 87 (strC kws) ∧ Keep [] w w' := by
  obtain ⟨i0, hi, hz0, hz1, hz2⟩ := info_parts info9
  go_enter Tryd.func13, Tryd.ntmps13
  go_wp2_with fail
  refine (refLows_any _).mono ?_
  rintro e w1 ⟨rfl, rfl⟩
  have O0 : (w.alloc (.cells #[] 9)).ownsRow w.heap.size 9 1 (.slice (some ⟨w.heap.size, 0, none⟩) 0 0) 0 [] := World.ownsRow_lit w #[] 0 (Nat.le_refl _) (by unfold maxLen; omega) rfl
  have O1 := O0.alloc (.cells lowCells 9)
  have K0 : Keep [] w ((w.alloc (.cells #[] 9)).alloc (.cells lowCells 9)) := ((Keep.refl _ _).alloc _).alloc _
  have B0 := blk_new (w.alloc (.cells #[] 9)) (.cells lowCells 9)
  have Z0 : ((w.alloc (.cells #[] 9)).alloc (.cells lowCells 9)).heap.size = w.heap.size + 2 := by simp
  go_wp2_with fail
  simp only [World.size_alloc] at B0 Z0 ⊢
  generalize ((w.alloc (.cells #[] 9)).alloc (.cells lowCells 9)) = w1 at O1 K0 B0 Z0 ⊢
  have HO1 := Lib.hid O1
  have HB0 := Lib.hid B0
  have hz1' : w.heap.size + 1 < w1.heap.size := lt_of_block B0
  clear O0 O1 B0 Z0
  go_loopw [1, 3] (fun v c wr => ∃ k : Nat, k ≤ 87 ∧ c = .int .i64 k ∧ Keep [] w wr ∧ Hid (wr.heap[w.heap.size + 1]? = some (.cells lowCells 9 (0, 0))) ∧ ∃ g cap, v = .slice (some ⟨g, 0, none⟩) k cap ∧ g ≠ w.heap.size + 1 ∧ Hid (wr.ownsRow w.heap.size 9 1 (.slice (some ⟨g, 0, none⟩) k cap) k (strC (kws.take k)))) (fun _ c _ => 87 - (intOf c).toNat)
  case atStart => exact ⟨0, Nat.zero_le _, rfl, K0, HB0.out, w.heap.size, 0, rfl, by omega, HO1.out⟩
  case round =>
    obtain ⟨k, hk, rfl, hkeep, HB1, g, cap, rfl, hgn, HO⟩ := hrel
    by_cases hlt : k < 87
    · have hc := low_cell HB1.out k hlt
      have hsm := low_le k hlt
      have hup := low_up k hlt
      have hkw := kws_take k hlt
      obtain ⟨x, hx⟩ : ∃ x, lows.getD k [] = x := ⟨_, rfl⟩
      obtain ⟨y, hy⟩ : ∃ y, kws.getD k [] = y := ⟨_, rfl⟩
      rw [hx] at hc hsm hup
      rw [hy] at hup hkw
      have HUP := Lib.hid hup
      have HKW := Lib.hid hkw
      clear hx hy hup hkw
      go_wp2_with fail
      refine (refUpper_any ⟨x.toArray⟩ _ (by simp [ByteArray.size]; omega)).mono ?_
      rintro e w2 ⟨rfl, hk2⟩
      have e1 : (⟨x.toArray⟩ : ByteArray).data.toList = x := by simp
      rw [e1, HUP.out]
      clear e1
      have K2 : Keep [] w w2 := hkeep.trans hk2
      have HB2 : Hid (w2.heap[w.heap.size + 1]? = some (.cells lowCells 9 (0, 0))) := hk2.at HB1.out (by simp)
      have HO2 : Hid (w2.ownsRow w.heap.size 9 1 (.slice (some ⟨g, 0, none⟩) k cap) k (strC (kws.take k))) := owns_keep HO.out hk2 (by simp)
      go_wp2_with (at_builtin; refine wpList_append_own _ rfl _ _ 32 rfl w.heap.size 9 i0 _ 1 16 Tryd.underlying32 hi hz0 hz1 hz2 rfl (by decide) _ k _ rfl (HO2.out.alloc _) ⟨w2.heap.size, 0, none⟩ 1 1 [.string ⟨y.toArray⟩] rfl rfl (news_ok (blk_new w2 _)) (by intro u hu; simp at hu; rw [hu]; rfl) (by unfold maxLen; omega) (by omega) (by have := K2.size; simp; omega) ?_; intro v' w3 hown3 hgr3 _)
      have hbl := (HO2.out.alloc (.cells #[.string ⟨y.toArray⟩] 9)).lt
      have hsh := owns_shape hown3
      have HO3 := Lib.hid hown3
      have hg1 : (w2.alloc (.cells #[.string ⟨y.toArray⟩] 9)).grownBy w3 (some g) := hgr3
      have K3 : Keep [] w w3 := keep_grown (K2.alloc _) hg1 (fun j hj => (hbl j hj).1)
      have HB3 : Hid (w3.heap[w.heap.size + 1]? = some (.cells lowCells 9 (0, 0))) := (hg1.block (w.heap.size + 1) (lt_of_block (blk_alloc HB2.out _)) (fun e => hgn (Option.some.inj e).symm)).trans (blk_alloc HB2.out _)
      clear hown3 hgr3 hbl hg1
      rcases hsh with ⟨_, h0⟩ | ⟨g', cap', rfl⟩
      · omega
      have hgn' : g' ≠ w.heap.size + 1 := by
        rintro rfl
        rcases HO3.out.2 with ⟨h1, _⟩ | ⟨g2, c2, cur, h1, _, h2, _, _, _, h3⟩
        · cases h1
        · cases h1
          rw [HB3.out] at h2
          cases h2
          have h4 := congrArg (fun l : List Value => l[0]?) h3
          have h5 : (lowCells.toList.take ((k + 1) * 1))[0]? = some (.string ⟨#[97, 100, 100]⟩) := by
            rw [List.getElem?_take, if_pos (by omega)]; kernel_rfl
          have h6 : (strC (kws.take k) ++ [Value.string ⟨y.toArray⟩])[0]? = some (.string ⟨#[65, 68, 68]⟩) := by
            have h7 : strC (kws.take k) ++ [Value.string ⟨y.toArray⟩] = strC (kws.take (k + 1)) := by rw [HKW.out]; simp [strC]
            rw [h7, strC, List.getElem?_map, List.getElem?_take, if_pos (by omega)]; rfl

          rw [h5, h6] at h4
          cases h4
      go_wp2_with fail
      go_roundw
      case rel =>
        have e7 : strC (kws.take (k + 1)) = strC (kws.take k) ++ [Value.string ⟨y.toArray⟩] := by rw [HKW.out]; simp [strC]
        exact ⟨k + 1, by omega, by go_num, K3, HB3, g', cap', rfl, hgn', by rw [e7]; exact HO3.out⟩
      case measure => simp [intOf]; omega
    · obtain rfl : k = 87 := by omega
      go_wp2_with fail
      go_ret
      refine ⟨g, cap, rfl, ?_, hkeep⟩
      have := HO.out
      rwa [List.take_of_length_le (by rw [kws_len]; omega)] at this
end Go.Proofs.YtippkncnecbhlaaDoor.Lx
