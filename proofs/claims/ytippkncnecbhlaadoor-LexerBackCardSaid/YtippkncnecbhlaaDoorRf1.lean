/- The walks of the reference's small functions: classes of bytes, Upper. -/
import Derived.Test.YtippkncnecbhlaaDoorLxAll
import Derived.Laws.BytesString
namespace Go.Proofs.YtippkncnecbhlaaDoor.Lx
open Go.RowKit
theorem owns_shape {w : World} {B : Nat} {e : TypeId} {size : Nat} {v : Value} {n : Nat} {xs : List Value} (h : w.ownsRow B e size v n xs) : (v = .slice none 0 0 ∧ n = 0) ∨ ∃ g cap, v = .slice (some ⟨g, 0, none⟩) n cap := by
  rcases h.2 with h1 | ⟨g, cap, cur, h1, _⟩
  · exact Or.inl h1
  · exact Or.inr ⟨g, cap, h1⟩
set_option maxHeartbeats 400000 in
theorem refLetter_any (c : Int) (w : World) :
    Calls Tryd.prog 21 #[.int .u8 c] w fun e w' => e = .returned (.bool (letterB c)) ∧ w = w' := by
  go_enter Tryd.func21, Tryd.ntmps21
  go_wp2
  all_goals go_ret
  all_goals exact ⟨ret_bool (by rw [Bool.eq_iff_iff]; simp [letterB]; try omega), rfl⟩
set_option maxHeartbeats 400000 in
theorem refDigit_any (c : Int) (w : World) :
    Calls Tryd.prog 23 #[.int .u8 c] w fun e w' => e = .returned (.bool (digitB c)) ∧ w = w' := by
  go_enter Tryd.func23, Tryd.ntmps23
  go_wp2
  all_goals go_ret
  all_goals exact ⟨ret_bool (by rw [Bool.eq_iff_iff]; simp [digitB]; try omega), rfl⟩
theorem info5 : (Tryd.prog.info? 5).map (fun i => (i.zero, i.size, i.bytes)) = some (some (.int .u8 0), 1, 1) := by kernel_rfl
theorem row_add {w : World} {B g n cap size : Nat} {e : TypeId} {xs : List Value} (h : w.ownsRow B e size (.slice (some ⟨g, 0, none⟩) n cap) n xs) : ∀ j u, xs[j]? = some u → w.cell? ((⟨g, 0, none⟩ : Addr).add j) = some u :=
  h.cells rfl
theorem push_bytes : ∀ (l : List UInt8) (r : ByteArray), (l.map fun b => (b.toNat : Int)).foldl (fun r n => r.push (UInt8.ofNat n.toNat)) r = ⟨(r.data.toList ++ l).toArray⟩
  | [], r => by simp
  | b :: l, r => by
    rw [List.map_cons, List.foldl_cons, push_bytes l]
    simp [ByteArray.push]
theorem conv_bytes {w : World} {B g cap : Nat} {l : List UInt8} (h : w.ownsRow B 5 1 (.slice (some ⟨g, 0, none⟩) l.length cap) l.length (Lib.byteCells l)) :
    (convert 52 9 (.slice (some ⟨g, 0, none⟩) l.length cap)).run Tryd.prog w = .ok (.string ⟨l.toArray⟩) w := by
  rw [run_convert_bytes_string w 52 9 5 _ _ _ Tryd.underlying52 Tryd.underlying5 Tryd.underlying9]
  have hl := run_loadCells_list (P := Tryd.prog) (w := w) ⟨g, 0, none⟩ (Lib.byteCells l) (row_add h)
  have hm : Lib.byteCells l = (l.map fun b => (b.toNat : Int)).map (Value.int .u8) := by simp [Lib.byteCells]
  have hn : (Lib.byteCells l).length = l.length := by simp [Lib.byteCells]
  rw [hn] at hl
  rw [run_bytesToString w ⟨g, 0, none⟩ l.length cap (l.map fun b => (b.toNat : Int)) (by rw [← hm]; exact hl), push_bytes]
  rfl
def upI (c : Int) : Int := if 97 ≤ c ∧ c ≤ 122 then c - 32 else c
set_option maxRecDepth 100000 in
set_option maxHeartbeats 4000000 in
theorem refUpper_any (s : ByteArray) (w : World) (hs : s.size ≤ 140737488355328) :
    Calls Tryd.prog 29 #[.string s] w fun e w' => e = .returned (.string ⟨(Lib.toUpperA s.data.toList).toArray⟩) ∧ Keep [] w w' := by
  obtain ⟨i0, hi, hz0, hz1, hz2⟩ := info_parts info5
  go_enter Tryd.func29, Tryd.ntmps29
  go_wp2_with fail
  have O0 : (w.alloc (.cells #[] 5)).ownsRow w.heap.size 5 1 (.slice (some ⟨w.heap.size, 0, none⟩) 0 0) 0 [] := World.ownsRow_lit w #[] 0 (Nat.le_refl _) (by unfold maxLen; omega) rfl
  have K0 : Keep [] w (w.alloc (.cells #[] 5)) := (Keep.refl _ _).alloc _
  go_loopw [3, 4] (fun v c wr => ∃ k : Nat, k ≤ s.size ∧ c = .int .i64 k ∧ Keep [] w wr ∧ ∃ g cap, v = .slice (some ⟨g, 0, none⟩) k cap ∧ wr.ownsRow w.heap.size 5 1 v k (Lib.byteCells (Lib.toUpperA (s.data.toList.take k)))) (fun _ c _ => s.size - (intOf c).toNat)
  case atStart => exact ⟨0, Nat.zero_le _, rfl, K0, w.heap.size, 0, rfl, O0⟩
  case round =>
    obtain ⟨k, hk, rfl, hkeep, g, cap, rfl, hown⟩ := hrel
    have HO := Lib.hid hown
    clear hown O0 K0
    by_cases hlt : k < s.size
    · have hU : Lib.byteCells (Lib.toUpperA (s.data.toList.take (k + 1))) = Lib.byteCells (Lib.toUpperA (s.data.toList.take k)) ++ [.int .u8 ((Lib.upperB s[k]).toNat : Int)] := by
        rw [take_snoc s k hlt]; simp [Lib.toUpperA, Lib.byteCells]
      have HU := Lib.hid hU
      clear hU
      by_cases hc : 97 ≤ s[k].toNat ∧ s[k].toNat ≤ 122
      · have hb : ((Lib.upperB s[k]).toNat : Int) = (s[k].toNat : Int) - 97 + 65 := by
          have h2 : Lib.isLowerB s[k] = true := by simp [Lib.isLowerB, UInt8.le_iff_toNat_le]; exact hc
          unfold Lib.upperB
          rw [if_pos h2, UInt8.toNat_sub_of_le _ _ (by rw [UInt8.le_iff_toNat_le]; simp; omega)]
          simp; omega
        have HB := Lib.hid hb
        clear hb
        obtain ⟨hc1, hc2⟩ := hc
        go_wp2_with (at_builtin; refine wpList_append_own _ rfl _ _ 52 rfl w.heap.size 5 i0 _ 1 1 Tryd.underlying52 hi hz0 hz1 hz2 rfl (by decide) _ k _ rfl (HO.out.alloc _) ⟨wr.heap.size, 0, none⟩ 1 1 [.int .u8 ((s[k].toNat : Int) - 97 + 65)] rfl rfl (news_ok (blk_new wr _)) (by intro u hu; simp at hu; rw [hu]; rfl) (by unfold maxLen; omega) (by omega) (by have := hkeep.size; simp; omega) ?_; intro v' w3 hown3 hgr3 _)
        have hbl := (HO.out.alloc (.cells #[.int .u8 ((s[k].toNat : Int) - 97 + 65)] 5)).lt
        have K3 : Keep [] w w3 := keep_grown (hkeep.alloc _) hgr3 (fun j hj => (hbl j hj).1)
        have hsh := owns_shape hown3
        have HO3 := Lib.hid hown3
        clear hown3 hgr3 hbl
        rcases hsh with ⟨_, h0⟩ | ⟨g', cap', rfl⟩
        · omega
        go_wp2_with fail
        go_roundw
        case rel => first | exact ⟨k + 1, by omega, by go_num, K3, g', cap', rfl, by rw [HU.out, HB.out]; exact HO3.out⟩ | exact ⟨k + 1, by omega, by omega, by omega, by rw [HU.out, HB.out]; exact HO3.out⟩
        case measure => simp [intOf]; omega
      · have hb : Lib.upperB s[k] = s[k] := by
          have h2 : ¬ Lib.isLowerB s[k] = true := by simp [Lib.isLowerB, UInt8.le_iff_toNat_le]; omega
          unfold Lib.upperB
          rw [if_neg h2]
        have HB := Lib.hid hb
        clear hb
        have hc' : (¬ 97 ≤ s[k].toNat) ∨ (97 ≤ s[k].toNat ∧ ¬ s[k].toNat ≤ 122) := by omega
        clear hc
        rcases hc' with hc | ⟨hc1, hc2⟩
        · skip
          go_wp2_with (at_builtin; refine wpList_append_own _ rfl _ _ 52 rfl w.heap.size 5 i0 _ 1 1 Tryd.underlying52 hi hz0 hz1 hz2 rfl (by decide) _ k _ rfl (HO.out.alloc _) ⟨wr.heap.size, 0, none⟩ 1 1 [.int .u8 ((s[k].toNat : Int))] rfl rfl (news_ok (blk_new wr _)) (by intro u hu; simp at hu; rw [hu]; rfl) (by unfold maxLen; omega) (by omega) (by have := hkeep.size; simp; omega) ?_; intro v' w3 hown3 hgr3 _)
          have hbl := (HO.out.alloc (.cells #[.int .u8 ((s[k].toNat : Int))] 5)).lt
          have K3 : Keep [] w w3 := keep_grown (hkeep.alloc _) hgr3 (fun j hj => (hbl j hj).1)
          have hsh := owns_shape hown3
          have HO3 := Lib.hid hown3
          clear hown3 hgr3 hbl
          rcases hsh with ⟨_, h0⟩ | ⟨g', cap', rfl⟩
          · omega
          go_wp2_with fail
          go_roundw
          case rel => first | exact ⟨k + 1, by omega, by go_num, K3, g', cap', rfl, by rw [HU.out, HB.out]; exact HO3.out⟩ | exact ⟨k + 1, by omega, by omega, by omega, by rw [HU.out, HB.out]; exact HO3.out⟩
          case measure => simp [intOf]; omega
        · skip
          go_wp2_with (at_builtin; refine wpList_append_own _ rfl _ _ 52 rfl w.heap.size 5 i0 _ 1 1 Tryd.underlying52 hi hz0 hz1 hz2 rfl (by decide) _ k _ rfl (HO.out.alloc _) ⟨wr.heap.size, 0, none⟩ 1 1 [.int .u8 ((s[k].toNat : Int))] rfl rfl (news_ok (blk_new wr _)) (by intro u hu; simp at hu; rw [hu]; rfl) (by unfold maxLen; omega) (by omega) (by have := hkeep.size; simp; omega) ?_; intro v' w3 hown3 hgr3 _)
          have hbl := (HO.out.alloc (.cells #[.int .u8 ((s[k].toNat : Int))] 5)).lt
          have K3 : Keep [] w w3 := keep_grown (hkeep.alloc _) hgr3 (fun j hj => (hbl j hj).1)
          have hsh := owns_shape hown3
          have HO3 := Lib.hid hown3
          clear hown3 hgr3 hbl
          rcases hsh with ⟨_, h0⟩ | ⟨g', cap', rfl⟩
          · omega
          go_wp2_with fail
          go_roundw
          case rel => first | exact ⟨k + 1, by omega, by go_num, K3, g', cap', rfl, by rw [HU.out, HB.out]; exact HO3.out⟩ | exact ⟨k + 1, by omega, by omega, by omega, by rw [HU.out, HB.out]; exact HO3.out⟩
          case measure => simp [intOf]; omega
    · obtain rfl : k = s.size := by omega
      have hfin := conv_bytes (l := Lib.toUpperA s.data.toList) (w := wr) (B := w.heap.size) (g := g) (cap := cap)
      rw [take_all] at HO
      have hlen : (Lib.toUpperA s.data.toList).length = s.size := by simp [Lib.toUpperA]
      rw [hlen] at hfin
      have HF := hfin HO.out
      clear hfin
      go_wp2_with fail
      go_ret
      exact ⟨rfl, hkeep⟩
end Go.Proofs.YtippkncnecbhlaaDoor.Lx
