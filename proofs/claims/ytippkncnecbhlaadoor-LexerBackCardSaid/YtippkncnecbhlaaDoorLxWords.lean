/- The walks of lexer.Words and lexer.Word. -/
import Derived.Test.YtippkncnecbhlaaDoorShelf
import Derived.Test.YtippkncnecbhlaaDoorLxA
import Derived.Test.YtippkncnecbhlaaDoorLxW
import Derived.Test.YtippkncnecbhlaaDoorLxSearch
namespace Go.Proofs.YtippkncnecbhlaaDoor.Lx
open Go.RowKit
def Tab (w : World) : Prop := Lib.TabIs Tryd.prog w "strings.asciiSpace" .u8 Lib.asciiSpaceTab
theorem gTab : Tryd.prog.globalNamed "strings.asciiSpace" = some 0 := by kernel_rfl
theorem Tab.keep {S : List Nat} {w w' : World} (h : Tab w) (k : Keep S w w') (h0 : 0 ∉ S) : Tab w' := by
  unfold Tab Lib.TabIs World.var? at h ⊢
  simp only [gTab, Option.bind_some] at h ⊢
  cases hb : w.heap[0]? with
  | none => rw [hb] at h; simp at h
  | some o => rw [k.at hb h0]; rw [hb] at h; exact h
def kwCells : Array Value := (kws.map fun l => Value.string ⟨l.toArray⟩).toArray
def WordsPost (w : World) (e : Ending) (w' : World) : Prop := e = .returned (.slice (some ⟨w.heap.size, 0, none⟩) 87 87) ∧ w' = w.alloc (.cells kwCells 9)
theorem words_fin (w : World) (l : List UInt8) (h : l = kwText) :
    WordsPost w (.returned (.slice (some ⟨w.heap.size, 0, none⟩) (Lib.fields l).length (Lib.fields l).length)) (w.alloc (.cells ((Lib.fields l).map fun l => Value.string ⟨l.toArray⟩).toArray 9)) := by
  subst h
  rw [kws_fields, kws_len]
  exact ⟨rfl, rfl⟩
set_option maxRecDepth 100000 in
set_option maxHeartbeats 400000 in
theorem words_any (w : World) (h : Tab w) : Calls Tryd.prog 12 #[] w (WordsPost w) := by
  have H := Lib.hid h
  clear h
  go_enter Tryd.func12, Tryd.ntmps12
  go_wp2_with fail
  refine (Tryd.strings_Fields ⟨kwText.toArray⟩ w ?_ ?_ H.out).mono ?_
  · simp [ByteArray.size, kwText_len]
  · intro j b hb; exact kwText_ascii b (List.mem_of_getElem? (by simpa using hb))
  · rintro e w' ⟨rfl, rfl⟩
    go_wp2_with fail
    go_ret
    exact words_fin w kwText rfl
theorem kw_cell (w : World) (j : Nat) (hj : j < 87) : (w.alloc (.cells kwCells 9)).cell? ⟨w.heap.size, 0 + j, none⟩ = some (.string ⟨(kws.getD j []).toArray⟩) := by
  rw [Nat.zero_add, blk_cell (blk_new w (.cells kwCells 9)) j]
  have h' : j < kws.length := by rw [kws_len]; exact hj
  simp [kwCells, List.getD_eq_getElem?_getD, List.getElem?_eq_getElem h']
theorem bytes_eq_iff (a : List UInt8) (b : ByteArray) : (⟨a.toArray⟩ : ByteArray) = b ↔ a = b.data.toList := by
  constructor
  · rintro rfl; simp
  · intro h; cases b; simp_all
theorem search_bytes (u : List UInt8) :
    decide (Lib.bsGo (fun t => Op.bytesLess (⟨(kws.getD t []).toArray⟩ : ByteArray).toList (⟨u.toArray⟩ : ByteArray).toList) 87 0 87 < 87 ∧
      (⟨(kws.getD (Lib.bsGo (fun t => Op.bytesLess (⟨(kws.getD t []).toArray⟩ : ByteArray).toList (⟨u.toArray⟩ : ByteArray).toList) 87 0 87) []).toArray⟩ : ByteArray) = ⟨u.toArray⟩) = decide (u ∈ kws) := by
  simp only [ByteArray.toList_mk, bytes_eq_iff]
  exact decide_eq_decide.2 (search_kws u)
def WordPost (s : ByteArray) (w : World) (e : Ending) (w' : World) : Prop := e = .returned (.bool (kwB s.data.toList)) ∧ Keep [] w w'
theorem byte_mem (s : ByteArray) (k : Nat) (h : k < s.size) : s[k] ∈ s.data.toList := by
  have : s[k] = s.data[k] := rfl
  rw [this]; simp
set_option maxRecDepth 100000 in
set_option maxHeartbeats 1000000 in
theorem word_any (s : ByteArray) (w : World) (hs : s.size ≤ 140737488355328) (h : Tab w) : Calls Tryd.prog 14 #[.string s] w (WordPost s w) := by
  have H := Lib.hid h
  clear h
  go_enter Tryd.func14, Tryd.ntmps14
  go_wp2_with fail
  go_loop [8] (fun i => ∃ k : Nat, k ≤ s.size ∧ i = .int .i64 k ∧ Hid (∀ (j : Nat) (hj : j < s.size), j < k → s[j].toNat < 128)) (fun i => s.size - (intOf i).toNat)
  case atStart => exact ⟨0, Nat.zero_le _, rfl, fun j _ hj => by omega⟩
  case round =>
    obtain ⟨k, hk, rfl, HA⟩ := hrel
    by_cases hlt : k < s.size
    · by_cases hb : s[k].toNat < 128
      · go_wp2_with fail
        go_round
        case rel => exact ⟨k + 1, by omega, by go_num, fun j hj hjk => by by_cases e : j = k; (subst e; exact hb); exact HA.out j hj (by omega)⟩
        case measure => simp [intOf]; omega
      · go_wp2_with fail
        go_ret
        exact ⟨ret_bool (kwB_not (byte_mem s k hlt) (by omega)).symm, Keep.refl _ _⟩
    · go_wp2_with fail
      obtain rfl : k = s.size := by omega
      refine (words_any _ H.out).mono ?_
      rintro e w1 ⟨rfl, rfl⟩
      go_wp2_with fail
      refine (Tryd.strings_ToUpper_ascii s _ hs ?asc).mono ?_
      case asc =>
        intro j b hb
        obtain ⟨hj, e⟩ := Array.getElem?_eq_some_iff.1 (by simpa using hb)
        rw [← e]
        exact HA.out j hj hj
      rintro e w2 ⟨rfl, hb⟩
      go_wp2_with fail
      refine (Tryd.slices_BinarySearch w.heap.size 0 87 87 (fun t => ⟨(kws.getD t []).toArray⟩) _ _ (by omega) ?cells).mono ?_
      case cells =>
        intro j hj
        rw [hb.cell (p := ⟨w.heap.size, 0 + j, none⟩) (by simp)]
        exact kw_cell w j hj
      rintro e w3 ⟨rfl, q, rfl⟩
      rw [search_bytes]
      go_wp2_with fail
      go_ret
      exact ⟨rfl, ((Keep.of_below (Below.alloc (Below.refl _ _) (Nat.le_refl _) _) []).trans (Keep.of_below hb [])).drewN q⟩
end Go.Proofs.YtippkncnecbhlaaDoor.Lx
