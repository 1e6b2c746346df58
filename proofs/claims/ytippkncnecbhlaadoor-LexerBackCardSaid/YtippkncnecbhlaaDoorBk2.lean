/- The walk of lexer.Text. -/
import Derived.Test.YtippkncnecbhlaaDoorBk1
namespace Go.Proofs.YtippkncnecbhlaaDoor.Lx
open Go.RowKit
def shows (l : List Tok) : List ByteArray := l.map fun t => ⟨t.show.toArray⟩
def strV (l : List Tok) : List Value := (shows l).map Value.string
theorem shows_text (l : List Tok) : Lib.join ((shows l).map (·.data.toList)) [32] = textL l := by
  have : (shows l).map (·.data.toList) = l.map Tok.show := by
    unfold shows; rw [List.map_map]; exact List.map_congr_left (fun t _ => by simp)
  rw [this]; rfl
theorem strV_snoc (l : List Tok) (k : Nat) (h : k < l.length) : strV (l.take (k + 1)) = strV (l.take k) ++ [.string ⟨l[k].show.toArray⟩] := by
  unfold strV shows
  rw [List.take_succ_eq_append_getElem h, List.map_append, List.map_append]
  rfl
theorem strV_cell {w : World} {B g cap n : Nat} {l : List Tok} (h : w.ownsRow B 9 1 (.slice (some ⟨g, 0, none⟩) n cap) n (strV l)) (j : Nat) (x : ByteArray) (hx : (shows l)[j]? = some x) : w.cell? ⟨g, j, none⟩ = some (.string x) := by
  have hl : (strV l).length = n * 1 := h.1
  have hj : j < (shows l).length := by
    rcases Nat.lt_or_ge j (shows l).length with h1 | h1
    · exact h1
    · rw [List.getElem?_eq_none h1] at hx; cases hx
  have hj2 : j < (strV l).length := by unfold strV; rw [List.length_map]; exact hj
  rw [h.cellAt j (by omega)]
  unfold strV
  rw [List.getElem?_map, hx]; rfl
theorem ownsRow_cap {w : World} {B g cap n : Nat} {e : TypeId} {xs : List Value} (h : w.ownsRow B e 1 (.slice (some ⟨g, 0, none⟩) n cap) n xs) : n ≤ cap ∧ g < w.heap.size ∧ B ≤ g := by
  rcases h.2 with ⟨h1, _⟩ | ⟨g2, c2, cur, h1, hb, h2, h3, _⟩
  · cases h1
  · cases h1; exact ⟨h3, lt_of_block h2, hb⟩
set_option maxRecDepth 100000 in
set_option maxHeartbeats 4000000 in
theorem text_nil (v : Value) (w : World) (h : v = .slice none 0 0 ∨ ∃ g cap, v = .slice (some ⟨g, 0, none⟩) 0 cap) :
    Calls Tryd.prog 18 #[v] w fun e w' => e = .returned (.string ⟨(textL []).toArray⟩) ∧ Keep [] w w' := by
  rcases h with rfl | ⟨g, cap, rfl⟩
  all_goals
    go_enter Tryd.func18, Tryd.ntmps18
    go_wp2_with fail
    go_loop [3, 8] (fun v c => v = .slice none 0 0 ∧ c = .int .i64 0) (fun _ _ => 0)
    case atStart => exact ⟨rfl, rfl⟩
    case round =>
      obtain ⟨rfl, rfl⟩ := hrel
      go_wp2_with fail
      refine (Tryd.strings_Join_none none 0 ⟨#[32]⟩ w).mono ?_
      rintro e w1 ⟨rfl, rfl⟩
      go_wp2_with fail
      go_ret
      exact ⟨rfl, Keep.refl _ _⟩
set_option maxRecDepth 100000 in
set_option maxHeartbeats 4000000 in
theorem text_some (l : List Tok) (n g cap B : Nat) (w : World) (hn : l.length = n) (hnb : n ≤ 65536) (hn1 : 1 ≤ n) (hv : ∀ t ∈ l, Val t) (hw : BkW w)
    (h : w.ownsRow B 30 4 (.slice (some ⟨g, 0, none⟩) n cap) n (l.flatMap Tok.cells)) :
    Calls Tryd.prog 18 #[.slice (some ⟨g, 0, none⟩) n cap] w fun e w' => e = .returned (.string ⟨(textL l).toArray⟩) ∧ Keep [] w w' := by
  obtain ⟨i0, hi, hz0, hz1, hz2⟩ := info_parts info9
  have H := Lib.hid h
  have HN := Lib.hid hn
  have HV := Lib.hid hv
  have HW := Lib.hid hw
  clear h hn hv hw
  go_enter Tryd.func18, Tryd.ntmps18
  go_wp2_with fail
  go_loopw [3, 8] (fun v c wr => ∃ k : Nat, k ≤ n ∧ c = .int .i64 k ∧ Keep [] w wr ∧ Hid (wr.ownsRow w.heap.size 9 1 v k (strV (l.take k)))) (fun _ c _ => n - (intOf c).toNat)
  case atStart => exact ⟨0, Nat.zero_le _, rfl, Keep.refl _ _, World.ownsRow_nil _ _ _ _⟩
  case round =>
    obtain ⟨k, hk, rfl, hkeep, HO⟩ := hrel
    by_cases hlt : k < n
    · have hkl : k < l.length := by rw [HN.out]; exact hlt
      obtain ⟨a0, a1, a2, a3⟩ := row_at (owns_keep H.out hkeep (by simp)) HN.out k hkl
      have hval := HV.out l[k] (List.getElem_mem hkl)
      have hsn := strV_snoc l k hkl
      generalize l[k] = t at a0 a1 a2 a3 hval hsn
      have HS := Lib.hid hsn
      have HVt := Lib.hid hval
      clear hsn hval
      have B1 : Hid ((wr.alloc (.cells #[.int .i64 t.kind, .string t.text, .int .i64 t.num, .int .i64 t.at_] 30)).heap[wr.heap.size]? = some (.cells #[.int .i64 t.kind, .string t.text, .int .i64 t.num, .int .i64 t.at_] 30 (0, 0))) := blk_new _ _
      have KB : Keep [] w (wr.alloc (.cells #[.int .i64 t.kind, .string t.text, .int .i64 t.num, .int .i64 t.at_] 30)) := hkeep.alloc _
      have HO1 : Hid ((wr.alloc (.cells #[.int .i64 t.kind, .string t.text, .int .i64 t.num, .int .i64 t.at_] 30)).ownsRow w.heap.size 9 1 _ k (strV (l.take k))) := HO.out.alloc _
      obtain ⟨y, hy⟩ : ∃ y : ByteArray, ⟨t.show.toArray⟩ = y := ⟨_, rfl⟩
      have HY := Lib.hid hy
      clear hy
      have hkind : (t.kind == 3) = true ∨ ((t.kind == 3) = false ∧ (t.kind == 4) = true) ∨ ((t.kind == 3) = false ∧ (t.kind == 4) = false) := by
        cases h3 : (t.kind == 3) <;> cases h4 : (t.kind == 4) <;> simp
      rcases hkind with k3 | ⟨k3, k4⟩ | ⟨k3, k4⟩
      · have HK : Hid (t.kind = 3) := Lib.hid (by simpa using k3)
        have hnum : 0 ≤ t.num ∧ t.num ≤ 1125899906842624 := by
          have e := HK.out
          rcases HVt.out with ⟨hk, _⟩ | ⟨hk, _⟩ | ⟨_, _, h0, h1⟩ | ⟨hk, _⟩ | ⟨hk, _⟩
          · rw [e] at hk; cases hk
          · rw [e] at hk; cases hk
          · exact ⟨h0, h1⟩
          · rw [e] at hk; cases hk
          · rw [e] at hk; cases hk
        have HY2 : Hid ((⟨(Lib.itoa t.num).toArray⟩ : ByteArray) = y) := by
          have := HY.out
          rw [Tok.show, if_pos HK.out] at this
          exact this
        go_wp2_with fail
        refine (itoa_any t.num _ hnum.1 hnum.2 (HW.out.keep KB)).mono ?_
        rintro e w2 ⟨rfl, hk2⟩
        rw [HY2.out]
        have K2 : Keep [] w w2 := KB.trans hk2
        have HO2 : Hid (w2.ownsRow w.heap.size 9 1 _ k (strV (l.take k))) := owns_keep HO1.out hk2 (by simp)
        clear HO1 B1 hk2
        go_wp2_with (at_builtin; refine wpList_append_own _ rfl _ _ 32 rfl w.heap.size 9 i0 _ 1 16 Tryd.underlying32 hi hz0 hz1 hz2 rfl (by decide) _ k _ rfl (HO2.out.alloc _) ⟨w2.heap.size, 0, none⟩ 1 1 [.string y] rfl rfl (news_ok (blk_new w2 _)) (by intro u hu; simp at hu; rw [hu]; rfl) (by unfold maxLen; omega) (by omega) (by have := K2.size; simp; omega) ?_; intro v' w3 hown3 hgr3 _)
        have hbl := (HO2.out.alloc (.cells #[.string y] 9)).lt
        have K3 : Keep [] w w3 := keep_grown (K2.alloc _) hgr3 (fun j hj => (hbl j hj).1)
        have HO3 := Lib.hid hown3
        clear hown3 hgr3 hbl
        go_wp2_with fail
        go_roundw
        case rel => exact ⟨k + 1, by omega, by go_num, K3, by rw [HS.out, HY.out]; exact HO3.out⟩
        case measure => simp [intOf]; omega
      · have HK : Hid (t.kind = 4) := Lib.hid (by simpa using k4)
        have hsz : t.text.size ≤ 200 := by
          have e := HK.out
          rcases HVt.out with ⟨hk, _⟩ | ⟨hk, _⟩ | ⟨hk, _⟩ | ⟨_, _, h0, _⟩ | ⟨hk, _⟩
          · rw [e] at hk; cases hk
          · rw [e] at hk; cases hk
          · rw [e] at hk; cases hk
          · exact h0
          · rw [e] at hk; cases hk
        have HY2 : Hid (quoteA t.text = y) := by
          have := HY.out
          rw [Tok.show, if_neg (by rw [HK.out]; decide), if_pos HK.out] at this
          exact this
        obtain ⟨_, m, hm⟩ := HW.out.keep KB
        have HM := Lib.hid hm
        clear hm
        go_wp2_with fail
        refine (quote_any t.text m _ hsz HM.out).mono ?_
        rintro e w2 ⟨rfl, hk2⟩
        rw [HY2.out]
        have K2 : Keep [] w w2 := KB.trans hk2
        have HO2 : Hid (w2.ownsRow w.heap.size 9 1 _ k (strV (l.take k))) := owns_keep HO1.out hk2 (by simp)
        clear HO1 B1 hk2 HM
        go_wp2_with (at_builtin; refine wpList_append_own _ rfl _ _ 32 rfl w.heap.size 9 i0 _ 1 16 Tryd.underlying32 hi hz0 hz1 hz2 rfl (by decide) _ k _ rfl (HO2.out.alloc _) ⟨w2.heap.size, 0, none⟩ 1 1 [.string y] rfl rfl (news_ok (blk_new w2 _)) (by intro u hu; simp at hu; rw [hu]; rfl) (by unfold maxLen; omega) (by omega) (by have := K2.size; simp; omega) ?_; intro v' w3 hown3 hgr3 _)
        have hbl := (HO2.out.alloc (.cells #[.string y] 9)).lt
        have K3 : Keep [] w w3 := keep_grown (K2.alloc _) hgr3 (fun j hj => (hbl j hj).1)
        have HO3 := Lib.hid hown3
        clear hown3 hgr3 hbl
        go_wp2_with fail
        go_roundw
        case rel => exact ⟨k + 1, by omega, by go_num, K3, by rw [HS.out, HY.out]; exact HO3.out⟩
        case measure => simp [intOf]; omega
      · have HY2 : Hid (t.text = y) := by
          have := HY.out
          rw [Tok.show, if_neg (by simpa using k3), if_neg (by simpa using k4)] at this
          rw [← this]; exact mk_ba (by simp)
        generalize t.text = z at *
        obtain rfl := HY2.out
        have K2 := Lib.hid KB
        have HO2 := HO1
        clear HO1 B1 KB
        go_wp2_with (at_builtin; refine wpList_append_own _ rfl _ _ 32 rfl w.heap.size 9 i0 _ 1 16 Tryd.underlying32 hi hz0 hz1 hz2 rfl (by decide) _ k _ rfl (HO2.out.alloc _) ⟨wr.heap.size + 1, 0, none⟩ 1 1 [.string z] rfl rfl (news_ok (by have h9 := blk_new (wr.alloc (.cells #[.int .i64 t.kind, .string z, .int .i64 t.num, .int .i64 t.at_] 30)) (.cells #[.string z] 9); rw [World.size_alloc] at h9; exact h9)) (by intro u hu; simp at hu; rw [hu]; rfl) (by unfold maxLen; omega) (by omega) (by have := K2.out.size; simp at this ⊢; omega) ?_; intro v' w3 hown3 hgr3 _)
        have hbl := (HO2.out.alloc (.cells #[.string z] 9)).lt
        have K3 : Keep [] w w3 := keep_grown (K2.out.alloc _) hgr3 (fun j hj => (hbl j hj).1)
        have HO3 := Lib.hid hown3
        clear hown3 hgr3 hbl
        go_wp2_with fail
        go_roundw
        case rel => exact ⟨k + 1, by omega, by go_num, K3, by rw [HS.out, HY.out]; exact HO3.out⟩
        case measure => simp [intOf]; omega
    · obtain rfl : k = n := by omega
      rcases owns_shape HO.out with ⟨_, h0⟩ | ⟨g', cap', rfl⟩
      · omega
      have hall : l.take k = l := List.take_of_length_le (by rw [HN.out]; omega)
      rw [hall] at HO
      have hcap := ownsRow_cap HO.out
      have hxl : Hid ((shows l).length = k) := by unfold shows; rw [List.length_map]; exact HN.out
      have htl : Hid ((textL l).length ≤ 140737488355328) := by
        have := textL_len l HV.out
        rw [HN.out] at this
        exact (by omega : (textL l).length ≤ 140737488355328)
      clear hall
      go_wp2_with fail
      refine (join_any g' cap' k (shows l) _ hxl.out hnb (strV_cell HO.out) hcap.2.1 hcap.1 (by rw [shows_text]; exact htl.out)).mono ?_
      rw [shows_text]
      rintro e w1 ⟨rfl, hk1⟩
      go_wp2_with fail
      go_ret
      exact ⟨rfl, hkeep.trans hk1⟩
end Go.Proofs.YtippkncnecbhlaaDoor.Lx
