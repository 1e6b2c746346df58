/- The walk of the reference's Tokens. -/
import Derived.Test.YtippkncnecbhlaaDoorRf7b
import Derived.Test.YtippkncnecbhlaaDoorLxPosWalk
import Derived.Test.YtippkncnecbhlaaDoorLxAwake
namespace Go.Proofs.YtippkncnecbhlaaDoor.Lx
open Go.RowKit
theorem owns_lt {w : World} {B : Nat} {e : TypeId} {size : Nat} {v : Value} {n : Nat} {xs : List Value} (h : w.ownsRow B e size v n xs) : ∀ g cap, v = .slice (some ⟨g, 0, none⟩) n cap → g < w.heap.size := by
  intro g cap hv
  rcases h.2 with ⟨h1, _⟩ | ⟨g', cap', cur, h1, hg, hh, _⟩
  · rw [h1] at hv; cases hv
  · rw [h1] at hv; cases hv; exact lt_of_block hh
theorem owns_other {w w' : World} {B : Nat} {e : TypeId} {size : Nat} {v : Value} {n : Nat} {xs : List Value} (h : w.ownsRow B e size v n xs) (hne : ∀ g cap, v = .slice (some ⟨g, 0, none⟩) n cap → w'.heap[g]? = w.heap[g]?) : w'.ownsRow B e size v n xs := by
  obtain ⟨h1, h2⟩ := h
  refine ⟨h1, ?_⟩
  rcases h2 with h2 | ⟨g, cap, cur, hv, hg, hh, r⟩
  · exact Or.inl h2
  · exact Or.inr ⟨g, cap, cur, hv, hg, (hne g cap hv).trans hh, r⟩
theorem heap_set4 (w : World) {g b : Nat} (h : g ≠ b) (y0 y1 y2 y3 : Value) : ((((w.setCell ⟨b, 0, none⟩ y0).setCell ⟨b, 1, none⟩ y1).setCell ⟨b, 2, none⟩ y2).setCell ⟨b, 3, none⟩ y3).heap[g]? = w.heap[g]? := by
  rw [Below.heap_setCell _ _ _ _ h, Below.heap_setCell _ _ _ _ h, Below.heap_setCell _ _ _ _ h, Below.heap_setCell _ _ _ _ h]
set_option maxRecDepth 100000 in
set_option maxHeartbeats 8000000 in
theorem refAll_any (s : ByteArray) (w : World) (hs : s.size ≤ 65536) :
    Calls Tryd.prog 8 #[.string s] w (LexPost (allToks s) w) := by
  obtain ⟨i0, hinfo, hz0, hz1, hz2⟩ := info_parts info30
  obtain ⟨R, hR⟩ : ∃ R, allToks s = R := ⟨_, rfl⟩
  have HR := Lib.hid hR
  rw [hR]
  clear hR
  have hs' : ¬ (65536 : Int) < (s.size : Int) := by omega
  go_enter Tryd.func8, Tryd.ntmps8
  go_wp2_with fail
  clear hs'
  have O0 : (w.alloc (.cells #[] 30)).ownsRow w.heap.size 30 4 (.slice (some ⟨w.heap.size, 0, none⟩) 0 0) 0 [] := World.ownsRow_lit w #[] 0 (Nat.le_refl _) (by unfold maxLen; omega) rfl
  have K0 : Keep [] w (w.alloc (.cells #[] 30)) := (Keep.refl _ _).alloc _
  go_loopw [5, 6] (fun v c wr => ∃ (k : Nat) (acc : List Tok) (d : Nat), k ≤ s.size ∧ s.size - k < d ∧ acc.length ≤ k ∧ c = .int .i64 k ∧ Hid (allGo s d (runEnd blankB s k) acc = R) ∧ Keep [] w wr ∧ Hid (wr.ownsRow w.heap.size 30 4 v acc.length (acc.flatMap Tok.cells))) (fun _ c _ => s.size - (intOf c).toNat)
  case atStart => exact ⟨0, [], s.size + 1, Nat.zero_le _, by omega, by simp, rfl, HR.out, K0, O0⟩
  case round =>
    obtain ⟨k, acc, d, hk, hkd, hacc, rfl, HG, hkeep, HO⟩ := hrel
    clear HR O0 K0
    by_cases hlt : k < s.size
    · have hlt3 : (k : Int) < (s.size : Int) := by omega
      cases hb : blankB (s[k].toNat : Int) with
      | true =>
        have HG2 := HG.out
        rw [runEnd_step hlt hb] at HG2
        have HG3 := Lib.hid HG2
        have HB := Lib.hid hb
        clear HG2 HG hb
        go_wp2_with fail
        refine (refBlank_any _ _).mono ?_
        rintro e w2 ⟨rfl, rfl⟩
        rw [HB.out]
        go_wp2_with fail
        go_roundw
        case rel => exact ⟨k + 1, acc, d, by omega, by omega, by omega, by go_num, HG3, hkeep, HO⟩
        case measure => simp [intOf]; omega
      | false =>
        have HG2 := HG.out
        rw [runEnd_stop hlt hb] at HG2
        obtain ⟨d, rfl⟩ : ∃ e, d = e + 1 := ⟨d - 1, by omega⟩
        rw [allGo, if_pos hlt] at HG2
        have HG3 := Lib.hid HG2
        have HB := Lib.hid hb
        clear HG2 HG hb
        go_wp2_with fail
        refine (refBlank_any _ _).mono ?_
        rintro e w2 ⟨rfl, rfl⟩
        rw [HB.out]
        go_wp2_with fail
        have R1 := Lib.hid (tok_new wr)
        have K1 : Keep [] w (wr.alloc (.cells #[.int .i64 0, .string ⟨#[]⟩, .int .i64 0, .int .i64 0] 30)) := hkeep.alloc _
        have HO1 : Hid ((wr.alloc (.cells #[.int .i64 0, .string ⟨#[]⟩, .int .i64 0, .int .i64 0] 30)).ownsRow w.heap.size 30 4 u5 acc.length (acc.flatMap Tok.cells)) := Lib.hid (HO.out.alloc _)
        obtain ⟨b, hb⟩ : ∃ b, wr.heap.size = b := ⟨_, rfl⟩
        have hb2 : w.heap.size ≤ b := by rw [← hb]; exact hkeep.size
        rw [hb] at R1 ⊢
        generalize (wr.alloc (.cells #[.int .i64 0, .string ⟨#[]⟩, .int .i64 0, .int .i64 0] 30)) = w1 at R1 K1 HO1 ⊢
        have HLT : Hid (∀ g cap, u5 = .slice (some ⟨g, 0, none⟩) acc.length cap → g < b) := Lib.hid (by rw [← hb]; exact owns_lt HO.out)
        clear hb HO hkeep
        have hnx : ∀ x n, scanAt s k = .ok (x, n) → k < n ∧ n ≤ s.size := fun x n hx => scanAt_next hlt hx
        have her : ∀ a c, scanAt s k = .error (a, c) → c ≠ 0 := fun a c hx => scanAt_err hx
        by_cases hc1 : letterB (s[k].toNat : Int) = true
        · have hsc : scanAt s k = scanWord s k := by rw [scanAt, byteAt_eq hlt, if_pos hc1]
          rw [hsc] at HG3 hnx her
          have HN := Lib.hid hnx
          have HE := Lib.hid her
          have HC1 := Lib.hid hc1
          obtain ⟨r, hr⟩ : ∃ r, scanWord s k = r := ⟨_, rfl⟩
          have HC := Lib.hid hr
          rw [hr] at HG3 HN HE
          clear hr hsc hnx her hc1
          refine (refLetter_any _ _).mono ?_
          rintro e w2 ⟨rfl, rfl⟩
          rw [HC1.out]
          go_wp2_with fail
          refine (refWordTok_any s k _ hlt hs).mono ?_
          rw [HC.out]
          rintro e w2 ⟨hk2, hpost⟩
          have HR2 := Lib.hid (hk2.at R1.out (by simp))
          have K2 : Keep [] w w2 := K1.trans hk2
          have HO2 := Lib.hid (owns_keep HO1.out hk2 (by simp))
          clear hk2 R1 K1 HO1
          obtain ⟨r0, r1, r2, r3, f0, f1, f2, f3⟩ := blk4 HR2.out
          cases r with
          | error p =>
            obtain ⟨p1, p2⟩ := p
            obtain ⟨rfl, rfl⟩ := hpost
            have hc0 := HE.out _ _ rfl
            have hc0' : (p2 != 0) = true := by simpa using hc0
            clear hc0
            unfold zeroTok
            go_wp2_with fail
            refine bodyPost_ret (v := .tuple #[.slice none 0 0, .int .i64 k, .int .i64 p2]) (by simp [results, Tryd.results8, go_sem]) rfl ?_
            refine ⟨K2.set4 hb2 _ _ _ _, ?_⟩
            rw [← HG3.out]
          | ok p =>
            obtain ⟨t, n⟩ := p
            obtain rfl := hpost
            have hn := HN.out t n rfl
            obtain ⟨W, hW⟩ : ∃ W, (((w2.setCell ⟨b, 0, none⟩ (.int .i64 t.kind)).setCell ⟨b, 1, none⟩ (.string t.text)).setCell ⟨b, 2, none⟩ (.int .i64 t.num)).setCell ⟨b, 3, none⟩ (.int .i64 t.at_) = W := ⟨_, rfl⟩
            have KW : Keep [] w W := by rw [← hW]; exact K2.set4 hb2 _ _ _ _
            have hWs : W.heap.size = w2.heap.size := by rw [← hW]; simp [World.setCell]
            have HO3 : Hid (W.ownsRow w.heap.size 30 4 u5 acc.length (acc.flatMap Tok.cells)) := Lib.hid (owns_other HO2.out (fun g cap hv => by
              have := HLT.out g cap hv
              rw [← hW]
              exact heap_set4 w2 (by omega) _ _ _ _))
            have HNW : Hid ((W.alloc (.cells t.cells.toArray 30)).heap[w2.heap.size]? = some (.cells t.cells.toArray 30 (0, 0))) := Lib.hid (by rw [← hWs]; exact blk_new W _)
            have HW := Lib.hid hW
            have HWS := Lib.hid hWs
            clear hW hWs
            unfold Tok.val
            go_wp2_with (at_builtin; rw [HW.out]; refine wpList_append_own _ rfl _ _ 22 rfl w.heap.size 30 i0 _ 4 40 Tryd.underlying22 hinfo hz0 hz1 hz2 rfl (by decide) _ acc.length (acc.flatMap Tok.cells) rfl (HO3.out.alloc _) ⟨w2.heap.size, 0, none⟩ 1 1 t.cells rfl rfl (news_ok HNW.out) (tok_one t) (by unfold maxLen; omega) (by omega) (by have := KW.size; simp; omega) ?_; intro v' w3 hown3 hgr3 _)
            have hbl := (HO3.out.alloc (.cells t.cells.toArray 30)).lt
            have K3 : Keep [] w w3 := keep_grown (KW.alloc _) hgr3 (fun k hk => (hbl k hk).1)
            have HO4 := Lib.hid hown3
            clear hown3 hgr3 hbl
            go_wp2_with fail
            go_roundw
            case rel => exact ⟨n, acc ++ [t], d, hn.2, by omega, by simp; omega, rfl, HG3, K3, Lib.hid (by rw [List.length_append, List.flatMap_append]; simpa using HO4.out)⟩
            case measure => simp [intOf]; omega
        · have hc1 : letterB (s[k].toNat : Int) = false := by simpa using hc1
          cases hc2 : digitB (s[k].toNat : Int) with
          | true =>
            have hsc : scanAt s k = scanNumber s k := by rw [scanAt, byteAt_eq hlt, if_neg (by rw [hc1]; simp), if_pos hc2]
            rw [hsc] at HG3 hnx her
            have HN := Lib.hid hnx
            have HE := Lib.hid her
            obtain ⟨r, hr⟩ : ∃ r, scanNumber s k = r := ⟨_, rfl⟩
            have HC := Lib.hid hr
            rw [hr] at HG3 HN HE
            clear hr hsc hnx her
            have HC1 := Lib.hid hc1
            clear hc1
            refine (refLetter_any _ _).mono ?_
            rintro e w2 ⟨rfl, rfl⟩
            rw [HC1.out]
            go_wp2_with fail
            have HC2 := Lib.hid hc2
            clear hc2
            refine (refDigit_any _ _).mono ?_
            rintro e w2 ⟨rfl, rfl⟩
            rw [HC2.out]
            go_wp2_with fail
            refine (refNumber_any s k _ hlt HC2.out hs).mono ?_
            rw [HC.out]
            rintro e w2 ⟨hk2, hpost⟩
            have HR2 := Lib.hid (hk2.at R1.out (by simp))
            have K2 : Keep [] w w2 := K1.trans hk2
            have HO2 := Lib.hid (owns_keep HO1.out hk2 (by simp))
            clear hk2 R1 K1 HO1
            obtain ⟨r0, r1, r2, r3, f0, f1, f2, f3⟩ := blk4 HR2.out
            cases r with
            | error p =>
              obtain ⟨p1, p2⟩ := p
              obtain ⟨rfl, rfl⟩ := hpost
              have hc0 := HE.out _ _ rfl
              have hc0' : (p2 != 0) = true := by simpa using hc0
              clear hc0
              unfold zeroTok
              go_wp2_with fail
              refine bodyPost_ret (v := .tuple #[.slice none 0 0, .int .i64 k, .int .i64 p2]) (by simp [results, Tryd.results8, go_sem]) rfl ?_
              refine ⟨K2.set4 hb2 _ _ _ _, ?_⟩
              rw [← HG3.out]
            | ok p =>
              obtain ⟨t, n⟩ := p
              obtain rfl := hpost
              have hn := HN.out t n rfl
              obtain ⟨W, hW⟩ : ∃ W, (((w2.setCell ⟨b, 0, none⟩ (.int .i64 t.kind)).setCell ⟨b, 1, none⟩ (.string t.text)).setCell ⟨b, 2, none⟩ (.int .i64 t.num)).setCell ⟨b, 3, none⟩ (.int .i64 t.at_) = W := ⟨_, rfl⟩
              have KW : Keep [] w W := by rw [← hW]; exact K2.set4 hb2 _ _ _ _
              have hWs : W.heap.size = w2.heap.size := by rw [← hW]; simp [World.setCell]
              have HO3 : Hid (W.ownsRow w.heap.size 30 4 u5 acc.length (acc.flatMap Tok.cells)) := Lib.hid (owns_other HO2.out (fun g cap hv => by
                have := HLT.out g cap hv
                rw [← hW]
                exact heap_set4 w2 (by omega) _ _ _ _))
              have HNW : Hid ((W.alloc (.cells t.cells.toArray 30)).heap[w2.heap.size]? = some (.cells t.cells.toArray 30 (0, 0))) := Lib.hid (by rw [← hWs]; exact blk_new W _)
              have HW := Lib.hid hW
              have HWS := Lib.hid hWs
              clear hW hWs
              unfold Tok.val
              go_wp2_with (at_builtin; rw [HW.out]; refine wpList_append_own _ rfl _ _ 22 rfl w.heap.size 30 i0 _ 4 40 Tryd.underlying22 hinfo hz0 hz1 hz2 rfl (by decide) _ acc.length (acc.flatMap Tok.cells) rfl (HO3.out.alloc _) ⟨w2.heap.size, 0, none⟩ 1 1 t.cells rfl rfl (news_ok HNW.out) (tok_one t) (by unfold maxLen; omega) (by omega) (by have := KW.size; simp; omega) ?_; intro v' w3 hown3 hgr3 _)
              have hbl := (HO3.out.alloc (.cells t.cells.toArray 30)).lt
              have K3 : Keep [] w w3 := keep_grown (KW.alloc _) hgr3 (fun k hk => (hbl k hk).1)
              have HO4 := Lib.hid hown3
              clear hown3 hgr3 hbl
              go_wp2_with fail
              go_roundw
              case rel => exact ⟨n, acc ++ [t], d, hn.2, by omega, by simp; omega, rfl, HG3, K3, Lib.hid (by rw [List.length_append, List.flatMap_append]; simpa using HO4.out)⟩
              case measure => simp [intOf]; omega
          | false =>
            cases hc3 : ((s[k].toNat : Int) == 39) with
            | true =>
              have hsc : scanAt s k = scanText s k := by rw [scanAt, byteAt_eq hlt, if_neg (by rw [hc1]; simp), if_neg (by rw [hc2]; simp), if_pos (by simpa using hc3)]
              rw [hsc] at HG3 hnx her
              have HN := Lib.hid hnx
              have HE := Lib.hid her
              obtain ⟨r, hr⟩ : ∃ r, scanText s k = r := ⟨_, rfl⟩
              have HC := Lib.hid hr
              rw [hr] at HG3 HN HE
              clear hr hsc hnx her
              have HC1 := Lib.hid hc1
              clear hc1
              refine (refLetter_any _ _).mono ?_
              rintro e w2 ⟨rfl, rfl⟩
              rw [HC1.out]
              go_wp2_with fail
              have HC2 := Lib.hid hc2
              clear hc2
              refine (refDigit_any _ _).mono ?_
              rintro e w2 ⟨rfl, rfl⟩
              rw [HC2.out]
              go_wp2_with fail
              refine (refText_any s k _ hlt hs).mono ?_
              rw [HC.out]
              rintro e w2 ⟨hk2, hpost⟩
              have HR2 := Lib.hid (hk2.at R1.out (by simp))
              have K2 : Keep [] w w2 := K1.trans hk2
              have HO2 := Lib.hid (owns_keep HO1.out hk2 (by simp))
              clear hk2 R1 K1 HO1
              obtain ⟨r0, r1, r2, r3, f0, f1, f2, f3⟩ := blk4 HR2.out
              cases r with
              | error p =>
                obtain ⟨p1, p2⟩ := p
                obtain ⟨rfl, rfl⟩ := hpost
                have hc0 := HE.out _ _ rfl
                have hc0' : (p2 != 0) = true := by simpa using hc0
                clear hc0
                unfold zeroTok
                go_wp2_with fail
                refine bodyPost_ret (v := .tuple #[.slice none 0 0, .int .i64 k, .int .i64 p2]) (by simp [results, Tryd.results8, go_sem]) rfl ?_
                refine ⟨K2.set4 hb2 _ _ _ _, ?_⟩
                rw [← HG3.out]
              | ok p =>
                obtain ⟨t, n⟩ := p
                obtain rfl := hpost
                have hn := HN.out t n rfl
                obtain ⟨W, hW⟩ : ∃ W, (((w2.setCell ⟨b, 0, none⟩ (.int .i64 t.kind)).setCell ⟨b, 1, none⟩ (.string t.text)).setCell ⟨b, 2, none⟩ (.int .i64 t.num)).setCell ⟨b, 3, none⟩ (.int .i64 t.at_) = W := ⟨_, rfl⟩
                have KW : Keep [] w W := by rw [← hW]; exact K2.set4 hb2 _ _ _ _
                have hWs : W.heap.size = w2.heap.size := by rw [← hW]; simp [World.setCell]
                have HO3 : Hid (W.ownsRow w.heap.size 30 4 u5 acc.length (acc.flatMap Tok.cells)) := Lib.hid (owns_other HO2.out (fun g cap hv => by
                  have := HLT.out g cap hv
                  rw [← hW]
                  exact heap_set4 w2 (by omega) _ _ _ _))
                have HNW : Hid ((W.alloc (.cells t.cells.toArray 30)).heap[w2.heap.size]? = some (.cells t.cells.toArray 30 (0, 0))) := Lib.hid (by rw [← hWs]; exact blk_new W _)
                have HW := Lib.hid hW
                have HWS := Lib.hid hWs
                clear hW hWs
                unfold Tok.val
                go_wp2_with (at_builtin; rw [HW.out]; refine wpList_append_own _ rfl _ _ 22 rfl w.heap.size 30 i0 _ 4 40 Tryd.underlying22 hinfo hz0 hz1 hz2 rfl (by decide) _ acc.length (acc.flatMap Tok.cells) rfl (HO3.out.alloc _) ⟨w2.heap.size, 0, none⟩ 1 1 t.cells rfl rfl (news_ok HNW.out) (tok_one t) (by unfold maxLen; omega) (by omega) (by have := KW.size; simp; omega) ?_; intro v' w3 hown3 hgr3 _)
                have hbl := (HO3.out.alloc (.cells t.cells.toArray 30)).lt
                have K3 : Keep [] w w3 := keep_grown (KW.alloc _) hgr3 (fun k hk => (hbl k hk).1)
                have HO4 := Lib.hid hown3
                clear hown3 hgr3 hbl
                go_wp2_with fail
                go_roundw
                case rel => exact ⟨n, acc ++ [t], d, hn.2, by omega, by simp; omega, rfl, HG3, K3, Lib.hid (by rw [List.length_append, List.flatMap_append]; simpa using HO4.out)⟩
                case measure => simp [intOf]; omega
            | false =>
              have hsc : scanAt s k = scanSymbol s k := by rw [scanAt, byteAt_eq hlt, if_neg (by rw [hc1]; simp), if_neg (by rw [hc2]; simp), if_neg (by simpa using hc3)]
              rw [hsc] at HG3 hnx her
              have HN := Lib.hid hnx
              have HE := Lib.hid her
              obtain ⟨r, hr⟩ : ∃ r, scanSymbol s k = r := ⟨_, rfl⟩
              have HC := Lib.hid hr
              rw [hr] at HG3 HN HE
              clear hr hsc hnx her
              have HC1 := Lib.hid hc1
              clear hc1
              refine (refLetter_any _ _).mono ?_
              rintro e w2 ⟨rfl, rfl⟩
              rw [HC1.out]
              go_wp2_with fail
              have HC2 := Lib.hid hc2
              clear hc2
              refine (refDigit_any _ _).mono ?_
              rintro e w2 ⟨rfl, rfl⟩
              rw [HC2.out]
              go_wp2_with fail
              refine (refSym_any s k _ hlt hs).mono ?_
              rw [HC.out]
              rintro e w2 ⟨hk2, hpost⟩
              have HR2 := Lib.hid (hk2.at R1.out (by simp))
              have K2 : Keep [] w w2 := K1.trans hk2
              have HO2 := Lib.hid (owns_keep HO1.out hk2 (by simp))
              clear hk2 R1 K1 HO1
              obtain ⟨r0, r1, r2, r3, f0, f1, f2, f3⟩ := blk4 HR2.out
              cases r with
              | error p =>
                obtain ⟨p1, p2⟩ := p
                obtain ⟨rfl, rfl⟩ := hpost
                have hc0 := HE.out _ _ rfl
                have hc0' : (p2 != 0) = true := by simpa using hc0
                clear hc0
                unfold zeroTok
                go_wp2_with fail
                refine bodyPost_ret (v := .tuple #[.slice none 0 0, .int .i64 k, .int .i64 p2]) (by simp [results, Tryd.results8, go_sem]) rfl ?_
                refine ⟨K2.set4 hb2 _ _ _ _, ?_⟩
                rw [← HG3.out]
              | ok p =>
                obtain ⟨t, n⟩ := p
                obtain rfl := hpost
                have hn := HN.out t n rfl
                obtain ⟨W, hW⟩ : ∃ W, (((w2.setCell ⟨b, 0, none⟩ (.int .i64 t.kind)).setCell ⟨b, 1, none⟩ (.string t.text)).setCell ⟨b, 2, none⟩ (.int .i64 t.num)).setCell ⟨b, 3, none⟩ (.int .i64 t.at_) = W := ⟨_, rfl⟩
                have KW : Keep [] w W := by rw [← hW]; exact K2.set4 hb2 _ _ _ _
                have hWs : W.heap.size = w2.heap.size := by rw [← hW]; simp [World.setCell]
                have HO3 : Hid (W.ownsRow w.heap.size 30 4 u5 acc.length (acc.flatMap Tok.cells)) := Lib.hid (owns_other HO2.out (fun g cap hv => by
                  have := HLT.out g cap hv
                  rw [← hW]
                  exact heap_set4 w2 (by omega) _ _ _ _))
                have HNW : Hid ((W.alloc (.cells t.cells.toArray 30)).heap[w2.heap.size]? = some (.cells t.cells.toArray 30 (0, 0))) := Lib.hid (by rw [← hWs]; exact blk_new W _)
                have HW := Lib.hid hW
                have HWS := Lib.hid hWs
                clear hW hWs
                unfold Tok.val
                go_wp2_with (at_builtin; rw [HW.out]; refine wpList_append_own _ rfl _ _ 22 rfl w.heap.size 30 i0 _ 4 40 Tryd.underlying22 hinfo hz0 hz1 hz2 rfl (by decide) _ acc.length (acc.flatMap Tok.cells) rfl (HO3.out.alloc _) ⟨w2.heap.size, 0, none⟩ 1 1 t.cells rfl rfl (news_ok HNW.out) (tok_one t) (by unfold maxLen; omega) (by omega) (by have := KW.size; simp; omega) ?_; intro v' w3 hown3 hgr3 _)
                have hbl := (HO3.out.alloc (.cells t.cells.toArray 30)).lt
                have K3 : Keep [] w w3 := keep_grown (KW.alloc _) hgr3 (fun k hk => (hbl k hk).1)
                have HO4 := Lib.hid hown3
                clear hown3 hgr3 hbl
                go_wp2_with fail
                go_roundw
                case rel => exact ⟨n, acc ++ [t], d, hn.2, by omega, by simp; omega, rfl, HG3, K3, Lib.hid (by rw [List.length_append, List.flatMap_append]; simpa using HO4.out)⟩
                case measure => simp [intOf]; omega
    · obtain rfl : k = s.size := by omega
      have HG2 := HG.out
      rw [runEnd_end (by omega)] at HG2
      obtain ⟨d, rfl⟩ : ∃ e, d = e + 1 := ⟨d - 1, by omega⟩
      rw [allGo, if_neg (by omega)] at HG2
      subst HG2
      go_wp2_with fail
      refine bodyPost_ret (v := .tuple #[u5, .int .i64 0, .int .i64 0]) (by simp [results, Tryd.results8, go_sem]) rfl ?_
      exact ⟨hkeep, _, rfl, HO.out⟩
set_option maxRecDepth 100000 in
set_option maxHeartbeats 4000000 in
theorem refTokens_any (s : ByteArray) (w : World) :
    Calls Tryd.prog 8 #[.string s] w (LexPost (lex s) w) := by
  unfold lex
  by_cases h : 65536 < s.size
  · rw [if_pos h]
    have h' : (65536 : Int) < (s.size : Int) := by omega
    go_enter Tryd.func8, Tryd.ntmps8
    go_wp2_with fail
    refine bodyPost_ret (v := .tuple #[.slice none 0 0, .int .i64 0, .int .i64 5]) (by simp [results, Tryd.results8, go_sem]) rfl ?_
    exact ⟨Keep.refl _ _, rfl⟩
  · rw [if_neg h]
    exact refAll_any s w (by omega)
end Go.Proofs.YtippkncnecbhlaaDoor.Lx
