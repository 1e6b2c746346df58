/- The walk of (*scanner).all. -/
import Derived.Test.YtippkncnecbhlaaDoorLxScan2
import Derived.Test.YtippkncnecbhlaaDoorLxScan3
import Derived.Test.YtippkncnecbhlaaDoorLxScan4
import Derived.Test.YtippkncnecbhlaaDoorLxScan5
import Derived.Test.YtippkncnecbhlaaDoorLxTok2
namespace Go.Proofs.YtippkncnecbhlaaDoor.Lx
open Go.RowKit
theorem scanSymbol_any (pb : Nat) (s : ByteArray) (i : Nat) (w : World) (hi : i < s.size) (hs : s.size ≤ 65536) (h : Scn pb s i w) :
    Calls Tryd.prog 43 #[.pointer (some ⟨pb, 0, none⟩)] w (TokPost (scanSymbol s i) pb s w) := by
  unfold scanSymbol
  by_cases h2 : i + 2 ≤ s.size ∧ twoB (s.extract i (i + 2)).toList = true
  · rw [if_pos h2]
    exact symbol_two pb s i w hs h h2.1 _ rfl (by have := h2.2; simpa [twoB, or_assoc] using this)
  · rw [if_neg h2, dif_pos hi]
    have h3 : (i + 2 ≤ s.size ∧ ((s.extract i (i + 2)).toList == [60, 62]) = false ∧ ((s.extract i (i + 2)).toList == [60, 61]) = false ∧ ((s.extract i (i + 2)).toList == [62, 61]) = false ∧ ((s.extract i (i + 2)).toList == [124, 124]) = false) ∨ s.size < i + 2 := by
      by_cases h4 : i + 2 ≤ s.size
      · left
        have : twoB (s.extract i (i + 2)).toList = false := by
          cases e : twoB (s.extract i (i + 2)).toList with
          | false => rfl
          | true => exact absurd ⟨h4, e⟩ h2
        simp only [twoB, Bool.or_eq_false_iff] at this
        exact ⟨h4, this.1.1.1, this.1.1.2, this.1.2, this.2⟩
      · right; omega
    cases ho : oneB s[i] with
    | true => exact symbol_one pb s i w hi hs h _ _ rfl rfl ho h3
    | false => exact symbol_bad pb s i w hi hs h _ _ rfl rfl ho h3
def Tok.cells (t : Tok) : List Value := [.int .i64 t.kind, .string t.text, .int .i64 t.num, .int .i64 t.at_]
theorem info30 : (Tryd.prog.info? 30).map (fun i => (i.zero, i.size, i.bytes)) = some (some (.agg #[.int .i64 0, .string ⟨#[]⟩, .int .i64 0, .int .i64 0]), 4, 40) := by kernel_rfl
theorem news_ok {w : World} {b : Nat} {cs : List Value} {T : TypeId} (h : w.heap[b]? = some (.cells cs.toArray T (0, 0))) : ∀ j u, cs[j]? = some u → w.cell? ((⟨b, 0, none⟩ : Addr).add j) = some u := by
  intro j u hj
  have e : ((⟨b, 0, none⟩ : Addr).add j) = ⟨b, j, none⟩ := by
    unfold Addr.add; split
    · subst_vars; rfl
    · simp
  rw [e, blk_cell h j]; simpa using hj
theorem tok_one (t : Tok) : ∀ u ∈ t.cells, u.oneCell' = true := by
  intro u hu; simp [Tok.cells] at hu; rcases hu with rfl | rfl | rfl | rfl <;> rfl
theorem owns_keep {w w' : World} {B : Nat} {e : TypeId} {size : Nat} {v : Value} {n : Nat} {xs : List Value} {S : List Nat} (h : w.ownsRow B e size v n xs) (k : Keep S w w') (hS : ∀ b ∈ S, b < B) : w'.ownsRow B e size v n xs := by
  obtain ⟨h1, h2⟩ := h
  refine ⟨h1, ?_⟩
  rcases h2 with h2 | ⟨g, cap, cur, hv, hg, hh, r⟩
  · exact Or.inl h2
  · exact Or.inr ⟨g, cap, cur, hv, hg, k.at hh (fun hm => by have := hS g hm; omega), r⟩
theorem keep_grown {S : List Nat} {a w w' : World} {row : Option Nat} (h : Keep S a w) (g : w.grownBy w' row) (hr : ∀ k, row = some k → a.heap.size ≤ k) : Keep S a w' :=
  ⟨g.os.trans h.os, g.tape.trans h.tape, g.output.trans h.output, Nat.le_trans h.size g.size, fun i hi hs => (g.block i (Nat.lt_of_lt_of_le hi h.size) (fun e => by have := hr i e.symm; omega)).trans (h.block i hi hs)⟩
theorem grown_at {w w' : World} {row : Option Nat} (g : w.grownBy w' row) {b : Nat} {o : Obj} (hb : w.heap[b]? = some o) (hr : ∀ k, row = some k → b < k) : w'.heap[b]? = some o :=
  (g.block b (lt_of_block hb) (fun e => by have := hr b e.symm; omega)).trans hb
def AllPost (r : Except (Int × Int) (List Tok)) (pb : Nat) (w : World) (e : Ending) (w' : World) : Prop :=
  Keep [pb] w w' ∧ match r with
    | .error (a, c) => e = .panicked [{ v := failV a c, recovered := false }]
    | .ok l => ∃ v, e = .returned v ∧ w'.ownsRow w.heap.size 30 4 v l.length (l.flatMap Tok.cells)
set_option maxRecDepth 100000 in
set_option maxHeartbeats 8000000 in
theorem all_any (pb : Nat) (s : ByteArray) (w : World) (hs : s.size ≤ 65536) (h : Scn pb s 0 w) (ht : Tab w) (hp : pb ≠ 0) :
    Calls Tryd.prog 20 #[.pointer (some ⟨pb, 0, none⟩)] w (AllPost (allToks s) pb w) := by
  have hlt : pb < w.heap.size := lt_of_block h
  have HH := Lib.hid h
  have HT := Lib.hid ht
  clear h ht
  obtain ⟨i0, hi, hz0, hz1, hz2⟩ := info_parts info30
  obtain ⟨R, hR⟩ : ∃ R, allToks s = R := ⟨_, rfl⟩
  have HR := Lib.hid hR
  rw [hR]
  clear hR
  go_enter Tryd.func20, Tryd.ntmps20
  go_wp2_with fail
  refine (run_any 39 blankB enters39 blank_any pb s 0 _ (Nat.zero_le _) hs HH.out).mono ?_
  rintro e w1 ⟨rfl, hS, hk1⟩
  have HS1 := Lib.hid hS
  clear hS
  have hle0 := runEnd_le blankB s (s.size - 0) 0 rfl (Nat.zero_le _)
  go_wp2_with fail
  go_loopg [3] (s.size + 1) (fun d v wr => ∃ (k : Nat) (acc : List Tok), k ≤ s.size ∧ s.size - k < d ∧ acc.length ≤ k ∧ Hid (allGo s d k acc = R) ∧ Hid (Scn pb s k wr) ∧ Keep [pb] w wr ∧ wr.ownsRow w.heap.size 30 4 v acc.length (acc.flatMap Tok.cells))
  case atStart => exact ⟨runEnd blankB s 0, [], hle0.2, by omega, by simp, HR.out, HS1.out, hk1, World.ownsRow_nil _ _ _ _⟩
  case round =>
    obtain ⟨k, acc, hk, hkd, hacc, HG, HS, hkeep, hown⟩ := hrel
    clear HR HS1 hk1 hle0
    obtain ⟨d, rfl⟩ : ∃ d, gk = d + 1 := ⟨gk - 1, by omega⟩
    have d0 := HS.out.c0
    have d1 := HS.out.c1
    have HO := Lib.hid hown
    clear hown
    by_cases hlt2 : k < s.size
    · have hlt3 : (k : Int) < (s.size : Int) := by omega
      have HG2 := HG.out
      rw [allGo, if_pos hlt2] at HG2
      have HG3 := Lib.hid HG2
      clear HG2 HG
      have hnx : ∀ x n, scanAt s k = .ok (x, n) → k < n ∧ n ≤ s.size := fun x n hx => scanAt_next hlt2 hx
      have HN := Lib.hid hnx
      clear hnx
      by_cases hc1 : letterB (s[k].toNat : Int) = true
      · have HC1 := Lib.hid hc1
        clear hc1
        have hsc : scanAt s k = scanWord s k := by
          rw [scanAt, byteAt_eq hlt2, if_pos HC1.out]
        rw [hsc] at HG3 HN
        clear hsc
        obtain ⟨r, hr⟩ : ∃ r, scanWord s k = r := ⟨_, rfl⟩
        have HC := Lib.hid hr
        rw [hr] at HG3 HN
        clear hr
        go_wp2_with fail
        go_quiet (fail)
        go_wp2_with fail
        go_quiet (fail)
        go_wp2_with fail
        refine (letter_any _ _).mono ?_
        rintro e w2 ⟨rfl, rfl⟩
        rw [HC1.out]
        go_wp2_with fail
        refine (scanWord_any pb s k _ (by omega) hs (HS.out.drewN _) (HT.out.keep (hkeep.drewN _) (by simp; omega)) hp).mono ?_
        rw [HC.out]
        rintro e w2 ⟨hk2, hpost⟩
        have K2 : Keep [pb] w w2 := (hkeep.drewN _).trans hk2
        cases r with
        | error p =>
          obtain ⟨p1, p2⟩ := p
          obtain rfl := hpost
          go_wp2_with fail
          rw [← HG3.out]
          exact ⟨rfl, K2, rfl⟩
        | ok p =>
          obtain ⟨t, n⟩ := p
          obtain ⟨rfl, hS2⟩ := hpost
          have HS2 := Lib.hid hS2
          clear hS2
          have hn := HN.out t n rfl
          have hown2 : w2.ownsRow w.heap.size 30 4 _ acc.length (acc.flatMap Tok.cells) := owns_keep HO.out ((Keep.refl [pb] wr).drewN _ |>.trans hk2) (by simp; exact hlt)
          have HO2 := Lib.hid hown2
          clear hown2
          unfold Tok.val
          go_wp2_with (at_builtin; refine wpList_append_own _ rfl _ _ 22 rfl w.heap.size 30 i0 _ 4 40 Tryd.underlying22 hi hz0 hz1 hz2 rfl (by decide) _ acc.length (acc.flatMap Tok.cells) rfl (HO2.out.alloc _) ⟨w2.heap.size, 0, none⟩ 1 1 t.cells rfl rfl (news_ok (blk_new w2 _)) (tok_one t) (by unfold maxLen; omega) (by omega) (by have := K2.size; simp; omega) ?_; intro v' w3 hown3 hgr3 _)
          have hbl := (HO2.out.alloc (.cells t.cells.toArray 30)).lt
          have K3 : Keep [pb] w w3 := keep_grown (K2.alloc _) hgr3 (fun k hk => (hbl k hk).1)
          have S3 : Hid (Scn pb s n w3) := grown_at hgr3 (blk_alloc HS2.out _) (fun k hk => by have := (hbl k hk).1; omega)
          have HO3 := Lib.hid hown3
          clear hown3 hgr3 hbl
          go_wp2_with fail
          refine (run_any 39 blankB enters39 blank_any pb s n _ hn.2 hs S3.out).mono ?_
          rintro e w4 ⟨rfl, hS4, hk4⟩
          have HS4 := Lib.hid hS4
          clear hS4
          have hle := runEnd_le blankB s (s.size - n) n rfl hn.2
          go_wp2_with fail
          go_roundg d
          case measure => omega
          case rel =>
            exact ⟨runEnd blankB s n, acc ++ [t], hle.2, by omega, by simp; omega, HG3.out, HS4.out, K3.trans hk4, by
              have := owns_keep HO3.out hk4 (by simp; exact hlt)
              simpa [List.flatMap_append] using this⟩
      · have hc1 : letterB (s[k].toNat : Int) = false := by simpa using hc1
        have HC1 := Lib.hid hc1
        clear hc1
        by_cases hc2 : digitB (s[k].toNat : Int) = true
        · have HC2 := Lib.hid hc2
          clear hc2
          have hsc : scanAt s k = scanNumber s k := by
            rw [scanAt, byteAt_eq hlt2, if_neg (by rw [HC1.out]; simp), if_pos HC2.out]
          rw [hsc] at HG3 HN
          clear hsc
          obtain ⟨r, hr⟩ : ∃ r, scanNumber s k = r := ⟨_, rfl⟩
          have HC := Lib.hid hr
          rw [hr] at HG3 HN
          clear hr
          go_wp2_with fail
          go_quiet (fail)
          go_wp2_with fail
          go_quiet (fail)
          go_wp2_with fail
          refine (letter_any _ _).mono ?_
          rintro e w2 ⟨rfl, rfl⟩
          rw [HC1.out]
          go_wp2_with fail
          refine (digit_any _ _).mono ?_
          rintro e w2 ⟨rfl, rfl⟩
          rw [HC2.out]
          go_wp2_with fail
          refine (scanNumber_any pb s k _ hlt2 HC2.out hs (HS.out.drewN _)).mono ?_
          rw [HC.out]
          rintro e w2 ⟨hk2, hpost⟩
          have K2 : Keep [pb] w w2 := (hkeep.drewN _).trans hk2
          cases r with
          | error p =>
            obtain ⟨p1, p2⟩ := p
            obtain rfl := hpost
            go_wp2_with fail
            rw [← HG3.out]
            exact ⟨rfl, K2, rfl⟩
          | ok p =>
            obtain ⟨t, n⟩ := p
            obtain ⟨rfl, hS2⟩ := hpost
            have HS2 := Lib.hid hS2
            clear hS2
            have hn := HN.out t n rfl
            have hown2 : w2.ownsRow w.heap.size 30 4 _ acc.length (acc.flatMap Tok.cells) := owns_keep HO.out ((Keep.refl [pb] wr).drewN _ |>.trans hk2) (by simp; exact hlt)
            have HO2 := Lib.hid hown2
            clear hown2
            unfold Tok.val
            go_wp2_with (at_builtin; refine wpList_append_own _ rfl _ _ 22 rfl w.heap.size 30 i0 _ 4 40 Tryd.underlying22 hi hz0 hz1 hz2 rfl (by decide) _ acc.length (acc.flatMap Tok.cells) rfl (HO2.out.alloc _) ⟨w2.heap.size, 0, none⟩ 1 1 t.cells rfl rfl (news_ok (blk_new w2 _)) (tok_one t) (by unfold maxLen; omega) (by omega) (by have := K2.size; simp; omega) ?_; intro v' w3 hown3 hgr3 _)
            have hbl := (HO2.out.alloc (.cells t.cells.toArray 30)).lt
            have K3 : Keep [pb] w w3 := keep_grown (K2.alloc _) hgr3 (fun k hk => (hbl k hk).1)
            have S3 : Hid (Scn pb s n w3) := grown_at hgr3 (blk_alloc HS2.out _) (fun k hk => by have := (hbl k hk).1; omega)
            have HO3 := Lib.hid hown3
            clear hown3 hgr3 hbl
            go_wp2_with fail
            refine (run_any 39 blankB enters39 blank_any pb s n _ hn.2 hs S3.out).mono ?_
            rintro e w4 ⟨rfl, hS4, hk4⟩
            have HS4 := Lib.hid hS4
            clear hS4
            have hle := runEnd_le blankB s (s.size - n) n rfl hn.2
            go_wp2_with fail
            go_roundg d
            case measure => omega
            case rel =>
              exact ⟨runEnd blankB s n, acc ++ [t], hle.2, by omega, by simp; omega, HG3.out, HS4.out, K3.trans hk4, by
                have := owns_keep HO3.out hk4 (by simp; exact hlt)
                simpa [List.flatMap_append] using this⟩
        · have hc2 : digitB (s[k].toNat : Int) = false := by simpa using hc2
          have HC2 := Lib.hid hc2
          clear hc2
          cases hc3 : (((s[k].toNat : Nat) : Int) == 39) with
          | true =>
            have hsc : scanAt s k = scanText s k := by
              rw [scanAt, byteAt_eq hlt2, if_neg (by rw [HC1.out]; simp), if_neg (by rw [HC2.out]; simp), if_pos (by simpa using hc3)]
            rw [hsc] at HG3 HN
            clear hsc
            obtain ⟨r, hr⟩ : ∃ r, scanText s k = r := ⟨_, rfl⟩
            have HC := Lib.hid hr
            rw [hr] at HG3 HN
            clear hr
            go_wp2_with fail
            go_quiet (fail)
            go_wp2_with fail
            go_quiet (fail)
            go_wp2_with fail
            refine (letter_any _ _).mono ?_
            rintro e w2 ⟨rfl, rfl⟩
            rw [HC1.out]
            go_wp2_with fail
            refine (digit_any _ _).mono ?_
            rintro e w2 ⟨rfl, rfl⟩
            rw [HC2.out]
            go_wp2_with fail
            refine (scanText_any pb s k _ hlt2 hs (HS.out.drewN _)).mono ?_
            rw [HC.out]
            rintro e w2 ⟨hk2, hpost⟩
            have K2 : Keep [pb] w w2 := (hkeep.drewN _).trans hk2
            cases r with
            | error p =>
              obtain ⟨p1, p2⟩ := p
              obtain rfl := hpost
              go_wp2_with fail
              rw [← HG3.out]
              exact ⟨rfl, K2, rfl⟩
            | ok p =>
              obtain ⟨t, n⟩ := p
              obtain ⟨rfl, hS2⟩ := hpost
              have HS2 := Lib.hid hS2
              clear hS2
              have hn := HN.out t n rfl
              have hown2 : w2.ownsRow w.heap.size 30 4 _ acc.length (acc.flatMap Tok.cells) := owns_keep HO.out ((Keep.refl [pb] wr).drewN _ |>.trans hk2) (by simp; exact hlt)
              have HO2 := Lib.hid hown2
              clear hown2
              unfold Tok.val
              go_wp2_with (at_builtin; refine wpList_append_own _ rfl _ _ 22 rfl w.heap.size 30 i0 _ 4 40 Tryd.underlying22 hi hz0 hz1 hz2 rfl (by decide) _ acc.length (acc.flatMap Tok.cells) rfl (HO2.out.alloc _) ⟨w2.heap.size, 0, none⟩ 1 1 t.cells rfl rfl (news_ok (blk_new w2 _)) (tok_one t) (by unfold maxLen; omega) (by omega) (by have := K2.size; simp; omega) ?_; intro v' w3 hown3 hgr3 _)
              have hbl := (HO2.out.alloc (.cells t.cells.toArray 30)).lt
              have K3 : Keep [pb] w w3 := keep_grown (K2.alloc _) hgr3 (fun k hk => (hbl k hk).1)
              have S3 : Hid (Scn pb s n w3) := grown_at hgr3 (blk_alloc HS2.out _) (fun k hk => by have := (hbl k hk).1; omega)
              have HO3 := Lib.hid hown3
              clear hown3 hgr3 hbl
              go_wp2_with fail
              refine (run_any 39 blankB enters39 blank_any pb s n _ hn.2 hs S3.out).mono ?_
              rintro e w4 ⟨rfl, hS4, hk4⟩
              have HS4 := Lib.hid hS4
              clear hS4
              have hle := runEnd_le blankB s (s.size - n) n rfl hn.2
              go_wp2_with fail
              go_roundg d
              case measure => omega
              case rel =>
                exact ⟨runEnd blankB s n, acc ++ [t], hle.2, by omega, by simp; omega, HG3.out, HS4.out, K3.trans hk4, by
                  have := owns_keep HO3.out hk4 (by simp; exact hlt)
                  simpa [List.flatMap_append] using this⟩
          | false =>
            have hsc : scanAt s k = scanSymbol s k := by
              rw [scanAt, byteAt_eq hlt2, if_neg (by rw [HC1.out]; simp), if_neg (by rw [HC2.out]; simp), if_neg (by simpa using hc3)]
            rw [hsc] at HG3 HN
            clear hsc
            obtain ⟨r, hr⟩ : ∃ r, scanSymbol s k = r := ⟨_, rfl⟩
            have HC := Lib.hid hr
            rw [hr] at HG3 HN
            clear hr
            go_wp2_with fail
            go_quiet (fail)
            go_wp2_with fail
            go_quiet (fail)
            go_wp2_with fail
            refine (letter_any _ _).mono ?_
            rintro e w2 ⟨rfl, rfl⟩
            rw [HC1.out]
            go_wp2_with fail
            refine (digit_any _ _).mono ?_
            rintro e w2 ⟨rfl, rfl⟩
            rw [HC2.out]
            go_wp2_with fail
            refine (scanSymbol_any pb s k _ hlt2 hs (HS.out.drewN _)).mono ?_
            rw [HC.out]
            rintro e w2 ⟨hk2, hpost⟩
            have K2 : Keep [pb] w w2 := (hkeep.drewN _).trans hk2
            cases r with
            | error p =>
              obtain ⟨p1, p2⟩ := p
              obtain rfl := hpost
              go_wp2_with fail
              rw [← HG3.out]
              exact ⟨rfl, K2, rfl⟩
            | ok p =>
              obtain ⟨t, n⟩ := p
              obtain ⟨rfl, hS2⟩ := hpost
              have HS2 := Lib.hid hS2
              clear hS2
              have hn := HN.out t n rfl
              have hown2 : w2.ownsRow w.heap.size 30 4 _ acc.length (acc.flatMap Tok.cells) := owns_keep HO.out ((Keep.refl [pb] wr).drewN _ |>.trans hk2) (by simp; exact hlt)
              have HO2 := Lib.hid hown2
              clear hown2
              unfold Tok.val
              go_wp2_with (at_builtin; refine wpList_append_own _ rfl _ _ 22 rfl w.heap.size 30 i0 _ 4 40 Tryd.underlying22 hi hz0 hz1 hz2 rfl (by decide) _ acc.length (acc.flatMap Tok.cells) rfl (HO2.out.alloc _) ⟨w2.heap.size, 0, none⟩ 1 1 t.cells rfl rfl (news_ok (blk_new w2 _)) (tok_one t) (by unfold maxLen; omega) (by omega) (by have := K2.size; simp; omega) ?_; intro v' w3 hown3 hgr3 _)
              have hbl := (HO2.out.alloc (.cells t.cells.toArray 30)).lt
              have K3 : Keep [pb] w w3 := keep_grown (K2.alloc _) hgr3 (fun k hk => (hbl k hk).1)
              have S3 : Hid (Scn pb s n w3) := grown_at hgr3 (blk_alloc HS2.out _) (fun k hk => by have := (hbl k hk).1; omega)
              have HO3 := Lib.hid hown3
              clear hown3 hgr3 hbl
              go_wp2_with fail
              refine (run_any 39 blankB enters39 blank_any pb s n _ hn.2 hs S3.out).mono ?_
              rintro e w4 ⟨rfl, hS4, hk4⟩
              have HS4 := Lib.hid hS4
              clear hS4
              have hle := runEnd_le blankB s (s.size - n) n rfl hn.2
              go_wp2_with fail
              go_roundg d
              case measure => omega
              case rel =>
                exact ⟨runEnd blankB s n, acc ++ [t], hle.2, by omega, by simp; omega, HG3.out, HS4.out, K3.trans hk4, by
                  have := owns_keep HO3.out hk4 (by simp; exact hlt)
                  simpa [List.flatMap_append] using this⟩
    · have HG2 := HG.out
      rw [allGo, if_neg hlt2] at HG2
      have HG3 := Lib.hid HG2
      clear HG2 HG
      obtain rfl : k = s.size := by omega
      go_wp2_with fail
      go_quiet (fail)
      go_wp2_with fail
      go_ret
      rw [← HG3.out]
      exact ⟨hkeep.drewN _, _, rfl, owns_keep HO.out (S := []) ((Keep.refl _ _).drewN _) (by simp)⟩
end Go.Proofs.YtippkncnecbhlaaDoor.Lx
