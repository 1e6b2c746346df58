/- The walk of the law LexerBack. -/
import Derived.Test.YtippkncnecbhlaaDoorBk2
namespace Go.Proofs.YtippkncnecbhlaaDoor.Lx
open Go.RowKit
theorem text_any (l : List Tok) (v : Value) (B : Nat) (w : World) (hnb : l.length ≤ 65536) (hv : ∀ t ∈ l, Val t) (hw : BkW w)
    (h : w.ownsRow B 30 4 v l.length (l.flatMap Tok.cells)) :
    Calls Tryd.prog 18 #[v] w fun e w' => e = .returned (.string ⟨(textL l).toArray⟩) ∧ Keep [] w w' := by
  by_cases h0 : l = []
  · subst h0
    rcases owns_shape h with ⟨h1, _⟩ | h1
    · exact text_nil v w (Or.inl h1)
    · exact text_nil v w (Or.inr h1)
  · have h1 : 1 ≤ l.length := by
      cases l with
      | nil => exact absurd rfl h0
      | cons a r => simp
    rcases owns_shape h with ⟨_, h2⟩ | ⟨g, cap, rfl⟩
    · omega
    · exact text_some l l.length g cap B w rfl hnb h1 hv hw h
set_option maxRecDepth 100000 in
set_option maxHeartbeats 4000000 in
theorem back_bad (s : ByteArray) (w : World) (h : Tab w) (a c : Int) (hl : lex s = .error (a, c)) : Calls Tryd.prog 6 #[.string s] w (TruePost w) := by
  have HT := Lib.hid h
  have hc : (c != 0) = true := by simpa using lex_err hl
  have HL := Lib.hid hl
  clear h hl
  go_enter Tryd.func6, Tryd.ntmps6
  go_wp2_with fail
  refine (tokens_any s w HT.out).mono ?_
  rw [HL.out]
  rintro e w1 ⟨hk1, rfl⟩
  go_wp2_with fail
  refine (awake_any w1 (HT.out.keep hk1 (by simp))).mono ?_
  rintro e w2 ⟨rfl, hk2⟩
  go_wp2_with fail
  go_ret
  exact ⟨rfl, hk1.trans hk2⟩
theorem core_at {l m : List Tok} (h : m.map Tok.core = l.map Tok.core) : m.length = l.length ∧ ∀ (k : Nat) (h1 : k < m.length) (h2 : k < l.length), m[k].kind = l[k].kind ∧ m[k].text = l[k].text ∧ m[k].num = l[k].num := by
  have hl : m.length = l.length := by have := congrArg List.length h; simpa using this
  refine ⟨hl, fun k h1 h2 => ?_⟩
  have := congrArg (fun x => x[k]?) h
  simp only [List.getElem?_map, List.getElem?_eq_getElem h1, List.getElem?_eq_getElem h2, Option.map_some, Option.some.injEq, Tok.core, Prod.mk.injEq] at this
  exact this
set_option maxRecDepth 100000 in
set_option maxHeartbeats 4000000 in
theorem back_long (s : ByteArray) (w : World) (h : Tab w) (hw : BkW w) (l : List Tok) (hl : lex s = .ok l) (hlong : 65536 < (textL l).length) : Calls Tryd.prog 6 #[.string s] w (TruePost w) := by
  have HT := Lib.hid h
  have HW := Lib.hid hw
  have hlen := lex_length hl
  have HV := Lib.hid (lex_val hl)
  have HL := Lib.hid hl
  have hts : 65536 < (⟨(textL l).toArray⟩ : ByteArray).size := by
    have : (⟨(textL l).toArray⟩ : ByteArray).size = (textL l).length := List.size_toArray
    omega
  clear h hl hw
  go_enter Tryd.func6, Tryd.ntmps6
  go_wp2_with fail
  refine (tokens_any s w HT.out).mono ?_
  rw [HL.out]
  rintro e w1 ⟨hk1, v1, rfl, hown1⟩
  have HO1 := Lib.hid hown1
  clear hown1
  go_wp2_with fail
  refine (text_any l v1 _ w1 (by omega) HV.out (HW.out.keep hk1) HO1.out).mono ?_
  rintro e w2 ⟨rfl, hk2⟩
  have K2 : Keep [] w w2 := hk1.trans hk2
  generalize (⟨(textL l).toArray⟩ : ByteArray) = t at hts
  go_wp2_with fail
  refine (awake_any w2 (HT.out.keep K2 (by simp))).mono ?_
  rintro e w3 ⟨rfl, hk3⟩
  go_wp2_with fail
  go_ret
  exact ⟨rfl, K2.trans hk3⟩
set_option maxRecDepth 100000 in
set_option maxHeartbeats 8000000 in
theorem back_ok (s : ByteArray) (w : World) (h : Tab w) (hw : BkW w) (l : List Tok) (hl : lex s = .ok l) (hshort : (textL l).length ≤ 65536) : Calls Tryd.prog 6 #[.string s] w (TruePost w) := by
  have HT := Lib.hid h
  have HW := Lib.hid hw
  have hlen := lex_length hl
  have HV := Lib.hid (lex_val hl)
  have HL := Lib.hid hl
  have hts : (⟨(textL l).toArray⟩ : ByteArray).size ≤ 65536 := by
    have : (⟨(textL l).toArray⟩ : ByteArray).size = (textL l).length := List.size_toArray
    omega
  obtain ⟨m, hm, hcore⟩ := lex_back (lex_val hl) (s := ⟨(textL l).toArray⟩) (by simp) hts
  obtain ⟨hml, hcs⟩ := core_at hcore
  have HM := Lib.hid hm
  have HC := Lib.hid hcs
  have HML := Lib.hid hml
  clear h hl hw hm hcore hcs hml
  go_enter Tryd.func6, Tryd.ntmps6
  go_wp2_with fail
  refine (tokens_any s w HT.out).mono ?_
  rw [HL.out]
  rintro e w1 ⟨hk1, v1, rfl, hown1⟩
  have HO1 := Lib.hid hown1
  clear hown1
  go_wp2_with fail
  refine (text_any l v1 _ w1 (by omega) HV.out (HW.out.keep hk1) HO1.out).mono ?_
  rintro e w2 ⟨rfl, hk2⟩
  have K2 : Keep [] w w2 := hk1.trans hk2
  have HO2 : Hid (w2.ownsRow w.heap.size 30 4 v1 l.length (l.flatMap Tok.cells)) := owns_keep HO1.out hk2 (by simp)
  clear HO1 hk1 hk2
  generalize (⟨(textL l).toArray⟩ : ByteArray) = t at hts HM
  go_wp2_with fail
  refine (tokens_any t w2 (HT.out.keep K2 (by simp))).mono ?_
  rw [HM.out]
  rintro e w3 ⟨hk3, v2, rfl, hown3⟩
  have K3 : Keep [] w w3 := K2.trans hk3
  have HO3 : Hid (w3.ownsRow w.heap.size 30 4 v1 l.length (l.flatMap Tok.cells)) := owns_keep HO2.out hk3 (by simp)
  have hown3' := hown3
  rw [HML.out] at hown3'
  have HP3 := Lib.hid hown3'
  clear hown3 hown3' HO2
  obtain ⟨B2, hB2⟩ : ∃ B, w2.heap.size = B := ⟨_, rfl⟩
  rw [hB2] at HP3
  clear hB2 hk3 K2
  obtain ⟨n, hn⟩ : ∃ n, l.length = n := ⟨_, rfl⟩
  have HN := Lib.hid hn
  rw [hn] at HO3 HP3 hlen HML
  clear hn
  by_cases h0 : n = 0
  · subst h0
    have e1 : v1 = .slice none 0 0 ∨ ∃ g cap, v1 = .slice (some ⟨g, 0, none⟩) 0 cap := by
      rcases owns_shape HO3.out with ⟨h1, _⟩ | h1
      · exact Or.inl h1
      · exact Or.inr h1
    have e2 : v2 = .slice none 0 0 ∨ ∃ g cap, v2 = .slice (some ⟨g, 0, none⟩) 0 cap := by
      rcases owns_shape HP3.out with ⟨h1, _⟩ | h1
      · exact Or.inl h1
      · exact Or.inr h1
    rcases e1 with rfl | ⟨g1, cap1, rfl⟩ <;> rcases e2 with rfl | ⟨g2, cap2, rfl⟩
    all_goals
      go_wp2_with fail
      go_loop [48] (fun c => c = .int .i64 0) (fun _ => 0)
      case atStart => rfl
      case round =>
        obtain rfl := hrel
        go_wp2_with fail
        refine (awake_any w3 (HT.out.keep K3 (by simp))).mono ?_
        rintro e w4 ⟨rfl, hk4⟩
        go_wp2_with fail
        go_ret
        exact ⟨rfl, K3.trans hk4⟩
  · rcases owns_shape HO3.out with ⟨_, h1⟩ | ⟨g1, cap1, rfl⟩
    · exact absurd h1 h0
    rcases owns_shape HP3.out with ⟨_, h1⟩ | ⟨g2, cap2, rfl⟩
    · exact absurd h1 h0
    go_wp2_with fail
    go_loopw [48] (fun c wr => ∃ k : Nat, k ≤ n ∧ c = .int .i64 k ∧ Keep [] w3 wr) (fun c _ => n - (intOf c).toNat)
    case atStart => exact ⟨0, Nat.zero_le _, rfl, Keep.refl _ _⟩
    case round =>
      obtain ⟨k, hk, rfl, hkeep⟩ := hrel
      by_cases hlt : k < n
      · have hkl : k < l.length := by rw [HN.out]; exact hlt
        have hkm : k < m.length := by rw [HML.out]; exact hlt
        obtain ⟨a0, a1, a2, a3⟩ := row_at (owns_keep HO3.out hkeep (by simp)) HN.out k hkl
        obtain ⟨b0, b1, b2, b3⟩ := row_at (owns_keep HP3.out hkeep (by simp)) HML.out k hkm
        obtain ⟨c0, c1, c2⟩ := HC.out k hkm hkl
        rw [c0] at b0
        rw [c1] at b1
        rw [c2] at b2
        clear a3 b3 c0 c1 c2
        generalize l[k] = t1 at a0 a1 a2 b0 b1 b2
        go_wp2_with fail
        go_quiet (fail)
        go_wp2_with fail
        go_roundw
        case rel => exact ⟨k + 1, by omega, by go_num, hkeep.drewN _⟩
        case measure => simp [intOf]; omega
      · obtain rfl : k = n := by omega
        have K4 : Keep [] w wr := K3.trans hkeep
        go_wp2_with fail
        refine (awake_any wr (HT.out.keep K4 (by simp))).mono ?_
        rintro e w5 ⟨rfl, hk5⟩
        go_wp2_with fail
        go_ret
        exact ⟨rfl, K4.trans hk5⟩
theorem backLaw_any (s : ByteArray) (w : World) (h : Tab w) (hw : BkW w) : Calls Tryd.prog 6 #[.string s] w (TruePost w) := by
  cases hl : lex s with
  | error p => exact back_bad s w h p.1 p.2 hl
  | ok l =>
    by_cases hlong : 65536 < (textL l).length
    · exact back_long s w h hw l hl hlong
    · exact back_ok s w h hw l hl (by omega)
end Go.Proofs.YtippkncnecbhlaaDoor.Lx
