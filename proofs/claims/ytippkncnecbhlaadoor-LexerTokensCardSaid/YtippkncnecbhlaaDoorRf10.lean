/- The walk of the law LexerTokens. -/
import Derived.Test.YtippkncnecbhlaaDoorRf9
namespace Go.Proofs.YtippkncnecbhlaaDoor.Lx
open Go.RowKit
set_option maxRecDepth 100000 in
set_option maxHeartbeats 4000000 in
theorem tokensLaw_bad (s : ByteArray) (w : World) (h : Tab w) (a c : Int) (hl : lex s = .error (a, c)) : Calls Tryd.prog 3 #[.string s] w (TruePost w) := by
  have HT := Lib.hid h
  have HL := Lib.hid hl
  clear h hl
  go_enter Tryd.func3, Tryd.ntmps3
  go_wp2_with fail
  refine (tokens_any s w HT.out).mono ?_
  rw [HL.out]
  rintro e w1 ⟨hk1, rfl⟩
  go_wp2_with fail
  refine (refTokens_any s w1).mono ?_
  rw [HL.out]
  rintro e w2 ⟨hk2, rfl⟩
  have K2 : Keep [] w w2 := hk1.trans hk2
  go_wp2_with fail
  refine (same_nil _ _ w2 (Or.inl rfl) (Or.inl rfl)).mono ?_
  rintro e w3 ⟨rfl, hk3⟩
  have K3 : Keep [] w w3 := K2.trans hk3
  go_wp2_with fail
  refine (awake_any w3 (HT.out.keep K3 (by simp))).mono ?_
  rintro e w4 ⟨rfl, hk4⟩
  go_wp2_with fail
  go_ret
  exact ⟨rfl, K3.trans hk4⟩
set_option maxRecDepth 100000 in
set_option maxHeartbeats 4000000 in
theorem tokensLaw_ok (s : ByteArray) (w : World) (h : Tab w) (l : List Tok) (hl : lex s = .ok l) : Calls Tryd.prog 3 #[.string s] w (TruePost w) := by
  have HT := Lib.hid h
  have hlen := lex_length hl
  have HL := Lib.hid hl
  clear h hl
  go_enter Tryd.func3, Tryd.ntmps3
  go_wp2_with fail
  refine (tokens_any s w HT.out).mono ?_
  rw [HL.out]
  rintro e w1 ⟨hk1, v1, rfl, hown1⟩
  have HO1 := Lib.hid hown1
  clear hown1
  go_wp2_with fail
  refine (refTokens_any s w1).mono ?_
  rw [HL.out]
  rintro e w2 ⟨hk2, v2, rfl, hown2⟩
  have HO2 := Lib.hid hown2
  clear hown2
  have K2 : Keep [] w w2 := hk1.trans hk2
  go_wp2_with fail
  refine (same_any l v1 v2 w.heap.size w1.heap.size w2 (by omega) (owns_keep HO1.out hk2 (by simp)) HO2.out).mono ?_
  rintro e w3 ⟨rfl, hk3⟩
  have K3 : Keep [] w w3 := K2.trans hk3
  go_wp2_with fail
  refine (awake_any w3 (HT.out.keep K3 (by simp))).mono ?_
  rintro e w4 ⟨rfl, hk4⟩
  go_wp2_with fail
  go_ret
  exact ⟨rfl, K3.trans hk4⟩
theorem tokensLaw_any (s : ByteArray) (w : World) (h : Tab w) : Calls Tryd.prog 3 #[.string s] w (TruePost w) := by
  cases hl : lex s with
  | error p => exact tokensLaw_bad s w h p.1 p.2 hl
  | ok l => exact tokensLaw_ok s w h l hl
end Go.Proofs.YtippkncnecbhlaaDoor.Lx
