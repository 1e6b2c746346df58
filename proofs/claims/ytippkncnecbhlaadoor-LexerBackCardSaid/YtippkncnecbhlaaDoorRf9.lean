/- The walk of the reference's Same, at two rows of the same tokens. -/
import Derived.Test.YtippkncnecbhlaaDoorRf8
namespace Go.Proofs.YtippkncnecbhlaaDoor.Lx
open Go.RowKit
set_option maxRecDepth 100000 in
set_option maxHeartbeats 4000000 in
theorem same_nil (v1 v2 : Value) (w : World) (h1 : v1 = .slice none 0 0 ∨ ∃ g cap, v1 = .slice (some ⟨g, 0, none⟩) 0 cap) (h2 : v2 = .slice none 0 0 ∨ ∃ g cap, v2 = .slice (some ⟨g, 0, none⟩) 0 cap) :
    Calls Tryd.prog 9 #[v1, v2] w (TruePost w) := by
  rcases h1 with rfl | ⟨g1, cap1, rfl⟩ <;> rcases h2 with rfl | ⟨g2, cap2, rfl⟩
  all_goals
    go_enter Tryd.func9, Tryd.ntmps9
    go_wp2_with fail
    go_loop [5] (fun c => c = .int .i64 0) (fun _ => 0)
    case atStart => rfl
    case round =>
      subst hrel
      go_wp2_with fail
      go_ret
      exact ⟨rfl, Keep.refl _ _⟩
set_option maxRecDepth 100000 in
set_option maxHeartbeats 4000000 in
theorem same_some (l : List Tok) (n g1 cap1 g2 cap2 B1 B2 : Nat) (w : World) (hn : l.length = n) (hnb : n ≤ 65536)
    (h1 : w.ownsRow B1 30 4 (.slice (some ⟨g1, 0, none⟩) n cap1) n (l.flatMap Tok.cells)) (h2 : w.ownsRow B2 30 4 (.slice (some ⟨g2, 0, none⟩) n cap2) n (l.flatMap Tok.cells)) :
    Calls Tryd.prog 9 #[.slice (some ⟨g1, 0, none⟩) n cap1, .slice (some ⟨g2, 0, none⟩) n cap2] w (TruePost w) := by
  have H1 := Lib.hid h1
  have H2 := Lib.hid h2
  have HN := Lib.hid hn
  clear h1 h2 hn
  go_enter Tryd.func9, Tryd.ntmps9
  go_wp2_with fail
  go_loopw [5] (fun c wr => ∃ k : Nat, k ≤ n ∧ c = .int .i64 k ∧ Keep [] w wr) (fun c _ => n - (intOf c).toNat)
  case atStart => exact ⟨0, Nat.zero_le _, rfl, Keep.refl _ _⟩
  case round =>
    obtain ⟨k, hk, rfl, hkeep⟩ := hrel
    by_cases hlt : k < n
    · obtain ⟨a0, a1, a2, a3⟩ := row_at (owns_keep H1.out hkeep (by simp)) HN.out k (by rw [HN.out]; exact hlt)
      obtain ⟨b0, b1, b2, b3⟩ := row_at (owns_keep H2.out hkeep (by simp)) HN.out k (by rw [HN.out]; exact hlt)
      generalize l[k]'(by rw [HN.out]; exact hlt) = t at a0 a1 a2 a3 b0 b1 b2 b3
      go_wp2_with fail
      go_quiet (fail)
      go_wp2_with fail
      go_roundw
      case rel => exact ⟨k + 1, by omega, by go_num, hkeep.drewN _⟩
      case measure => simp [intOf]; omega
    · obtain rfl : k = n := by omega
      go_wp2_with fail
      go_ret
      exact ⟨rfl, hkeep⟩
theorem same_any (l : List Tok) (v1 v2 : Value) (B1 B2 : Nat) (w : World) (hnb : l.length ≤ 65536)
    (h1 : w.ownsRow B1 30 4 v1 l.length (l.flatMap Tok.cells)) (h2 : w.ownsRow B2 30 4 v2 l.length (l.flatMap Tok.cells)) :
    Calls Tryd.prog 9 #[v1, v2] w (TruePost w) := by
  by_cases h0 : l.length = 0
  · rw [h0] at h1 h2
    refine same_nil v1 v2 w ?_ ?_
    · rcases owns_shape h1 with ⟨h, _⟩ | h
      · exact Or.inl h
      · exact Or.inr h
    · rcases owns_shape h2 with ⟨h, _⟩ | h
      · exact Or.inl h
      · exact Or.inr h
  · rcases owns_shape h1 with ⟨_, h⟩ | ⟨g1, cap1, rfl⟩
    · exact absurd h h0
    · rcases owns_shape h2 with ⟨_, h⟩ | ⟨g2, cap2, rfl⟩
      · exact absurd h h0
      · exact same_some l l.length g1 cap1 g2 cap2 B1 B2 w rfl hnb h1 h2
end Go.Proofs.YtippkncnecbhlaaDoor.Lx
