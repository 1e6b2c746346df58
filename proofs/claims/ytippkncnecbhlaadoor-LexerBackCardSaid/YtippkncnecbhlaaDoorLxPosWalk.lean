/- The walk of the law LexerPositions. -/
import Derived.Test.YtippkncnecbhlaaDoorLxAwake
import Derived.Test.YtippkncnecbhlaaDoorLxPos
namespace Go.Proofs.YtippkncnecbhlaaDoor.Lx
open Go.RowKit
/-- A cell of a token in a row of tokens. -/
theorem flat_cell (l : List Tok) : ∀ (k j : Nat) (h : k < l.length), j < 4 → (l.flatMap Tok.cells)[k * 4 + j]? = (l[k]).cells[j]? := by
  induction l with
  | nil => intro k j h; simp at h
  | cons t r ih =>
    intro k j h hj
    rw [List.flatMap_cons]
    have ht : t.cells.length = 4 := rfl
    cases k with
    | zero => rw [List.getElem?_append_left (by omega)]; simp
    | succ k =>
      rw [List.getElem?_append_right (by omega), show (k + 1) * 4 + j - t.cells.length = k * 4 + j from by omega]
      simpa using ih k j (by simpa using h) hj
theorem row_at {w : World} {B g n cap : Nat} {l : List Tok} (h : w.ownsRow B 30 4 (.slice (some ⟨g, 0, none⟩) n cap) n (l.flatMap Tok.cells)) (hl : l.length = n) (k : Nat) (hk : k < l.length) :
    w.cell? ⟨g, k * 4, none⟩ = some (.int .i64 l[k].kind) ∧ w.cell? ⟨g, k * 4 + 1, none⟩ = some (.string l[k].text) ∧ w.cell? ⟨g, k * 4 + 2, none⟩ = some (.int .i64 l[k].num) ∧ w.cell? ⟨g, k * 4 + 3, none⟩ = some (.int .i64 l[k].at_) := by
  refine ⟨?_, ?_, ?_, ?_⟩
  · rw [h.cellAt (k * 4) (by omega)]; exact flat_cell l k 0 hk (by omega)
  · rw [h.cellAt (k * 4 + 1) (by omega)]; exact flat_cell l k 1 hk (by omega)
  · rw [h.cellAt (k * 4 + 2) (by omega)]; exact flat_cell l k 2 hk (by omega)
  · rw [h.cellAt (k * 4 + 3) (by omega)]; exact flat_cell l k 3 hk (by omega)
theorem owns_shape {w : World} {B : Nat} {e : TypeId} {size : Nat} {v : Value} {n : Nat} {xs : List Value} (h : w.ownsRow B e size v n xs) : (v = .slice none 0 0 ∧ n = 0) ∨ ∃ g cap, v = .slice (some ⟨g, 0, none⟩) n cap := by
  rcases h.2 with h1 | ⟨g, cap, cur, h1, _⟩
  · exact Or.inl h1
  · exact Or.inr ⟨g, cap, h1⟩
set_option maxRecDepth 100000 in
set_option maxHeartbeats 4000000 in
theorem positions_bad (s : ByteArray) (w : World) (h : Tab w) (a c : Int) (hl : lex s = .error (a, c)) : Calls Tryd.prog 4 #[.string s] w (TruePost w) := by
  have HT := Lib.hid h
  have hc : (c != 0) = true := by simpa using lex_err hl
  have HL := Lib.hid hl
  clear h hl
  go_enter Tryd.func4, Tryd.ntmps4
  go_wp2_with fail
  refine (tokens_any s w HT.out).mono ?_
  rw [HL.out]
  rintro e w1 ⟨hk1, rfl⟩
  go_wp2_with fail
  refine (awake_any w1 (HT.out.keep hk1 (by simp))).mono ?_
  rintro e w2 ⟨rfl, hk2⟩
  go_wp2_with fail
  go_ret
  exact ⟨rfl, hk1.trans hk2⟩
set_option maxRecDepth 100000 in
set_option maxHeartbeats 4000000 in
theorem positions_ok (s : ByteArray) (w : World) (h : Tab w) (l : List Tok) (hl : lex s = .ok l) : Calls Tryd.prog 4 #[.string s] w (TruePost w) := by
  have HT := Lib.hid h
  have HP := Lib.hid (lex_pos hl)
  have hlen := lex_length hl
  have HL := Lib.hid hl
  clear h hl
  go_enter Tryd.func4, Tryd.ntmps4
  go_wp2_with fail
  refine (tokens_any s w HT.out).mono ?_
  rw [HL.out]
  rintro e w1 ⟨hk1, v, rfl, hown⟩
  rcases owns_shape hown with ⟨rfl, h0⟩ | ⟨g, cap, rfl⟩
  · have HO := Lib.hid hown
    clear hown
    go_wp2_with fail
    go_loop [19] (fun c => c = .int .i64 0) (fun _ => 0)
    case atStart => rfl
    case round =>
      obtain rfl := hrel
      go_wp2_with fail
      refine (awake_any w1 (HT.out.keep hk1 (by simp))).mono ?_
      rintro e w2 ⟨rfl, hk2⟩
      go_wp2_with fail
      go_ret
      exact ⟨rfl, hk1.trans hk2⟩
  · have HO := Lib.hid hown
    clear hown
    obtain ⟨n, hn⟩ : ∃ n, l.length = n := ⟨_, rfl⟩
    have HN := Lib.hid hn
    rw [hn] at HO hlen ⊢
    clear hn
    go_wp2_with fail
    go_loop [6, 19] (fun p c => ∃ k : Nat, k ≤ n ∧ c = .int .i64 k ∧ p = .int .i64 (prevAt (-1) l k)) (fun _ c => n - (intOf c).toNat)
    case atStart => exact ⟨0, Nat.zero_le _, rfl, rfl⟩
    case round =>
      obtain ⟨k, hk, rfl, rfl⟩ := hrel
      by_cases hlt : k < n
      · have hkl : k < l.length := by rw [HN.out]; exact hlt
        obtain ⟨a, h1, h2, h3, h4⟩ := Pos.get HP.out k hkl
        obtain ⟨q0, q1, q2, q3⟩ := row_at HO.out HN.out k hkl
        rw [h1] at q3
        have hps := prevAt_succ (-1) l k hkl
        rw [h1] at hps
        have HPS := Lib.hid hps
        obtain ⟨p, hp⟩ : ∃ p, prevAt (-1) l k = p := ⟨_, rfl⟩
        rw [hp] at h2 ⊢
        clear h1 hp hps q0 q1 q2
        have g1 : decide ((a : Int) ≤ p) = false := by simp; omega
        have g2 : decide (s.size ≤ a) = false := by simp; omega
        have H4 := Lib.hid h4
        clear h4
        go_wp2_with fail
        refine (refBlank_any _ _).mono ?_
        rintro e w2 ⟨rfl, rfl⟩
        rw [H4.out]
        go_wp2_with fail
        go_round
        case rel => exact ⟨k + 1, by omega, by go_num, by rw [HPS.out]⟩
        case measure => simp [intOf]; omega
      · go_wp2_with fail
        refine (awake_any w1 (HT.out.keep hk1 (by simp))).mono ?_
        rintro e w2 ⟨rfl, hk2⟩
        go_wp2_with fail
        go_ret
        exact ⟨rfl, hk1.trans hk2⟩
theorem positions_any (s : ByteArray) (w : World) (h : Tab w) : Calls Tryd.prog 4 #[.string s] w (TruePost w) := by
  cases hl : lex s with
  | error p => exact positions_bad s w h p.1 p.2 hl
  | ok l => exact positions_ok s w h l hl
end Go.Proofs.YtippkncnecbhlaaDoor.Lx
