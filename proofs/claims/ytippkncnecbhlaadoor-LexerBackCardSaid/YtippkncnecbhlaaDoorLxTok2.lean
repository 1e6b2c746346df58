/- Plain: all tokens of a text. -/
import Derived.Test.YtippkncnecbhlaaDoorLxTok
namespace Go.Proofs.YtippkncnecbhlaaDoor.Lx
/-- The token that begins at place i. -/
def scanAt (s : ByteArray) (i : Nat) : Scan :=
  if letterB (byteAt s i) then scanWord s i else if digitB (byteAt s i) then scanNumber s i else if byteAt s i = 39 then scanText s i else scanSymbol s i
/-- All tokens from place k on, behind those that have been read; d rounds at most. -/
def allGo (s : ByteArray) : Nat → Nat → List Tok → Except (Int × Int) (List Tok)
  | 0, _, acc => .ok acc
  | d + 1, k, acc => if k < s.size then (match scanAt s k with | .error e => .error e | .ok p => allGo s d (runEnd blankB s p.2) (acc ++ [p.1])) else .ok acc
def allToks (s : ByteArray) : Except (Int × Int) (List Tok) := allGo s (s.size + 1) (runEnd blankB s 0) []
/-- What Tokens comes to. -/
def lex (s : ByteArray) : Except (Int × Int) (List Tok) := if 65536 < s.size then .error (0, 5) else allToks s
theorem wordOf_next {t : ByteArray} {i j : Nat} {x : Tok} {n : Nat} (h : wordOf t i j = .ok (x, n)) : n = j := by
  unfold wordOf at h
  split at h
  · cases h; rfl
  · split at h
    · split at h
      · cases h; rfl
      · cases h
    · cases h
theorem numOf_next {b : Bool} {m : Int} {i j : Nat} {x : Tok} {n : Nat} (h : numOf b m i j = .ok (x, n)) : n = j := by
  unfold numOf at h
  split at h
  · cases h
  · split at h
    · cases h
    · cases h; rfl
theorem textGo_next (s : ByteArray) (d : Nat) : ∀ k acc l j, s.size - k ≤ d → textGo s k acc = .ok (l, j) → k < j ∧ j ≤ s.size := by
  induction d with
  | zero =>
    intro k acc l j hd h
    rw [textGo_end (by omega)] at h; cases h
  | succ d ih =>
    intro k acc l j hd h
    rw [textGo] at h
    split at h
    · rename_i hk
      split at h
      · split at h
        · rename_i hk1
          split at h
          · have := ih _ _ _ _ (by omega) h; omega
          · cases h; omega
        · cases h; omega
      · split at h
        · cases h
        · have := ih _ _ _ _ (by omega) h; omega
    · cases h
theorem scanAt_next {s : ByteArray} {i : Nat} (hi : i < s.size) {x : Tok} {n : Nat} (h : scanAt s i = .ok (x, n)) : i < n ∧ n ≤ s.size := by
  unfold scanAt at h
  rw [byteAt_eq hi] at h
  split at h
  · rename_i hc
    rw [wordOf_next h]
    have hw : wordB (s[i].toNat : Int) = true := by simp [wordB, hc]
    rw [runEnd_step hi hw]
    have := runEnd_le wordB s (s.size - (i + 1)) (i + 1) rfl (by omega)
    omega
  · split at h
    · rename_i hc
      rw [numOf_next h, runEnd_step hi hc]
      have := runEnd_le digitB s (s.size - (i + 1)) (i + 1) rfl (by omega)
      omega
    · split at h
      · unfold scanText textOf at h
        split at h
        · cases h
        · rename_i l j hg
          split at h
          · cases h
          · cases h
            have := textGo_next s (s.size - (i + 1)) _ _ _ _ (Nat.le_refl _) hg
            omega
      · unfold scanSymbol at h
        split at h
        · rename_i hc; cases h; omega
        · skip
          split at h
          · cases h; omega
          · cases h
end Go.Proofs.YtippkncnecbhlaaDoor.Lx
