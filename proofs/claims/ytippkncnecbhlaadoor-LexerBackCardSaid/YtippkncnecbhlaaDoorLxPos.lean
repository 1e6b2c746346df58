/- Plain: where the tokens of a text stand; which errors there are. -/
import Derived.Test.YtippkncnecbhlaaDoorLxTok2
namespace Go.Proofs.YtippkncnecbhlaaDoor.Lx
def Pos (s : ByteArray) (lo : Int) : List Tok → Prop
  | [] => True
  | t :: r => ∃ a : Nat, t.at_ = a ∧ lo < a ∧ (∃ h : a < s.size, blankB (s[a].toNat : Int) = false) ∧ Pos s a r
theorem scanAt_at {s : ByteArray} {i : Nat} {x : Tok} {n : Nat} (h : scanAt s i = .ok (x, n)) : x.at_ = i := by
  unfold scanAt at h
  split at h
  · unfold scanWord wordOf at h
    split at h
    · cases h; rfl
    · split at h
      · split at h
        · cases h; rfl
        · cases h
      · cases h
  · split at h
    · unfold scanNumber numOf at h
      split at h
      · cases h
      · split at h
        · cases h
        · cases h; rfl
    · split at h
      · unfold scanText textOf at h
        split at h
        · cases h
        · split at h
          · cases h
          · cases h; rfl
      · unfold scanSymbol at h
        split at h
        · cases h; rfl
        · split at h
          · split at h
            · cases h; rfl
            · cases h
          · cases h
theorem allGo_pos (s : ByteArray) (d : Nat) : ∀ (k : Nat) (acc l : List Tok) (lo : Int), lo < k → (∀ h : k < s.size, blankB (s[k].toNat : Int) = false) → allGo s d k acc = .ok l → ∃ r, l = acc ++ r ∧ Pos s lo r := by
  induction d with
  | zero => intro k acc l lo _ _ h; cases h; exact ⟨[], by simp, trivial⟩
  | succ d ih =>
    intro k acc l lo hlo hb h
    rw [allGo] at h
    by_cases hk : k < s.size
    · rw [if_pos hk] at h
      cases hs : scanAt s k with
      | error e => rw [hs] at h; cases h
      | ok p =>
        rw [hs] at h
        have hn := scanAt_next hk (x := p.1) (n := p.2) hs
        have ha := scanAt_at (x := p.1) (n := p.2) hs
        have hle := runEnd_le blankB s (s.size - p.2) p.2 rfl hn.2
        obtain ⟨r, e, hr⟩ := ih _ _ _ (k : Int) (by omega) (fun h2 => runEnd_at blankB s (s.size - p.2) p.2 rfl h2) h
        exact ⟨p.1 :: r, by rw [e]; simp, k, ha, hlo, ⟨hk, hb hk⟩, hr⟩
    · rw [if_neg hk] at h; cases h; exact ⟨[], by simp, trivial⟩
theorem lex_pos {s : ByteArray} {l : List Tok} (h : lex s = .ok l) : Pos s (-1) l := by
  unfold lex at h
  split at h
  · cases h
  · obtain ⟨r, e, hr⟩ := allGo_pos s _ _ _ _ (-1) (by omega) (fun h2 => runEnd_at blankB s (s.size - 0) 0 rfl h2) h
    rw [e]; exact hr
/-- The place of the token ahead of the i-th. -/
def prevAt (lo : Int) (l : List Tok) : Nat → Int
  | 0 => lo
  | i + 1 => match l[i]? with | some t => t.at_ | none => lo
theorem Pos.get {s : ByteArray} : ∀ {l : List Tok} {lo : Int}, Pos s lo l → ∀ (i : Nat) (h : i < l.length), ∃ a : Nat, l[i].at_ = a ∧ prevAt lo l i < a ∧ ∃ h : a < s.size, blankB (s[a].toNat : Int) = false
  | [], _, _, i, h => by simp at h
  | t :: r, lo, hp, i, h => by
    obtain ⟨a, ha, hlo, hb, hr⟩ := hp
    cases i with
    | zero => exact ⟨a, ha, hlo, hb⟩
    | succ i =>
      obtain ⟨b, h1, h2, h3⟩ := Pos.get hr i (by simpa using h)
      refine ⟨b, by simpa using h1, ?_, h3⟩
      cases i with
      | zero => simp only [prevAt, List.getElem?_cons_zero, ha] at h2 ⊢; exact h2
      | succ i =>
        simp only [prevAt, List.getElem?_cons_succ] at h2 ⊢
        have hi : i < r.length := by simp at h; omega
        rw [List.getElem?_eq_getElem hi] at h2 ⊢
        exact h2
theorem prevAt_succ (lo : Int) (l : List Tok) (i : Nat) (h : i < l.length) : prevAt lo l (i + 1) = l[i].at_ := by
  simp [prevAt, List.getElem?_eq_getElem h]
theorem scanAt_err {s : ByteArray} {i : Nat} {a c : Int} (h : scanAt s i = .error (a, c)) : c ≠ 0 := by
  unfold scanAt at h
  split at h
  · unfold scanWord wordOf at h
    split at h
    · cases h
    · split at h
      · split at h
        · cases h
        · cases h; decide
      · cases h; decide
  · split at h
    · unfold scanNumber numOf at h
      split at h
      · cases h; decide
      · split at h
        · cases h; decide
        · cases h
    · split at h
      · unfold scanText at h
        cases hg : textGo s (i + 1) [] with
        | error e =>
          rw [hg] at h
          cases h
          have key : ∀ d k acc e, s.size - k ≤ d → textGo s k acc = .error e → e ≠ 0 := by
            intro d
            induction d with
            | zero => intro k acc e hd h; rw [textGo_end (by omega)] at h; cases h; decide
            | succ d ih =>
              intro k acc e hd h
              rw [textGo] at h
              split at h
              · split at h
                · split at h
                  · split at h
                    · exact ih _ _ _ (by omega) h
                    · cases h
                  · cases h
                · split at h
                  · cases h; decide
                  · exact ih _ _ _ (by omega) h
              · cases h; decide
          exact key _ _ _ _ (Nat.le_refl _) hg
        | ok p =>
          rw [hg] at h
          unfold textOf at h
          simp only at h
          split at h
          · cases h; decide
          · cases h
      · unfold scanSymbol at h
        split at h
        · cases h
        · split at h
          · split at h
            · cases h
            · cases h; decide
          · cases h; decide
theorem lex_err {s : ByteArray} {a c : Int} (h : lex s = .error (a, c)) : c ≠ 0 := by
  unfold lex at h
  split at h
  · cases h; decide
  · have key : ∀ d k acc, allGo s d k acc = .error (a, c) → c ≠ 0 := by
      intro d
      induction d with
      | zero => intro k acc h; cases h
      | succ d ih =>
        intro k acc h
        rw [allGo] at h
        split at h
        · cases hs : scanAt s k with
          | error e => rw [hs] at h; cases h; exact scanAt_err hs
          | ok p => rw [hs] at h; exact ih _ _ h
        · cases h
    exact key _ _ _ h
theorem allGo_length (s : ByteArray) (d : Nat) : ∀ (k : Nat) (acc l : List Tok), acc.length ≤ k → k ≤ s.size → allGo s d k acc = .ok l → l.length ≤ s.size := by
  induction d with
  | zero => intro k acc l h1 h2 h; cases h; omega
  | succ d ih =>
    intro k acc l h1 h2 h
    rw [allGo] at h
    by_cases hk : k < s.size
    · rw [if_pos hk] at h
      cases hs : scanAt s k with
      | error e => rw [hs] at h; cases h
      | ok p =>
        rw [hs] at h
        have hn := scanAt_next hk (x := p.1) (n := p.2) hs
        have hle := runEnd_le blankB s (s.size - p.2) p.2 rfl hn.2
        exact ih _ _ _ (by simp; omega) hle.2 h
    · rw [if_neg hk] at h; cases h; omega
theorem lex_length {s : ByteArray} {l : List Tok} (h : lex s = .ok l) : l.length ≤ s.size ∧ s.size ≤ 65536 := by
  unfold lex at h
  split at h
  · cases h
  · exact ⟨allGo_length s _ _ _ _ (by simp) (runEnd_le blankB s (s.size - 0) 0 rfl (Nat.zero_le _)).2 h, by omega⟩
end Go.Proofs.YtippkncnecbhlaaDoor.Lx
