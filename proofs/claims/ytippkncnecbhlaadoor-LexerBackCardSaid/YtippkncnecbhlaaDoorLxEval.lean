/- Plain: the tokens of three closed texts, reckoned by the kernel over a form with bounded rounds. -/
import Derived.Test.YtippkncnecbhlaaDoorLxTok2
import Derived.KernelRfl
namespace Go.Proofs.YtippkncnecbhlaaDoor.Lx
def runF (p : Int → Bool) (s : ByteArray) : Nat → Nat → Nat
  | 0, i => i
  | d + 1, i => if h : i < s.size then (if p (s[i].toNat : Int) then runF p s d (i + 1) else i) else i
theorem runF_eq (p : Int → Bool) (s : ByteArray) (d : Nat) : ∀ i, s.size - i ≤ d → runEnd p s i = runF p s d i := by
  induction d with
  | zero => intro i h; rw [runEnd_end (by omega)]; rfl
  | succ d ih =>
    intro i h
    rw [runEnd, runF]
    by_cases hi : i < s.size
    · rw [dif_pos hi, dif_pos hi]
      split
      · exact ih _ (by omega)
      · rfl
    · rw [dif_neg hi, dif_neg hi]
def textF (s : ByteArray) : Nat → Nat → List UInt8 → Except Int (List UInt8 × Nat)
  | 0, _, _ => .error 2
  | d + 1, k, acc =>
    if h : k < s.size then
      if s[k].toNat = 39 then
        (if h1 : k + 1 < s.size then (if s[k + 1].toNat = 39 then textF s d (k + 2) (acc ++ [s[k]]) else .ok (acc, k + 1)) else .ok (acc, k + 1))
      else if s[k].toNat < 32 ∨ 126 < s[k].toNat then .error 1
      else textF s d (k + 1) (acc ++ [s[k]])
    else .error 2
theorem textF_eq (s : ByteArray) (d : Nat) : ∀ k acc, s.size - k ≤ d → textGo s k acc = textF s d k acc := by
  induction d with
  | zero => intro k acc h; rw [textGo_end (by omega)]; rfl
  | succ d ih =>
    intro k acc h
    rw [textGo, textF]
    by_cases hk : k < s.size
    · rw [dif_pos hk, dif_pos hk]
      split
      · by_cases h1 : k + 1 < s.size
        · rw [dif_pos h1, dif_pos h1]
          split
          · exact ih _ _ (by omega)
          · rfl
        · rw [dif_neg h1, dif_neg h1]
      · split
        · rfl
        · exact ih _ _ (by omega)
    · rw [dif_neg hk, dif_neg hk]
def scanF (s : ByteArray) (i : Nat) : Scan :=
  if letterB (byteAt s i) then wordOf (s.extract i (runF wordB s s.size i)) i (runF wordB s s.size i)
  else if digitB (byteAt s i) then numOf (numBad s i (runF digitB s s.size i)) (numFold (s.extract i (runF digitB s s.size i)).data.toList) i (runF digitB s s.size i)
  else if byteAt s i = 39 then textOf i (textF s s.size (i + 1) []) else scanSymbol s i
theorem scanF_eq (s : ByteArray) (i : Nat) : scanAt s i = scanF s i := by
  unfold scanAt scanF scanWord scanNumber scanText
  rw [runF_eq wordB s s.size i (by omega), runF_eq digitB s s.size i (by omega), textF_eq s s.size (i + 1) [] (by omega)]
def allF (s : ByteArray) : Nat → Nat → List Tok → Except (Int × Int) (List Tok)
  | 0, _, acc => .ok acc
  | d + 1, k, acc => if k < s.size then (match scanF s k with | .error e => .error e | .ok p => allF s d (runF blankB s s.size p.2) (acc ++ [p.1])) else .ok acc
theorem allF_eq (s : ByteArray) (d : Nat) : ∀ k acc, allGo s d k acc = allF s d k acc := by
  induction d with
  | zero => intro k acc; rfl
  | succ d ih =>
    intro k acc
    rw [allGo, allF, scanF_eq]
    by_cases hk : k < s.size
    · rw [if_pos hk, if_pos hk]
      cases scanF s k with
      | error e => rfl
      | ok p =>
        show allGo s d (runEnd blankB s p.2) (acc ++ [p.1]) = allF s d (runF blankB s s.size p.2) (acc ++ [p.1])
        rw [runF_eq blankB s s.size _ (by omega)]; exact ih _ _
    · rw [if_neg hk, if_neg hk]
theorem allToks_eq (s : ByteArray) : allToks s = allF s (s.size + 1) (runF blankB s s.size 0) [] := by
  unfold allToks
  rw [allF_eq, runF_eq blankB s s.size 0 (by omega)]
def txt1 : ByteArray := ⟨#[115, 101, 108, 101, 99, 116, 32, 97, 60, 62, 39, 105, 116, 39, 39, 115, 39]⟩
def txt2 : ByteArray := ⟨#[97, 32, 66, 99]⟩
def txt3 : ByteArray := ⟨#[39, 97]⟩
def toks1 : List Tok := [⟨2, ⟨#[83, 69, 76, 69, 67, 84]⟩, 0, 0⟩, ⟨1, ⟨#[97]⟩, 0, 7⟩, ⟨5, ⟨#[60, 62]⟩, 0, 8⟩, ⟨4, ⟨#[105, 116, 39, 115]⟩, 0, 10⟩]
theorem lex1 : lex txt1 = .ok toks1 := by
  rw [lex, if_neg (by decide), allToks_eq]
  kernel_rfl
theorem lex2 : lex txt2 = .error (2, 1) := by
  rw [lex, if_neg (by decide), allToks_eq]
  kernel_rfl
theorem lex3 : lex txt3 = .error (0, 2) := by
  rw [lex, if_neg (by decide), allToks_eq]
  kernel_rfl
end Go.Proofs.YtippkncnecbhlaaDoor.Lx
