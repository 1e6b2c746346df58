/- Plain: tokens and what the scanner makes of a place. -/
import Derived.Test.YtippkncnecbhlaaDoorLxPlain
import Derived.Test.YtippkncnecbhlaaDoorLxSearch
import Derived.Lib.Bytealg
namespace Go.Proofs.YtippkncnecbhlaaDoor.Lx
structure Tok where
  kind : Int
  text : ByteArray
  num : Int
  at_ : Int
abbrev Scan := Except (Int × Int) (Tok × Nat)
/-- A word from i on, whose text is t and which ends at j. -/
def wordOf (t : ByteArray) (i j : Nat) : Scan :=
  if kwB t.data.toList then .ok ({ kind := 2, text := ⟨(Lib.toUpperA t.data.toList).toArray⟩, num := 0, at_ := i }, j)
  else if Lib.toLowerA t.data.toList = t.data.toList then (if t.size ≤ 24 then .ok ({ kind := 1, text := t, num := 0, at_ := i }, j) else .error (i, 5))
  else .error (i, 1)
def scanWord (s : ByteArray) (i : Nat) : Scan := wordOf (s.extract i (runEnd wordB s i)) i (runEnd wordB s i)
def byteAt (s : ByteArray) (k : Nat) : Int := if h : k < s.size then (s[k].toNat : Int) else 0
theorem byteAt_eq {s : ByteArray} {k : Nat} (h : k < s.size) : byteAt s k = (s[k].toNat : Int) := dif_pos h
def numFold (l : List UInt8) : Int := l.foldl (fun n b => min (10 * n + ((b.toNat : Int) - 48)) 1125899906842625) 0
theorem numFold_snoc (l : List UInt8) (b : UInt8) : numFold (l ++ [b]) = min (10 * numFold l + ((b.toNat : Int) - 48)) 1125899906842625 := by
  unfold numFold; rw [List.foldl_append]; rfl
theorem numFold_bd (l : List UInt8) (h : ∀ b ∈ l, 48 ≤ b.toNat) : 0 ≤ numFold l ∧ numFold l ≤ 1125899906842625 := by
  have key : ∀ (l : List UInt8) (n : Int), (∀ b ∈ l, 48 ≤ b.toNat) → 0 ≤ n → n ≤ 1125899906842625 →
      0 ≤ l.foldl (fun n b => min (10 * n + ((b.toNat : Int) - 48)) 1125899906842625) n ∧ l.foldl (fun n b => min (10 * n + ((b.toNat : Int) - 48)) 1125899906842625) n ≤ 1125899906842625 := by
    intro l
    induction l with
    | nil => intro n _ h0 h1; exact ⟨h0, h1⟩
    | cons b l ih =>
      intro n hl h0 h1
      rw [List.foldl_cons]
      have hb := hl b (by simp)
      exact ih _ (fun c hc => hl c (by simp [hc])) (by omega) (by omega)
  exact key l 0 h (by omega) (by omega)
theorem toList_get (t : ByteArray) (q : Nat) (h : q < t.data.toList.length) : t.data.toList[q] = t[q]'(by simpa using h) := by simp; rfl
theorem take_snoc (s : ByteArray) (k : Nat) (h : k < s.size) : s.data.toList.take (k + 1) = s.data.toList.take k ++ [s[k]] := by
  rw [List.take_succ_eq_append_getElem (by simpa using h)]; rfl
theorem take_all (s : ByteArray) : s.data.toList.take s.size = s.data.toList := List.take_of_length_le (by simp)
def numBad (s : ByteArray) (i j : Nat) : Bool := (decide (1 < j - i) && byteAt s i == 48) || (decide (j < s.size) && letterB (byteAt s j))
def numOf (bad : Bool) (n : Int) (i j : Nat) : Scan :=
  if bad then .error (i, 1) else if 1125899906842624 < n then .error (i, 6) else .ok ({ kind := 3, text := ⟨#[]⟩, num := n, at_ := i }, j)
def scanNumber (s : ByteArray) (i : Nat) : Scan :=
  numOf (numBad s i (runEnd digitB s i)) (numFold (s.extract i (runEnd digitB s i)).data.toList) i (runEnd digitB s i)
/-- What is read of a text literal from place k on, behind what has been read. -/
def textGo (s : ByteArray) (k : Nat) (acc : List UInt8) : Except Int (List UInt8 × Nat) :=
  if h : k < s.size then
    if s[k].toNat = 39 then
      (if h1 : k + 1 < s.size then (if s[k + 1].toNat = 39 then textGo s (k + 2) (acc ++ [s[k]]) else .ok (acc, k + 1)) else .ok (acc, k + 1))
    else if s[k].toNat < 32 ∨ 126 < s[k].toNat then .error 1
    else textGo s (k + 1) (acc ++ [s[k]])
  else .error 2
  termination_by s.size - k
def textOf (i : Nat) : Except Int (List UInt8 × Nat) → Scan
  | .error c => .error (i, c)
  | .ok (l, j) => if 200 < l.length then .error (i, 5) else .ok ({ kind := 4, text := ⟨l.toArray⟩, num := 0, at_ := i }, j)
def scanText (s : ByteArray) (i : Nat) : Scan := textOf i (textGo s (i + 1) [])
theorem textGo_end {s : ByteArray} {k : Nat} (h : ¬ k < s.size) (acc : List UInt8) : textGo s k acc = .error 2 := by
  rw [textGo, dif_neg h]
theorem textGo_quote {s : ByteArray} {k : Nat} (h : k < s.size) (hq : s[k].toNat = 39) (h1 : k + 1 < s.size) (hq1 : s[k + 1].toNat = 39) (acc : List UInt8) :
    textGo s k acc = textGo s (k + 2) (acc ++ [s[k]]) := by
  rw [textGo, dif_pos h, if_pos hq, dif_pos h1, if_pos hq1]
theorem textGo_done {s : ByteArray} {k : Nat} (h : k < s.size) (hq : s[k].toNat = 39) (h1 : ¬ ∃ h1 : k + 1 < s.size, s[k + 1].toNat = 39) (acc : List UInt8) :
    textGo s k acc = .ok (acc, k + 1) := by
  rw [textGo, dif_pos h, if_pos hq]
  by_cases h2 : k + 1 < s.size
  · rw [dif_pos h2, if_neg (fun e => h1 ⟨h2, e⟩)]
  · rw [dif_neg h2]
theorem textGo_bad {s : ByteArray} {k : Nat} (h : k < s.size) (hq : ¬ s[k].toNat = 39) (hb : s[k].toNat < 32 ∨ 126 < s[k].toNat) (acc : List UInt8) : textGo s k acc = .error 1 := by
  rw [textGo, dif_pos h, if_neg hq, if_pos hb]
theorem textGo_byte {s : ByteArray} {k : Nat} (h : k < s.size) (hq : ¬ s[k].toNat = 39) (hb : ¬ (s[k].toNat < 32 ∨ 126 < s[k].toNat)) (acc : List UInt8) :
    textGo s k acc = textGo s (k + 1) (acc ++ [s[k]]) := by
  rw [textGo, dif_pos h, if_neg hq, if_neg hb]
def symL : List UInt8 := [40, 41, 44, 46, 59, 42, 61, 60, 62, 43, 45, 47, 37]
def oneB (b : UInt8) : Bool := decide (0 ≤ Lib.indexByte symL b)
def twoB (u : List UInt8) : Bool := u == [60, 62] || u == [60, 61] || u == [62, 61] || u == [124, 124]
def scanSymbol (s : ByteArray) (i : Nat) : Scan :=
  if i + 2 ≤ s.size ∧ twoB (s.extract i (i + 2)).toList = true then .ok ({ kind := 5, text := s.extract i (i + 2), num := 0, at_ := i }, i + 2)
  else if h : i < s.size then (if oneB s[i] then .ok ({ kind := 5, text := s.extract i (i + 1), num := 0, at_ := i }, i + 1) else .error (i, 1))
  else .error (i, 1)
end Go.Proofs.YtippkncnecbhlaaDoor.Lx
