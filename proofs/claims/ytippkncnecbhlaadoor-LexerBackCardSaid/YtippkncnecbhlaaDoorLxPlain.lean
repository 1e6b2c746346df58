/- Plain words of the lexer: classes of bytes, runs of a class. -/
namespace Go.Proofs.YtippkncnecbhlaaDoor.Lx
def letterB (c : Int) : Bool := decide (97 ≤ c ∧ c ≤ 122 ∨ 65 ≤ c ∧ c ≤ 90 ∨ c = 95)
def digitB (c : Int) : Bool := decide (48 ≤ c ∧ c ≤ 57)
def blankB (c : Int) : Bool := decide (c = 32 ∨ c = 9 ∨ c = 10)
def wordB (c : Int) : Bool := letterB c || digitB c
/-- The first place from i on at which no byte of the class stands. -/
def runEnd (p : Int → Bool) (s : ByteArray) (i : Nat) : Nat :=
  if h : i < s.size then (if p (s[i].toNat : Int) then runEnd p s (i + 1) else i) else i
  termination_by s.size - i
theorem runEnd_step {p : Int → Bool} {s : ByteArray} {i : Nat} (h : i < s.size) (hp : p (s[i].toNat : Int) = true) : runEnd p s i = runEnd p s (i + 1) := by
  rw [runEnd, dif_pos h, if_pos hp]
theorem runEnd_stop {p : Int → Bool} {s : ByteArray} {i : Nat} (h : i < s.size) (hp : p (s[i].toNat : Int) = false) : runEnd p s i = i := by
  rw [runEnd, dif_pos h, if_neg (by simp [hp])]
theorem runEnd_end {p : Int → Bool} {s : ByteArray} {i : Nat} (h : ¬ i < s.size) : runEnd p s i = i := by
  rw [runEnd, dif_neg h]
theorem runEnd_le (p : Int → Bool) (s : ByteArray) (d : Nat) : ∀ i, s.size - i = d → i ≤ s.size → i ≤ runEnd p s i ∧ runEnd p s i ≤ s.size := by
  induction d with
  | zero => intro i hd hi; rw [runEnd_end (by omega)]; omega
  | succ d ih =>
    intro i hd hi
    have h : i < s.size := by omega
    cases hp : p (s[i].toNat : Int) with
    | true => rw [runEnd_step h hp]; have := ih (i + 1) (by omega) (by omega); omega
    | false => rw [runEnd_stop h hp]; omega
theorem runEnd_all (p : Int → Bool) (s : ByteArray) (d : Nat) : ∀ i, s.size - i = d → ∀ j (_ : i ≤ j) (_ : j < runEnd p s i) (hj : j < s.size), p (s[j].toNat : Int) = true := by
  induction d with
  | zero => intro i hd j h1 h2 h3; rw [runEnd_end (by omega)] at h2; omega
  | succ d ih =>
    intro i hd j h1 h2 h3
    have h : i < s.size := by omega
    cases hp : p (s[i].toNat : Int) with
    | true =>
      rw [runEnd_step h hp] at h2
      by_cases e : j = i
      · subst e; exact hp
      · exact ih (i + 1) (by omega) j (by omega) h2 h3
    | false => rw [runEnd_stop h hp] at h2; omega
theorem runEnd_at (p : Int → Bool) (s : ByteArray) (d : Nat) : ∀ i, s.size - i = d → ∀ (hj : runEnd p s i < s.size), p (s[runEnd p s i].toNat : Int) = false := by
  induction d with
  | zero => intro i hd hj; rw [runEnd_end (by omega)] at hj; omega
  | succ d ih =>
    intro i hd hj
    have h : i < s.size := by omega
    cases hp : p (s[i].toNat : Int) with
    | true =>
      have e := runEnd_step h hp
      have := ih (i + 1) (by omega) (by omega)
      simpa only [e] using this
    | false =>
      have e := runEnd_stop h hp
      simpa only [e] using hp
end Go.Proofs.YtippkncnecbhlaaDoor.Lx
