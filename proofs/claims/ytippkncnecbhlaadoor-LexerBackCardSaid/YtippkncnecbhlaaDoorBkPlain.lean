/- Plain: tokens written out are read again. -/
import Derived.Test.YtippkncnecbhlaaDoorLxPos
import Derived.Lib.ItoaNum
import Derived.Lib.Replace
import Derived.Lib.Join
namespace Go.Proofs.YtippkncnecbhlaaDoor.Lx
theorem ofNat_lt {n : Nat} (h : n < 256) : (UInt8.ofNat n).toNat = n := by
  rw [UInt8.toNat_ofNat']; omega
def dq (l : List UInt8) : List UInt8 := l.flatMap (fun b => if b = 39 then [39, 39] else [b])
theorem dq_cons (b : UInt8) (l : List UInt8) : dq (b :: l) = (if b = 39 then [39, 39] else [b]) ++ dq l := by simp [dq]
theorem replK_dq : ∀ s : List UInt8, Lib.replaceK [39] [39, 39] (s.count 39) s = dq s
  | [] => rfl
  | b :: l => by
    have ih := replK_dq l
    rw [dq_cons]
    by_cases hb : b = 39
    · subst hb
      rw [List.count_cons_self, Lib.replaceK_hit [39] [39, 39] (l.count 39) (39 :: l) 0 (by rfl)]
      simp [ih]
    · rw [List.count_cons_of_ne hb, if_neg hb]
      cases hk : l.count 39 with
      | zero => rw [hk] at ih; rw [← ih]; rfl
      | succ k =>
        obtain ⟨i, hi⟩ := Lib.index_of_count (s := l) (old := [39]) (by rw [Lib.count_one]; omega)
        have h2 : Lib.index (b :: l) [39] = ((i + 1 : Nat) : Int) := by
          have h3 : ((i : Int) == -1) = false := by simp
          have h4 : ([39] : List UInt8).isPrefixOf (b :: l) = false := by simp [List.isPrefixOf, Ne.symm hb]
          unfold Lib.index
          rw [h4, hi, h3]
          rfl
        rw [Lib.replaceK_hit _ _ k _ _ h2]
        rw [hk, Lib.replaceK_hit _ _ k _ _ hi] at ih
        rw [← ih]
        simp
theorem repl_dq (s : List UInt8) : Lib.replaceAll s [39] [39, 39] = dq s := by
  unfold Lib.replaceAll Lib.replace Lib.replaceNum
  rw [if_neg (by decide), if_pos (Or.inl (by decide)), Lib.count_one, replK_dq]
def Tok.show (t : Tok) : List UInt8 :=
  if t.kind = 3 then Lib.itoa t.num else if t.kind = 4 then 39 :: (dq t.text.data.toList ++ [39]) else t.text.data.toList
def Wordy (l : List UInt8) : Prop := (∃ b r, l = b :: r ∧ letterB (b.toNat : Int) = true) ∧ ∀ b ∈ l, wordB (b.toNat : Int) = true
def Val (t : Tok) : Prop :=
  (t.kind = 1 ∧ t.num = 0 ∧ Wordy t.text.data.toList ∧ kwB t.text.data.toList = false ∧ Lib.toLowerA t.text.data.toList = t.text.data.toList ∧ t.text.size ≤ 24) ∨
  (t.kind = 2 ∧ t.num = 0 ∧ Wordy t.text.data.toList ∧ kwB t.text.data.toList = true ∧ Lib.toUpperA t.text.data.toList = t.text.data.toList) ∨
  (t.kind = 3 ∧ t.text = ⟨#[]⟩ ∧ 0 ≤ t.num ∧ t.num ≤ 1125899906842624) ∨
  (t.kind = 4 ∧ t.num = 0 ∧ t.text.size ≤ 200 ∧ ∀ b ∈ t.text.data.toList, 32 ≤ b.toNat ∧ b.toNat ≤ 126) ∨
  (t.kind = 5 ∧ t.num = 0 ∧ ((∃ b, t.text.data.toList = [b] ∧ oneB b = true) ∨ twoB t.text.data.toList = true))
theorem ext_list (s : ByteArray) (i j : Nat) : (s.extract i j).data.toList = (s.data.toList.take j).drop i := by
  rw [ByteArray.data_extract, Array.toList_extract, List.extract_eq_take_drop, List.drop_take]
theorem mem_ext {s : ByteArray} {i j : Nat} {b : UInt8} (h : b ∈ (s.extract i j).data.toList) : ∃ k, i ≤ k ∧ k < j ∧ ∃ hk : k < s.size, s[k] = b := by
  rw [ext_list, List.mem_iff_getElem] at h
  obtain ⟨q, hq, e⟩ := h
  simp only [List.length_drop, List.length_take] at hq
  have hs : s.data.toList.length = s.size := by simp
  refine ⟨i + q, by omega, by omega, by omega, ?_⟩
  rw [List.getElem_drop, List.getElem_take, toList_get] at e
  exact e
theorem ext_cons {s : ByteArray} {i j : Nat} (h1 : i < j) (h2 : i < s.size) : ∃ r, (s.extract i j).data.toList = s[i] :: r := by
  have hs : s.data.toList.length = s.size := by simp
  rw [ext_list, List.drop_eq_getElem_cons (by simp only [List.length_take]; omega), List.getElem_take, toList_get]
  exact ⟨_, rfl⟩
theorem up_class (b : UInt8) : letterB ((Lib.upperB b).toNat : Int) = letterB (b.toNat : Int) ∧ wordB ((Lib.upperB b).toNat : Int) = wordB (b.toNat : Int) ∧ Lib.upperB (Lib.upperB b) = Lib.upperB b := by
  have h1 : b.toNat < 256 := b.toNat_lt
  have key : ∀ n : Fin 256, letterB ((Lib.upperB (UInt8.ofNat n.val)).toNat : Int) = letterB ((UInt8.ofNat n.val).toNat : Int) ∧ wordB ((Lib.upperB (UInt8.ofNat n.val)).toNat : Int) = wordB ((UInt8.ofNat n.val).toNat : Int) ∧ Lib.upperB (Lib.upperB (UInt8.ofNat n.val)) = Lib.upperB (UInt8.ofNat n.val) := by decide +kernel
  have := key ⟨b.toNat, h1⟩
  simpa using this
theorem up_up (l : List UInt8) : Lib.toUpperA (Lib.toUpperA l) = Lib.toUpperA l := by
  unfold Lib.toUpperA
  rw [List.map_map]
  exact List.map_congr_left (fun b _ => (up_class b).2.2)
theorem kw_up (l : List UInt8) : kwB (Lib.toUpperA l) = kwB l := by
  unfold kwB; rw [up_up]
theorem wordy_up {l : List UInt8} (h : Wordy l) : Wordy (Lib.toUpperA l) := by
  obtain ⟨⟨b, r, rfl, hb⟩, ha⟩ := h
  refine ⟨⟨Lib.upperB b, r.map Lib.upperB, rfl, by rw [(up_class b).1]; exact hb⟩, ?_⟩
  intro c hc
  obtain ⟨d, hd, rfl⟩ := List.mem_map.1 hc
  rw [(up_class d).2.1]; exact ha d hd
theorem textGo_val (s : ByteArray) (d : Nat) : ∀ k acc l j, s.size - k ≤ d → (∀ b ∈ acc, 32 ≤ b.toNat ∧ b.toNat ≤ 126) → textGo s k acc = .ok (l, j) → ∀ b ∈ l, 32 ≤ b.toNat ∧ b.toNat ≤ 126 := by
  induction d with
  | zero => intro k acc l j hd _ h; rw [textGo_end (by omega)] at h; cases h
  | succ d ih =>
    intro k acc l j hd ha h
    have snoc : ∀ c : UInt8, (32 ≤ c.toNat ∧ c.toNat ≤ 126) → ∀ b ∈ acc ++ [c], 32 ≤ b.toNat ∧ b.toNat ≤ 126 := by
      intro c hc b hb
      rcases List.mem_append.1 hb with h1 | h1
      · exact ha b h1
      · rw [List.mem_singleton.1 h1]; exact hc
    rw [textGo] at h
    split at h
    · rename_i hk
      split at h
      · rename_i hq
        split at h
        · split at h
          · exact ih _ _ _ _ (by omega) (snoc _ (by omega)) h
          · cases h; exact ha
        · cases h; exact ha
      · split at h
        · cases h
        · rename_i hq hb
          exact ih _ _ _ _ (by omega) (snoc _ (by omega)) h
    · cases h
theorem wordy_scan {s : ByteArray} {i : Nat} (hi : i < s.size) (hc : letterB (s[i].toNat : Int) = true) : Wordy (s.extract i (runEnd wordB s i)).data.toList := by
  have hw : wordB (s[i].toNat : Int) = true := by simp [wordB, hc]
  have hle := runEnd_le wordB s (s.size - (i + 1)) (i + 1) rfl (by omega)
  have e := runEnd_step hi hw
  obtain ⟨r, hr⟩ := ext_cons (s := s) (i := i) (j := runEnd wordB s i) (by omega) hi
  refine ⟨⟨s[i], r, hr, hc⟩, ?_⟩
  intro b hb
  obtain ⟨k, h1, h2, h3, rfl⟩ := mem_ext hb
  exact runEnd_all wordB s (s.size - i) i rfl k h1 h2 h3
theorem scanAt_val {s : ByteArray} {i : Nat} (hi : i < s.size) {x : Tok} {n : Nat} (h : scanAt s i = .ok (x, n)) : Val x := by
  unfold scanAt at h
  rw [byteAt_eq hi] at h
  split at h
  · rename_i hc
    have hw := wordy_scan hi hc
    unfold scanWord wordOf at h
    split at h
    · rename_i hk
      cases h
      exact Or.inr (Or.inl ⟨rfl, rfl, wordy_up hw, by show kwB (Lib.toUpperA _) = true; rw [kw_up]; exact hk, up_up _⟩)
    · rename_i hk
      split at h
      · rename_i hl
        split at h
        · rename_i h24
          cases h
          exact Or.inl ⟨rfl, rfl, hw, by simpa using hk, hl, h24⟩
        · cases h
      · cases h
  · split at h
    · rename_i hc
      unfold scanNumber numOf at h
      split at h
      · cases h
      · split at h
        · cases h
        · rename_i hb hm
          cases h
          have hd : ∀ b ∈ (s.extract i (runEnd digitB s i)).data.toList, 48 ≤ b.toNat := by
            intro b hb
            obtain ⟨k, h1, h2, h3, rfl⟩ := mem_ext hb
            have := runEnd_all digitB s (s.size - i) i rfl k h1 h2 h3
            simp [digitB] at this; omega
          have := numFold_bd _ hd
          exact Or.inr (Or.inr (Or.inl ⟨rfl, rfl, this.1, by show numFold _ ≤ _; omega⟩))
    · split at h
      · unfold scanText textOf at h
        split at h
        · cases h
        · rename_i l j hg
          split at h
          · cases h
          · rename_i hl
            cases h
            refine Or.inr (Or.inr (Or.inr (Or.inl ⟨rfl, rfl, Nat.not_lt.1 hl, ?_⟩)))
            exact textGo_val s _ _ [] l _ (Nat.le_refl _) (by simp) hg
      · unfold scanSymbol at h
        split at h
        · rename_i hc; cases h
          refine Or.inr (Or.inr (Or.inr (Or.inr ⟨rfl, rfl, Or.inr ?_⟩)))
          have := hc.2
          rwa [ByteArray.toList_eq] at this
        · split at h
          · rename_i ho; cases h
            refine Or.inr (Or.inr (Or.inr (Or.inr ⟨rfl, rfl, Or.inl ⟨s[i], ?_, ho⟩⟩)))
            show (s.extract i (i + 1)).data.toList = [s[i]]
            rw [ext_list, List.take_succ_eq_append_getElem (by simpa using hi), List.drop_append_of_le_length (by simp; omega), List.drop_eq_nil_of_le (by simp; omega)]
            simp; rfl
          · cases h
/-! What is written is read. -/
theorem dr_get {s : ByteArray} {k : Nat} {b : UInt8} {r : List UInt8} (h : s.data.toList.drop k = b :: r) : (∃ hk : k < s.size, s[k] = b) ∧ s.data.toList.drop (k + 1) = r := by
  have hs : s.data.toList.length = s.size := by simp
  have hk : k < s.size := by
    rcases Nat.lt_or_ge k s.size with h1 | h1
    · exact h1
    · rw [List.drop_eq_nil_of_le (by omega)] at h; cases h
  rw [List.drop_eq_getElem_cons (by omega), toList_get] at h
  exact ⟨⟨hk, (List.cons.inj h).1⟩, (List.cons.inj h).2⟩
theorem dr_end {s : ByteArray} {k : Nat} (h : s.data.toList.drop k = []) : ¬ k < s.size := by
  intro hk
  have hs : s.data.toList.length = s.size := by simp
  have := congrArg List.length h
  simp only [List.length_drop, List.length_nil] at this
  omega
theorem dr_app {s : ByteArray} {r : List UInt8} : ∀ {k : Nat} {rest : List UInt8}, s.data.toList.drop k = r ++ rest → s.data.toList.drop (k + r.length) = rest := by
  intro k rest h
  rw [← List.drop_drop, h, List.drop_left]
theorem dr_run {p : Int → Bool} {s : ByteArray} : ∀ {r : List UInt8} {k : Nat} {rest : List UInt8}, s.data.toList.drop k = r ++ rest → (∀ b ∈ r, p (b.toNat : Int) = true) → (∀ b r', rest = b :: r' → p (b.toNat : Int) = false) → runEnd p s k = k + r.length
  | [], k, rest, h, _, h2 => by
    cases rest with
    | nil => exact runEnd_end (dr_end h)
    | cons b r' =>
      obtain ⟨⟨hk, e⟩, _⟩ := dr_get h
      exact runEnd_stop hk (by rw [e]; exact h2 b r' rfl)
  | b :: r, k, rest, h, h1, h2 => by
    obtain ⟨⟨hk, e⟩, h3⟩ := dr_get h
    rw [runEnd_step hk (by rw [e]; exact h1 b (by simp)), dr_run h3 (fun c hc => h1 c (by simp [hc])) h2, List.length_cons]
    omega
theorem dr_ext {s : ByteArray} {r rest : List UInt8} {k : Nat} (h : s.data.toList.drop k = r ++ rest) : (s.extract k (k + r.length)).data.toList = r := by
  rw [ext_list, List.drop_take, h, Nat.add_sub_cancel_left, List.take_left]
def Sep (rest : List UInt8) : Prop := rest = [] ∨ ∃ r, rest = 32 :: r
theorem Sep.not {rest : List UInt8} (h : Sep rest) {p : Int → Bool} (hp : p 32 = false) : ∀ b r', rest = b :: r' → p (b.toNat : Int) = false := by
  rintro b r' rfl
  rcases h with h | ⟨r, h⟩
  · cases h
  · cases h; exact hp
theorem dr_text {s : ByteArray} : ∀ (l : List UInt8) (k : Nat) (acc rest : List UInt8), s.data.toList.drop k = dq l ++ (39 :: rest) → (∀ b ∈ l, 32 ≤ b.toNat ∧ b.toNat ≤ 126) → Sep rest →
    textGo s k acc = .ok (acc ++ l, k + (dq l).length + 1)
  | [], k, acc, rest, h, _, hs => by
    obtain ⟨⟨hk, e⟩, h1⟩ := dr_get h
    rw [textGo_done hk (by rw [e]; rfl)]
    · simp [dq]
    · rintro ⟨h2, h3⟩
      cases rest with
      | nil => exact dr_end h1 h2
      | cons c r =>
        obtain ⟨⟨_, e1⟩, _⟩ := dr_get h1
        rw [e1] at h3
        rcases hs with hs | ⟨r', hs⟩
        · cases hs
        · cases hs; exact absurd h3 (by decide)
  | b :: l, k, acc, rest, h, ha, hs => by
    rw [dq_cons] at h ⊢
    by_cases hb : b = 39
    · subst hb
      rw [if_pos rfl] at h ⊢
      obtain ⟨⟨hk, e⟩, h1⟩ := dr_get h
      obtain ⟨⟨hk1, e1⟩, h2⟩ := dr_get h1
      rw [textGo_quote hk (by rw [e]; rfl) hk1 (by rw [e1]; rfl), e, dr_text l (k + 2) _ rest h2 (fun c hc => ha c (by simp [hc])) hs]
      simp; omega
    · rw [if_neg hb] at h ⊢
      obtain ⟨⟨hk, e⟩, h1⟩ := dr_get h
      have hr := ha b (by simp)
      have hn : ¬ s[k].toNat = 39 := by rw [e]; intro h3; exact hb (UInt8.toNat.inj h3)
      rw [textGo_byte hk hn (by rw [e]; omega), e, dr_text l (k + 1) _ rest h1 (fun c hc => ha c (by simp [hc])) hs]
      simp; omega
theorem dec_digit (u : Nat) : ∀ b ∈ Lib.decDigits u, 48 ≤ b.toNat ∧ b.toNat ≤ 57 := by
  induction u using Nat.strongRecOn with
  | _ u ih =>
    intro b hb
    by_cases h : u < 10
    · rw [Lib.decDigits, dif_pos h, List.mem_singleton] at hb
      subst hb
      rw [ofNat_lt (n := 48 + u) (by omega)]; omega
    · rw [Lib.decDigits, dif_neg h] at hb
      rcases List.mem_append.1 hb with h1 | h1
      · exact ih _ (by omega) b h1
      · rw [List.mem_singleton] at h1
        subst h1
        rw [ofNat_lt (n := 48 + u % 10) (by omega)]; omega
theorem dec_cons (u : Nat) : ∃ b r, Lib.decDigits u = b :: r ∧ (b = 48 → r = [] ∨ u = 0) ∧ (b = 48 → u = 0) := by
  induction u using Nat.strongRecOn with
  | _ u ih =>
    by_cases h : u < 10
    · rw [Lib.decDigits, dif_pos h]
      refine ⟨_, _, rfl, fun _ => Or.inl rfl, fun e => ?_⟩
      have := congrArg UInt8.toNat e
      rw [ofNat_lt (n := 48 + u) (by omega)] at this
      have h48 : (48 : UInt8).toNat = 48 := rfl
      omega
    · rw [Lib.decDigits, dif_neg h]
      obtain ⟨b, r, e, _, h0⟩ := ih (u / 10) (by omega)
      rw [e]
      refine ⟨b, _, rfl, fun e => ?_, fun e => ?_⟩
      · have := h0 e; omega
      · have := h0 e; omega
theorem dec_fold (u : Nat) : u ≤ 1125899906842625 → numFold (Lib.decDigits u) = u := by
  induction u using Nat.strongRecOn with
  | _ u ih =>
    intro hu
    by_cases h : u < 10
    · rw [Lib.decDigits, dif_pos h]
      show min (10 * 0 + (((UInt8.ofNat (48 + u)).toNat : Int) - 48)) 1125899906842625 = u
      rw [ofNat_lt (n := 48 + u) (by omega)]; omega
    · rw [Lib.decDigits, dif_neg h, numFold_snoc, ih _ (by omega) (by omega), ofNat_lt (n := 48 + u % 10) (by omega)]
      omega
theorem byteAt_dr {s : ByteArray} {k : Nat} {b : UInt8} {r : List UInt8} (h : s.data.toList.drop k = b :: r) : byteAt s k = (b.toNat : Int) := by
  obtain ⟨⟨hk, e⟩, _⟩ := dr_get h
  rw [byteAt_eq hk, e]
theorem sym_class (b : UInt8) (h : oneB b = true ∨ b = 124) : letterB (b.toNat : Int) = false ∧ digitB (b.toNat : Int) = false ∧ (b.toNat : Int) ≠ 39 ∧ blankB (b.toNat : Int) = false := by
  have h1 : b.toNat < 256 := b.toNat_lt
  have key : ∀ n : Fin 256, (oneB (UInt8.ofNat n.val) = true ∨ UInt8.ofNat n.val = 124) → letterB ((UInt8.ofNat n.val).toNat : Int) = false ∧ digitB ((UInt8.ofNat n.val).toNat : Int) = false ∧ ((UInt8.ofNat n.val).toNat : Int) ≠ 39 ∧ blankB ((UInt8.ofNat n.val).toNat : Int) = false := by decide +kernel
  have := key ⟨b.toNat, h1⟩
  simpa using this (by simpa using h)
theorem two_cases {l : List UInt8} (h : twoB l = true) : ∃ a b, l = [a, b] ∧ (oneB a = true ∨ a = 124) := by
  simp only [twoB, Bool.or_eq_true, beq_iff_eq] at h
  rcases h with ((h | h) | h) | h
  · exact ⟨60, 62, h, Or.inl (by decide)⟩
  · exact ⟨60, 61, h, Or.inl (by decide)⟩
  · exact ⟨62, 61, h, Or.inl (by decide)⟩
  · exact ⟨124, 124, h, Or.inr rfl⟩
theorem two_sep (b : UInt8) : twoB [b, 32] = false := by
  simp [twoB]
theorem mk_ba {a b : ByteArray} (h : a.data.toList = b.data.toList) : a = b := by
  cases a; cases b; simp only [ByteArray.mk.injEq]; exact Array.toList_inj.1 h
theorem scan_show {s : ByteArray} {k : Nat} {t : Tok} {rest : List UInt8} (hv : Val t) (h : s.data.toList.drop k = t.show ++ rest) (hs : Sep rest) :
    scanAt s k = .ok ({ kind := t.kind, text := t.text, num := t.num, at_ := k }, k + t.show.length) := by
  rcases hv with ⟨hk, hn, ⟨⟨b, r, hb, hlet⟩, hw⟩, hkw, hlow, h24⟩ | ⟨hk, hn, ⟨⟨b, r, hb, hlet⟩, hw⟩, hkw, hup⟩ | ⟨hk, ht, h0, hm⟩ | ⟨hk, hn, h200, ha⟩ | ⟨hk, hn, hsym⟩
  · have hsh : t.show = t.text.data.toList := by simp [Tok.show, hk]
    rw [hsh] at h ⊢
    have hrun := dr_run (p := wordB) h hw (hs.not (by decide))
    have hext := mk_ba (dr_ext h)
    have hat : byteAt s k = (b.toNat : Int) := by rw [hb] at h; exact byteAt_dr h
    unfold scanAt
    rw [hat, if_pos hlet]
    unfold scanWord wordOf
    rw [hrun, hext, if_neg (by rw [hkw]; decide), if_pos hlow, if_pos h24, hk, hn]
  · have hsh : t.show = t.text.data.toList := by simp [Tok.show, hk]
    rw [hsh] at h ⊢
    have hrun := dr_run (p := wordB) h hw (hs.not (by decide))
    have hext := mk_ba (dr_ext h)
    have hat : byteAt s k = (b.toNat : Int) := by rw [hb] at h; exact byteAt_dr h
    unfold scanAt
    rw [hat, if_pos hlet]
    unfold scanWord wordOf
    rw [hrun, hext, if_pos hkw, hup, hk, hn]
  · have hsh : t.show = Lib.decDigits t.num.toNat := by simp [Tok.show, hk, Lib.itoa]; intro h1; omega
    rw [hsh] at h ⊢
    obtain ⟨b, r, hb, hz, _⟩ := dec_cons t.num.toNat
    have hbd : 48 ≤ b.toNat ∧ b.toNat ≤ 57 := dec_digit t.num.toNat b (by rw [hb]; simp)
    have hrun := dr_run (p := digitB) h (fun c hc => by have := dec_digit t.num.toNat c hc; simp [digitB]; omega) (hs.not (by decide))
    have hext := dr_ext h
    have hat : byteAt s k = (b.toNat : Int) := by rw [hb] at h; exact byteAt_dr h
    have h1 : letterB (b.toNat : Int) = false := by simp [letterB]; omega
    have h2 : digitB (b.toNat : Int) = true := by simp [digitB]; omega
    have hbad : numBad s k (k + (Lib.decDigits t.num.toNat).length) = false := by
      have e1 : (decide (1 < k + (Lib.decDigits t.num.toNat).length - k) && byteAt s k == 48) = false := by
        rw [hat]
        by_cases hc : b = 48
        · rcases hz hc with hr | hr
          · rw [hb, hr]; simp
          · rw [hr]; simp [Lib.decDigits]
        · have : ((b.toNat : Int) == 48) = false := by
            simp only [beq_eq_false_iff_ne, ne_eq]
            intro e; exact hc (UInt8.toNat.inj (by show b.toNat = 48; omega))
          rw [this, Bool.and_false]
      have e2 : (decide (k + (Lib.decDigits t.num.toNat).length < s.size) && letterB (byteAt s (k + (Lib.decDigits t.num.toNat).length))) = false := by
        have h3 := dr_app h
        rcases hs with rfl | ⟨r', rfl⟩
        · rw [decide_eq_false (dr_end h3), Bool.false_and]
        · rw [byteAt_dr h3]
          have : letterB (((32 : UInt8).toNat : Nat) : Int) = false := by decide
          rw [this, Bool.and_false]
      unfold numBad
      rw [e1, e2]; rfl
    unfold scanAt
    rw [hat, h1, h2]
    simp only [Bool.false_eq_true, if_false, if_true]
    unfold scanNumber
    rw [hrun, hext, hbad, dec_fold _ (by omega)]
    unfold numOf
    have e3 : ((t.num.toNat : Nat) : Int) = t.num := by omega
    rw [e3, if_neg (by decide), if_neg (by omega), hk, ht]
  · have hsh : t.show = 39 :: (dq t.text.data.toList ++ [39]) := by simp [Tok.show, hk]
    rw [hsh] at h ⊢
    have hat : byteAt s k = (((39 : UInt8).toNat : Nat) : Int) := byteAt_dr h
    obtain ⟨_, h1⟩ := dr_get h
    have h1' : s.data.toList.drop (k + 1) = dq t.text.data.toList ++ (39 :: rest) := by rw [h1]; simp
    have hg := dr_text t.text.data.toList (k + 1) [] rest h1' ha hs
    unfold scanAt
    rw [hat]
    have c1 : letterB (((39 : UInt8).toNat : Nat) : Int) = false := by decide
    have c2 : digitB (((39 : UInt8).toNat : Nat) : Int) = false := by decide
    have c3 : (((39 : UInt8).toNat : Nat) : Int) = 39 := rfl
    rw [c1, c2]
    simp only [Bool.false_eq_true, if_false, c3, if_true]
    unfold scanText textOf
    rw [hg]
    simp only [List.nil_append]
    rw [if_neg (by simp; exact h200), hk, hn]
    have e4 : (⟨t.text.data.toList.toArray⟩ : ByteArray) = t.text := mk_ba (by simp)
    rw [e4]
    have e5 : k + 1 + (dq t.text.data.toList).length + 1 = k + (39 :: (dq t.text.data.toList ++ [39])).length := by simp; omega
    rw [e5]
  · have hsh : t.show = t.text.data.toList := by simp [Tok.show, hk]
    rw [hsh] at h ⊢
    have hext := mk_ba (dr_ext h)
    have hs0 : s.data.toList.length = s.size := by simp
    rcases hsym with ⟨b, hb, ho⟩ | htwo
    · obtain ⟨c1, c2, c3, _⟩ := sym_class b (Or.inl ho)
      rw [hb] at h hext ⊢
      obtain ⟨⟨hks, eb⟩, h1⟩ := dr_get h
      have hat : byteAt s k = (b.toNat : Int) := byteAt_dr h
      unfold scanAt
      rw [hat, c1, c2]
      simp only [Bool.false_eq_true, if_false]
      rw [if_neg c3]
      unfold scanSymbol
      rw [if_neg, dif_pos hks, eb, if_pos ho]
      · rw [hk, hn]
        have : s.extract k (k + 1) = t.text := hext
        rw [this]; rfl
      · rintro ⟨g1, g2⟩
        rcases hs with rfl | ⟨r', rfl⟩
        · exact dr_end h1 (by omega)
        · have : (s.extract k (k + [b, 32].length)).data.toList = [b, 32] := dr_ext (rest := r') (by rw [h]; rfl)
          rw [ByteArray.toList_eq] at g2
          have g3 : (s.extract k (k + 2)).data.toList = [b, 32] := this
          rw [g3, two_sep] at g2
          cases g2
    · obtain ⟨a, b, hab, hc⟩ := two_cases htwo
      obtain ⟨c1, c2, c3, _⟩ := sym_class a hc
      have hlen : t.text.data.toList.length = 2 := by rw [hab]; rfl
      have hat : byteAt s k = (a.toNat : Int) := by rw [hab] at h; exact byteAt_dr h
      have hsz : k + 2 ≤ s.size := by
        rw [hab] at h
        obtain ⟨_, h1⟩ := dr_get h
        obtain ⟨⟨h2, _⟩, _⟩ := dr_get h1
        omega
      rw [hlen] at hext ⊢
      unfold scanAt
      rw [hat, c1, c2]
      simp only [Bool.false_eq_true, if_false]
      rw [if_neg c3]
      unfold scanSymbol
      rw [hext, if_pos ⟨hsz, by rw [ByteArray.toList_eq]; exact htwo⟩, hk, hn]
theorem show_head {t : Tok} (hv : Val t) : ∃ b r, t.show = b :: r ∧ blankB (b.toNat : Int) = false := by
  rcases hv with ⟨hk, hn, ⟨⟨b, r, hb, hlet⟩, hw⟩, hkw, hlow, h24⟩ | ⟨hk, hn, ⟨⟨b, r, hb, hlet⟩, hw⟩, hkw, hup⟩ | ⟨hk, ht, h0, hm⟩ | ⟨hk, hn, h200, ha⟩ | ⟨hk, hn, hsym⟩
  · refine ⟨b, r, by simp [Tok.show, hk, hb], ?_⟩
    simp [letterB] at hlet; simp [blankB]; omega
  · refine ⟨b, r, by simp [Tok.show, hk, hb], ?_⟩
    simp [letterB] at hlet; simp [blankB]; omega
  · obtain ⟨b, r, hb, _, _⟩ := dec_cons t.num.toNat
    have hbd : 48 ≤ b.toNat ∧ b.toNat ≤ 57 := dec_digit t.num.toNat b (by rw [hb]; simp)
    refine ⟨b, r, by simp [Tok.show, hk, Lib.itoa, hb]; intro h1; omega, ?_⟩
    simp [blankB]; omega
  · exact ⟨39, _, by simp only [Tok.show, hk]; rfl, by decide⟩
  · rcases hsym with ⟨b, hb, ho⟩ | htwo
    · exact ⟨b, [], by simp [Tok.show, hk, hb], (sym_class b (Or.inl ho)).2.2.2⟩
    · obtain ⟨a, b, hab, hc⟩ := two_cases htwo
      exact ⟨a, [b], by simp [Tok.show, hk, hab], (sym_class a hc).2.2.2⟩
def Tok.core (t : Tok) : Int × ByteArray × Int := (t.kind, t.text, t.num)
def textL (l : List Tok) : List UInt8 := Lib.join (l.map Tok.show) [32]
theorem textL_two (t u : Tok) (l : List Tok) : textL (t :: u :: l) = t.show ++ (32 :: textL (u :: l)) := by
  simp [textL, Lib.join, List.intercalate]
theorem textL_one (t : Tok) : textL [t] = t.show := by simp [textL, Lib.join_one]
theorem textL_head {t : Tok} {l : List Tok} (h : Val t) : ∃ b r, textL (t :: l) = b :: r ∧ blankB (b.toNat : Int) = false := by
  obtain ⟨b, r, e, hb⟩ := show_head h
  cases l with
  | nil => exact ⟨b, r, by rw [textL_one, e], hb⟩
  | cons u l => exact ⟨b, _, by rw [textL_two, e]; rfl, hb⟩
theorem allGo_back (s : ByteArray) : ∀ (l : List Tok) (d k : Nat) (acc : List Tok), (∀ t ∈ l, Val t) → s.size - k < d → s.data.toList.drop k = textL l → ∃ m, allGo s d k acc = .ok (acc ++ m) ∧ m.map Tok.core = l.map Tok.core
  | [], d, k, acc, _, _, h => by
    refine ⟨[], ?_, rfl⟩
    cases d with
    | zero => simp [allGo]
    | succ d => rw [allGo, if_neg (dr_end h)]; simp
  | t :: l, d, k, acc, hv, hd, h => by
    obtain ⟨d, rfl⟩ : ∃ e, d = e + 1 := ⟨d - 1, by omega⟩
    obtain ⟨b, r, hb, _⟩ := textL_head (l := l) (hv t (by simp))
    have hk : k < s.size := by rw [hb] at h; exact (dr_get h).1.1
    cases l with
    | nil =>
      rw [textL_one] at h
      have hsc := scan_show (hv t (by simp)) (h.trans (List.append_nil _).symm) (Or.inl rfl)
      have hn := scanAt_next hk hsc
      have hend := dr_app (h.trans (List.append_nil _).symm)
      refine ⟨[{ kind := t.kind, text := t.text, num := t.num, at_ := k }], ?_, rfl⟩
      rw [allGo, if_pos hk, hsc]
      simp only
      rw [runEnd_end (dr_end hend)]
      cases d with
      | zero => rfl
      | succ d => rw [allGo, if_neg (dr_end hend)]
    | cons u l =>
      rw [textL_two] at h
      have hsc := scan_show (hv t (by simp)) h (Or.inr ⟨_, rfl⟩)
      have hn := scanAt_next hk hsc
      have h2 := dr_app h
      obtain ⟨c, r2, hc, hbl⟩ := textL_head (l := l) (hv u (by simp))
      have hrun : runEnd blankB s (k + t.show.length) = k + t.show.length + 1 := by
        refine dr_run (p := blankB) (r := [32]) (rest := textL (u :: l)) h2 (by simp; decide) ?_
        intro b' r' e
        rw [hc] at e
        cases e; exact hbl
      obtain ⟨m, hm, hcore⟩ := allGo_back s (u :: l) d (k + t.show.length + 1) (acc ++ [{ kind := t.kind, text := t.text, num := t.num, at_ := k }]) (fun x hx => hv x (by simp at hx ⊢; exact Or.inr hx)) (by omega) (dr_get h2).2
      refine ⟨{ kind := t.kind, text := t.text, num := t.num, at_ := k } :: m, ?_, ?_⟩
      · rw [allGo, if_pos hk, hsc]
        simp only
        rw [hrun, hm]; simp
      · rw [List.map_cons, hcore]; rfl
theorem allGo_val (s : ByteArray) (d : Nat) : ∀ (k : Nat) (acc l : List Tok), (∀ t ∈ acc, Val t) → allGo s d k acc = .ok l → ∀ t ∈ l, Val t := by
  induction d with
  | zero => intro k acc l ha h; cases h; exact ha
  | succ d ih =>
    intro k acc l ha h
    rw [allGo] at h
    by_cases hk : k < s.size
    · rw [if_pos hk] at h
      cases hs : scanAt s k with
      | error e => rw [hs] at h; cases h
      | ok p =>
        rw [hs] at h
        refine ih _ _ _ ?_ h
        intro t ht
        rcases List.mem_append.1 ht with h1 | h1
        · exact ha t h1
        · rw [List.mem_singleton.1 h1]; exact scanAt_val hk (x := p.1) (n := p.2) hs
    · rw [if_neg hk] at h; cases h; exact ha
theorem lex_val {s : ByteArray} {l : List Tok} (h : lex s = .ok l) : ∀ t ∈ l, Val t := by
  unfold lex at h
  split at h
  · cases h
  · exact allGo_val s _ _ [] l (by simp) h
theorem lex_back {l : List Tok} (hv : ∀ t ∈ l, Val t) {s : ByteArray} (hs : s.data.toList = textL l) (hn : s.size ≤ 65536) : ∃ m, lex s = .ok m ∧ m.map Tok.core = l.map Tok.core := by
  have h0 : runEnd blankB s 0 = 0 := by
    refine dr_run (p := blankB) (r := []) (rest := textL l) (by rw [List.drop_zero, hs]; rfl) (by simp) ?_
    intro b r e
    cases l with
    | nil => cases e
    | cons t l =>
      obtain ⟨c, r2, hc, hbl⟩ := textL_head (l := l) (hv t (by simp))
      rw [hc] at e; cases e; exact hbl
  obtain ⟨m, hm, hc⟩ := allGo_back s l (s.size + 1) 0 [] hv (by omega) (by rw [List.drop_zero, hs])
  refine ⟨m, ?_, hc⟩
  unfold lex allToks
  rw [if_neg (by omega), h0, hm]; rfl
end Go.Proofs.YtippkncnecbhlaaDoor.Lx
