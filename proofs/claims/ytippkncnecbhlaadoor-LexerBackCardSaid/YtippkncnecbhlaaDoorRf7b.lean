/- The reference's symbol is the program's. -/
import Derived.Test.YtippkncnecbhlaaDoorRf7
import Derived.Lib.IndexLaws
namespace Go.Proofs.YtippkncnecbhlaaDoor.Lx
open Go.RowKit
theorem oneB_iff (b : UInt8) : oneB b = true ↔ b ∈ symL := by
  unfold oneB
  rw [decide_eq_true_eq]
  constructor
  · intro h
    obtain ⟨o, ho⟩ := Int.eq_ofNat_of_zero_le h
    have h2 := (Lib.indexByte_some ho).1
    exact List.mem_of_getElem? h2
  · intro h
    have h1 := Lib.indexByte_ge symL b
    by_cases h2 : Lib.indexByte symL b = -1
    · obtain ⟨k, hk⟩ := List.mem_iff_getElem?.1 h
      exact absurd hk (Lib.indexByte_none h2 k)
    · omega
theorem ext_one (s : ByteArray) (i : Nat) (hi : i < s.size) : s.extract i (i + 1) = ⟨#[s[i]]⟩ := by
  have h := ext_snoc s i i (Nat.le_refl _) hi
  rw [ext_nil] at h
  have h2 : (s.extract i (i + 1)).data = #[s[i]] := by
    apply Array.toList_inj.1; rw [h]; rfl
  cases he : s.extract i (i + 1) with
  | mk d => rw [he] at h2; exact congrArg ByteArray.mk h2
theorem list_ba (t : ByteArray) (y : List UInt8) : t = ⟨y.toArray⟩ ↔ t.toList = y := by
  rw [ByteArray.toList_eq]
  constructor
  · rintro rfl; rfl
  · intro h; rw [← h]
theorem syms_lo (j : Nat) (hj : j < 4) : (syms.getD j []).length = 2 ∧ syms.getD j [] ∈ [[60, 62], [60, 61], [62, 61], [124, 124]] := by
  match j, hj with
  | 0, _ => decide
  | 1, _ => decide
  | 2, _ => decide
  | 3, _ => decide
theorem syms_hi (j : Nat) (h4 : 4 ≤ j) (hj : j < 17) : ∃ b, syms.getD j [] = [b] ∧ b ∈ symL := by
  have h : ∀ j : Fin 13, ∃ b, syms.getD (j.val + 4) [] = [b] ∧ b ∈ symL := by
    intro j
    refine ⟨symL.getD j.val 0, ?_, ?_⟩
    · revert j; decide
    · revert j; decide
  have := h ⟨j - 4, by omega⟩
  rwa [show (j - 4) + 4 = j from by omega] at this
theorem syms_one (b : UInt8) (h : b ∈ symL) : ∃ j, 4 ≤ j ∧ j < 17 ∧ syms.getD j [] = [b] := by
  obtain ⟨k, hk, e⟩ := List.mem_iff_getElem.1 h
  have hk' : k < 13 := hk
  have h2 : ∀ j : Fin 13, syms.getD (j.val + 4) [] = [symL.getD j.val 0] := by decide
  refine ⟨k + 4, by omega, by omega, ?_⟩
  rw [h2 ⟨k, hk'⟩, ← e, List.getD_eq_getElem?_getD, List.getElem?_eq_getElem hk]; rfl
theorem two_hit {s : ByteArray} {i : Nat} {y : List UInt8} (hy : y.length = 2) (hm : y ∈ [[60, 62], [60, 61], [62, 61], [124, 124]]) (h : symHit s i y) : i + 2 ≤ s.size ∧ twoB (s.extract i (i + 2)).toList = true := by
  have h1 := h.1
  have h2 := h.2
  rw [hy] at h1 h2
  refine ⟨h1, ?_⟩
  rw [(list_ba _ _).1 h2]
  revert hm
  simp only [List.mem_cons, List.not_mem_nil, or_false]
  rintro (rfl | rfl | rfl | rfl) <;> rfl
theorem two_some {s : ByteArray} {i : Nat} (h : i + 2 ≤ s.size ∧ twoB (s.extract i (i + 2)).toList = true) : ∃ j, j < 4 ∧ symHit s i (syms.getD j []) := by
  obtain ⟨h1, h2⟩ := h
  simp only [twoB, Bool.or_eq_true, beq_iff_eq] at h2
  rcases h2 with ((h2 | h2) | h2) | h2
  · exact ⟨0, by omega, h1, (list_ba _ _).2 h2⟩
  · exact ⟨1, by omega, h1, (list_ba _ _).2 h2⟩
  · exact ⟨2, by omega, h1, (list_ba _ _).2 h2⟩
  · exact ⟨3, by omega, h1, (list_ba _ _).2 h2⟩
theorem sym_hit_eq (s : ByteArray) (i : Nat) (hi : i < s.size) (k : Nat) (hk : k < 17) (h : symHit s i (syms.getD k [])) (hb : ∀ j, j < k → ¬ symHit s i (syms.getD j [])) :
    scanSymbol s i = .ok ({ kind := 5, text := ⟨(syms.getD k []).toArray⟩, num := 0, at_ := i }, i + (syms.getD k []).length) := by
  unfold scanSymbol
  by_cases h4 : k < 4
  · obtain ⟨hl, hm⟩ := syms_lo k h4
    have ht := two_hit hl hm h
    have h2 := h.2
    rw [hl] at h2
    rw [if_pos ht, h2, hl]
  · obtain ⟨b, e, hb2⟩ := syms_hi k (by omega) hk
    rw [if_neg (fun hn => by obtain ⟨j, hj, hh⟩ := two_some hn; exact hb j (by omega) hh), dif_pos hi]
    rw [e] at h ⊢
    have h2 := h.2
    have e1 := ext_one s i hi
    have e2 : s.extract i (i + 1) = ⟨#[b]⟩ := h2
    have e3 : s[i] = b := by rw [e1] at e2; simpa using e2
    rw [if_pos ((oneB_iff _).2 (by rw [e3]; exact hb2)), e2]
    rfl
theorem sym_no_eq (s : ByteArray) (i : Nat) (hi : i < s.size) (hb : ∀ j, j < 17 → ¬ symHit s i (syms.getD j [])) : scanSymbol s i = .error (i, 1) := by
  unfold scanSymbol
  rw [if_neg (fun hn => by obtain ⟨j, hj, hh⟩ := two_some hn; exact hb j (by omega) hh), dif_pos hi]
  rw [if_neg]
  intro h
  obtain ⟨j, h4, hj, e⟩ := syms_one _ ((oneB_iff _).1 h)
  refine hb j hj ?_
  rw [e]
  exact ⟨by simp; omega, ext_one s i hi⟩
theorem refSym_any (s : ByteArray) (i : Nat) (w : World) (hi : i < s.size) (hs : s.size ≤ 65536) :
    Calls Tryd.prog 26 #[.string s, .int .i64 i] w (RefPost (scanSymbol s i) i w) :=
  refSymbol_any s i w hi hs _ (fun k hk h hb => sym_hit_eq s i hi k hk h hb) (sym_no_eq s i hi)
end Go.Proofs.YtippkncnecbhlaaDoor.Lx
