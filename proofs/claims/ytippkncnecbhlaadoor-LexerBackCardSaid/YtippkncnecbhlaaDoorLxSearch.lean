/- Plain: the binary search over the keywords finds what is among them. -/
import Derived.Shelf.Spec.SearchS
import Derived.Lib.Case
import Derived.Test.YtippkncnecbhlaaDoorLxKw
namespace Go.Proofs.YtippkncnecbhlaaDoor.Lx
open Go.Op (bytesLess)
theorem less_trans : ∀ (a b c : List UInt8), bytesLess a b = true → bytesLess b c = true → bytesLess a c = true
  | _, [], c, h, _ => by cases ‹List UInt8› <;> simp [bytesLess] at h
  | _, _ :: _, [], _, h2 => by simp [bytesLess] at h2
  | [], _ :: _, _ :: _, _, _ => by simp [bytesLess]
  | x :: a, y :: b, z :: c, h1, h2 => by
    simp only [bytesLess, Bool.or_eq_true, Bool.and_eq_true, decide_eq_true_eq, beq_iff_eq] at h1 h2 ⊢
    rcases h1 with h1 | ⟨rfl, h1⟩
    · rcases h2 with h2 | ⟨rfl, h2⟩
      · exact Or.inl (by rw [UInt8.lt_iff_toNat_lt] at *; omega)
      · exact Or.inl h1
    · rcases h2 with h2 | ⟨rfl, h2⟩
      · exact Or.inl h2
      · exact Or.inr ⟨rfl, less_trans a b c h1 h2⟩
theorem less_irrefl : ∀ a : List UInt8, bytesLess a a = false
  | [] => rfl
  | x :: a => by
    have h : ¬ x < x := by rw [UInt8.lt_iff_toNat_lt]; omega
    simp [bytesLess, h, less_irrefl a]
theorem kws_sorted : (List.range 86).all (fun t => bytesLess (kws.getD t []) (kws.getD (t + 1) [])) = true := by decide +kernel
theorem kws_step (t : Nat) (h : t < 86) : bytesLess (kws.getD t []) (kws.getD (t + 1) []) = true :=
  List.all_eq_true.1 kws_sorted t (List.mem_range.2 h)
theorem kws_mono (d : Nat) : ∀ t, t + d + 1 < 87 → bytesLess (kws.getD t []) (kws.getD (t + d + 1) []) = true := by
  induction d with
  | zero => intro t h; exact kws_step t (by omega)
  | succ d ih => intro t h; exact less_trans _ _ _ (ih t (by omega)) (kws_step (t + d + 1) (by omega))
theorem least_not (f : Nat → Bool) : ∀ n, ∃ k, k ≤ n ∧ (∀ t, t < k → f t = true) ∧ (k < n → f k = false)
  | 0 => ⟨0, Nat.le_refl _, fun t h => by omega, fun h => by omega⟩
  | n + 1 => by
    obtain ⟨k, h1, h2, h3⟩ := least_not f n
    by_cases e : k < n
    · exact ⟨k, by omega, h2, fun _ => h3 e⟩
    · obtain rfl : k = n := by omega
      cases hf : f k with
      | true => exact ⟨k + 1, Nat.le_refl _, fun t ht => by rcases Nat.lt_or_ge t k with h | h; exact h2 t h; (obtain rfl : t = k := by omega); exact hf, fun h => by omega⟩
      | false => exact ⟨k, by omega, h2, fun _ => hf⟩
theorem getD_mem (t : Nat) (h : t < 87) : kws.getD t [] ∈ kws := by
  have h' : t < kws.length := by rw [kws_len]; exact h
  rw [List.getD_eq_getElem?_getD, List.getElem?_eq_getElem h']
  exact List.getElem_mem h'
theorem mem_getD (u : List UInt8) (h : u ∈ kws) : ∃ t, t < 87 ∧ kws.getD t [] = u := by
  obtain ⟨t, ht, e⟩ := List.mem_iff_getElem.1 h
  exact ⟨t, by rw [kws_len] at ht; exact ht, by rw [List.getD_eq_getElem?_getD, List.getElem?_eq_getElem ht]; simpa using e⟩
/-- What the search comes to. -/
theorem search_kws (u : List UInt8) :
    (Lib.bsGo (fun t => bytesLess (kws.getD t []) u) 87 0 87 < 87 ∧ kws.getD (Lib.bsGo (fun t => bytesLess (kws.getD t []) u) 87 0 87) [] = u) ↔ u ∈ kws := by
  obtain ⟨k, hk, h1, h2⟩ := least_not (fun t => bytesLess (kws.getD t []) u) 87
  have hup : ∀ t, k ≤ t → t < 87 → bytesLess (kws.getD t []) u = false := by
    intro t ht ht'
    by_cases e : t = k
    · subst e; exact h2 ht'
    · cases hf : bytesLess (kws.getD t []) u with
      | false => rfl
      | true =>
        have := kws_mono (t - k - 1) k (by omega)
        rw [show k + (t - k - 1) + 1 = t from by omega] at this
        have h3 := h2 (by omega)
        simp only [less_trans _ _ _ this hf] at h3
        cases h3
  have hb : Lib.bsGo (fun t => bytesLess (kws.getD t []) u) 87 0 87 = k := by
    have e : ∀ (f lo hi : Nat), hi - lo ≤ f → lo ≤ k → k ≤ hi → hi ≤ 87 → Lib.bsGo (fun t => bytesLess (kws.getD t []) u) f lo hi = Lib.bsGo (fun t => decide (t < k)) f lo hi := by
      intro f
      induction f with
      | zero => intro lo hi _ _ _ _; rfl
      | succ f ih =>
        intro lo hi a b c d
        unfold Lib.bsGo
        by_cases hlt : lo < hi
        · rw [if_pos hlt, if_pos hlt]
          by_cases hm : (lo + hi) / 2 < k
          · rw [if_pos (h1 _ hm), if_pos (by simpa using hm)]
            exact ih _ _ (by omega) (by omega) (by omega) d
          · rw [if_neg (by rw [hup _ (by omega) (by omega)]; simp), if_neg (by simpa using hm)]
            exact ih _ _ (by omega) (by omega) (by omega) (by omega)
        · rw [if_neg hlt, if_neg hlt]
    rw [e 87 0 87 (by omega) (by omega) hk (by omega)]
    exact Lib.bsGo_spec _ k (fun t ht => by simpa using ht) (fun t ht => by simpa using ht) 87 0 87 (by omega) (by omega) hk
  rw [hb]
  constructor
  · rintro ⟨a, rfl⟩; exact getD_mem k a
  · intro hu
    obtain ⟨t, ht, e⟩ := mem_getD u hu
    have hk1 : k ≤ t := by
      rcases Nat.lt_or_ge t k with h | h
      · have := h1 t h; simp only [e, less_irrefl] at this; cases this
      · exact h
    have hk2 : ¬ k < t := by
      intro h
      have := kws_mono (t - k - 1) k (by omega)
      rw [show k + (t - k - 1) + 1 = t from by omega, e] at this
      have h3 := h2 (by omega)
      simp only [this] at h3
      cases h3
    obtain rfl : k = t := by omega
    exact ⟨ht, e⟩
end Go.Proofs.YtippkncnecbhlaaDoor.Lx
namespace Go.Proofs.YtippkncnecbhlaaDoor.Lx
/-- Is it a keyword, in any case? -/
def kwB (l : List UInt8) : Bool := decide (Lib.toUpperA l ∈ kws)
theorem kws_ascii : ∀ k ∈ kws, ∀ b ∈ k, b.toNat < 128 := by decide +kernel
theorem kwB_ascii {l : List UInt8} (h : kwB l = true) (b : UInt8) (hb : b ∈ l) : b.toNat < 128 := by
  have h1 := kws_ascii _ (of_decide_eq_true h) (Lib.upperB b) (by unfold Lib.toUpperA; exact List.mem_map_of_mem hb)
  unfold Lib.upperB at h1
  split at h1
  · rename_i hl
    simp only [Lib.isLowerB, Bool.and_eq_true, decide_eq_true_eq, UInt8.le_iff_toNat_le] at hl
    have := hl.2
    simp at this
    omega
  · exact h1
theorem kwB_not {l : List UInt8} {b : UInt8} (hb : b ∈ l) (h : 128 ≤ b.toNat) : kwB l = false := by
  cases e : kwB l with
  | false => rfl
  | true => have := kwB_ascii e b hb; omega
end Go.Proofs.YtippkncnecbhlaaDoor.Lx
