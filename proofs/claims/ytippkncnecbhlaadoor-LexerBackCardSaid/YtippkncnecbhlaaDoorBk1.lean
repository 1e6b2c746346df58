/- The walks of lexer.Quote and lexer.Text. -/
import Derived.Test.YtippkncnecbhlaaDoorShelf2
import Derived.Test.YtippkncnecbhlaaDoorBkPlain
import Derived.Test.YtippkncnecbhlaaDoorRf9
import Derived.Lib.IndexMore
import Derived.Lib.CountLaws
namespace Go.Proofs.YtippkncnecbhlaaDoor.Lx
open Go.RowKit
theorem dq_len (l : List UInt8) : (dq l).length ≤ 2 * l.length := by
  induction l with
  | nil => simp [dq]
  | cons b l ih =>
    rw [dq_cons]
    by_cases h : b = 39
    · rw [if_pos h]; simp; omega
    · rw [if_neg h]; simp; omega
theorem dec_len : ∀ (k u : Nat), 1 ≤ k → u < 10 ^ k → (Lib.decDigits u).length ≤ k
  | 0, _, h, _ => by omega
  | k + 1, u, _, hu => by
    by_cases h : u < 10
    · rw [Lib.decDigits, dif_pos h]; simp
    · rw [Lib.decDigits, dif_neg h, List.length_append]
      have hk : 1 ≤ k := by
        rcases Nat.eq_zero_or_pos k with rfl | hk
        · simp at hu; omega
        · exact hk
      have := dec_len k (u / 10) hk (by rw [Nat.pow_succ] at hu; omega)
      simp; omega
theorem kws_small : ∀ k ∈ kws, k.length ≤ 20 := by decide +kernel
theorem show_len {t : Tok} (h : Val t) : t.show.length ≤ 402 := by
  have hs : ∀ a : ByteArray, a.data.toList.length = a.size := fun a => by simp
  rcases h with ⟨hk, hn, hw, hkw, hlow, h24⟩ | ⟨hk, hn, hw, hkw, hup⟩ | ⟨hk, ht, h0, hm⟩ | ⟨hk, hn, h200, ha⟩ | ⟨hk, hn, hsym⟩
  · have e : t.show = t.text.data.toList := by simp [Tok.show, hk]
    rw [e, hs]; omega
  · have e : t.show = t.text.data.toList := by simp [Tok.show, hk]
    rw [e, ← hup]
    have := kws_small _ (of_decide_eq_true hkw)
    omega
  · have e : t.show = Lib.decDigits t.num.toNat := by simp [Tok.show, hk, Lib.itoa]; intro h1; omega
    rw [e]
    have := dec_len 17 t.num.toNat (by omega) (by omega)
    omega
  · have e : t.show = 39 :: (dq t.text.data.toList ++ [39]) := by simp [Tok.show, hk]
    have := dq_len t.text.data.toList
    rw [hs] at this
    rw [e]; simp; omega
  · have e : t.show = t.text.data.toList := by simp [Tok.show, hk]
    rw [e]
    rcases hsym with ⟨b, hb, _⟩ | h2
    · rw [hb]; simp
    · obtain ⟨a, b, hab, _⟩ := two_cases h2
      rw [hab]; simp
theorem textL_len : ∀ (l : List Tok), (∀ t ∈ l, Val t) → (textL l).length ≤ 403 * l.length
  | [], _ => by simp [textL, Lib.join_nil]
  | [t], h => by
    have := show_len (h t (by simp))
    rw [textL_one]; simp; omega
  | t :: u :: l, h => by
    have h1 := show_len (h t (by simp))
    have h2 := textL_len (u :: l) (fun x hx => h x (by simp at hx ⊢; exact Or.inr hx))
    rw [textL_two]; simp at h2 ⊢; omega
def quoteA (s : ByteArray) : ByteArray := ⟨(39 :: (dq s.data.toList ++ [39])).toArray⟩
set_option maxRecDepth 100000 in
set_option maxHeartbeats 1000000 in
theorem quote_any (s : ByteArray) (m : Int) (w : World) (hs : s.size ≤ 200) (hm : w.cell? ⟨3, 0, none⟩ = some (.int .i64 m)) :
    Calls Tryd.prog 36 #[.string s] w fun e w' => e = .returned (.string (quoteA s)) ∧ Keep [] w w' := by
  have HM := Lib.hid hm
  clear hm
  go_enter Tryd.func36, Tryd.ntmps36
  go_wp2_with fail
  refine (Tryd.strings_ReplaceAll s ⟨#[39]⟩ ⟨#[39, 39]⟩ m _ (by omega) HM.out (by decide) ?_).mono ?_
  · have h1 := Lib.count_le s.data.toList [39]
    have h2 : s.data.toList.length = s.size := by simp
    have h3 : Lib.countB s ⟨#[39]⟩ = Lib.count s.data.toList [39] := rfl
    have h4 : (⟨#[39, 39]⟩ : ByteArray).size = 2 := rfl
    rw [h3, h4]; omega
  rintro e w1 ⟨rfl, hb⟩
  have hK := Keep.of_below hb []
  clear hb
  have e1 : Lib.replaceAll s.data.toList (⟨#[39]⟩ : ByteArray).data.toList (⟨#[39, 39]⟩ : ByteArray).data.toList = dq s.data.toList := repl_dq _
  rw [e1]
  clear e1
  have hQ : Hid ((⟨(dq s.data.toList).toArray⟩ : ByteArray).data.toList = dq s.data.toList) := Lib.hid (by simp)
  have hlen : (⟨(dq s.data.toList).toArray⟩ : ByteArray).size ≤ 400 := by
    have h1 := dq_len s.data.toList
    have h2 : s.data.toList.length = s.size := by simp
    have h3 : (⟨(dq s.data.toList).toArray⟩ : ByteArray).size = (dq s.data.toList).length := List.size_toArray
    omega
  generalize (⟨(dq s.data.toList).toArray⟩ : ByteArray) = q at hQ hlen
  go_wp2_with fail
  go_ret
  refine ⟨?_, hK⟩
  refine congrArg Ending.returned (congrArg Value.string (mk_ba ?_))
  simp [quoteA, ← hQ.out]
def BkW (w : World) : Prop := Lib.TabIs Tryd.prog w "internal/strconv.uint64pow10" .u64 Lib.pow10Tab ∧ ∃ m, w.cell? ⟨3, 0, none⟩ = some (.int .i64 m)
theorem gPow : Tryd.prog.globalNamed "internal/strconv.uint64pow10" = some 6 := by kernel_rfl
theorem BkW.keep {w w' : World} (h : BkW w) (k : Keep [] w w') : BkW w' := by
  obtain ⟨h1, m, h2⟩ := h
  refine ⟨?_, m, cell_keep k h2⟩
  unfold Lib.TabIs World.var? at h1 ⊢
  simp only [gPow, Option.bind_some] at h1 ⊢
  cases hb : w.heap[6]? with
  | none => rw [hb] at h1; simp at h1
  | some o => rw [k.at hb (by simp)]; rw [hb] at h1; exact h1
theorem itoa_any (n : Int) (w : World) (h0 : 0 ≤ n) (h1 : n ≤ 1125899906842624) (hw : BkW w) :
    Calls Tryd.prog 35 #[.int .i64 n] w fun e w' => e = .returned (.string ⟨(Lib.itoa n).toArray⟩) ∧ Keep [] w w' := by
  refine (Tryd.strconv_Itoa n (by omega) (by omega) w hw.1).mono ?_
  rintro e w' ⟨he, k, os, rfl⟩
  exact ⟨he, ⟨rfl, rfl, rfl, by show w.heap.size ≤ (w.heap ++ os).size; rw [Array.size_append]; omega, fun j hj _ => by show (w.heap ++ os)[j]? = w.heap[j]?; rw [Array.getElem?_append_left hj]⟩⟩
theorem join_any (g c n : Nat) (xs : List ByteArray) (w : World) (hx : xs.length = n) (hn : n ≤ 65536)
    (hcells : ∀ (j : Nat) x, xs[j]? = some x → w.cell? ⟨g, j, none⟩ = some (.string x)) (hbk : g < w.heap.size) (hcap : n ≤ c)
    (hlen : (Lib.join (xs.map (·.data.toList)) [32]).length ≤ 140737488355328) :
    Calls Tryd.prog 37 #[.slice (some ⟨g, 0, none⟩) n c, .string ⟨#[32]⟩] w fun e w' => e = .returned (.string ⟨(Lib.join (xs.map (·.data.toList)) [32]).toArray⟩) ∧ Keep [] w w' := by
  subst hx
  refine (Tryd.strings_Join g 0 c xs ⟨#[32]⟩ w (by intro j x h; rw [Nat.zero_add]; exact hcells j x h) hbk (by omega) hcap hlen).mono ?_
  rintro e w' ⟨he, hb⟩
  exact ⟨he, Keep.of_below hb []⟩
end Go.Proofs.YtippkncnecbhlaaDoor.Lx
