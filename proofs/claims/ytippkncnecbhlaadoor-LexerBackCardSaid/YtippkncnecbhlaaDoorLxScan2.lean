/- The walk of (*scanner).number. -/
import Derived.Test.YtippkncnecbhlaaDoorLxScan1
namespace Go.Proofs.YtippkncnecbhlaaDoor.Lx
open Go.RowKit
theorem run_at (f : Nat) (p : Int → Bool) (he : ∀ args w, (callFunc f args).run Tryd.prog w = .ok (.enter f args) w) (hf : ∀ (c : Int) (w : World), Calls Tryd.prog f #[.int .u8 c] w fun e w' => e = .returned (.bool (p c)) ∧ w = w')
    (pb : Nat) (s : ByteArray) (i : Nat) (w : World) (hi : i ≤ s.size) (hs : s.size ≤ 65536) (h : Scn pb s i w) (j : Nat) (hj : Hid (runEnd p s i = j)) (t : ByteArray) (ht : Hid (s.extract i j = t)) :
    Calls Tryd.prog 38 #[.pointer (some ⟨pb, 0, none⟩), .func (.func f) #[] #[]] w fun e w' => e = .returned (.string t) ∧ Scn pb s j w' ∧ Keep [pb] w w' := by
  have e1 := hj.out
  have e2 := ht.out
  subst e1 e2
  exact run_any f p he hf pb s i w hi hs h
set_option maxRecDepth 100000 in
set_option maxHeartbeats 4000000 in
theorem number_bad (pb : Nat) (s : ByteArray) (i : Nat) (w : World) (hi : i ≤ s.size) (hs : s.size ≤ 65536) (h : Scn pb s i w)
    (j : Nat) (hj : runEnd digitB s i = j) (t : ByteArray) (ht : s.extract i j = t) (h0 : 0 < t.size) (htl : t.size ≤ 65536) (n : Int)
    (hb : (1 < t.size ∧ (((t[0]'h0).toNat : Int) == 48) = true) ∨ (1 < t.size ∧ (((t[0]'h0).toNat : Int) == 48) = false ∧ ∃ _ : j < s.size, letterB (s[j].toNat : Int) = true) ∨ (¬ 1 < t.size ∧ ∃ _ : j < s.size, letterB (s[j].toNat : Int) = true)) :
    Calls Tryd.prog 41 #[.pointer (some ⟨pb, 0, none⟩)] w (TokPost (numOf true n i j) pb s w) := by
  have c1 := h.c1
  have hlt : pb < w.heap.size := lt_of_block h
  have HH := Lib.hid h
  have HJ := Lib.hid hj
  have HX := Lib.hid ht
  clear h hj ht
  rcases hb with ⟨a1, a2⟩ | ⟨a1, a2, hjs, a3⟩ | ⟨a1, hjs, a3⟩
  · have a1' : (1 : Int) < (t.size : Int) := by omega
    go_enter Tryd.func41, Tryd.ntmps41
    go_wp2_with fail
    refine (run_at 32 digitB enters32 digit_any pb s i _ hi hs (HH.out.alloc _) j HJ t HX).mono ?_
    rintro e w1 ⟨rfl, hS, hkp⟩
    have K1 : Keep [pb] w w1 := ((Keep.refl [pb] w).alloc _).trans hkp
    have R1 := hkp.at (tok_new w) (by simp; omega)
    have d0 := hS.c0
    have d1 := hS.c1
    have HS := Lib.hid hS
    clear hS
    go_wp2_with fail
    go_quiet ((go_at_call 33; refine quiet_eq (letter_any _ _)))
    go_wp2_with fail
    exact ⟨rfl, K1.drewN _, rfl⟩
  · have a1' : (1 : Int) < (t.size : Int) := by omega
    have hjs' : (j : Int) < (s.size : Int) := by omega
    go_enter Tryd.func41, Tryd.ntmps41
    go_wp2_with fail
    refine (run_at 32 digitB enters32 digit_any pb s i _ hi hs (HH.out.alloc _) j HJ t HX).mono ?_
    rintro e w1 ⟨rfl, hS, hkp⟩
    have K1 : Keep [pb] w w1 := ((Keep.refl [pb] w).alloc _).trans hkp
    have R1 := hkp.at (tok_new w) (by simp; omega)
    have d0 := hS.c0
    have d1 := hS.c1
    have HS := Lib.hid hS
    clear hS
    go_wp2_with fail
    go_quiet ((go_at_call 33; refine quiet_eq (letter_any _ _)))
    go_wp2_with fail
    exact ⟨rfl, K1.drewN _, rfl⟩
  · have a1' : decide ((1 : Int) < (t.size : Int)) = false := by simp; omega
    have hjs' : (j : Int) < (s.size : Int) := by omega
    go_enter Tryd.func41, Tryd.ntmps41
    go_wp2_with fail
    refine (run_at 32 digitB enters32 digit_any pb s i _ hi hs (HH.out.alloc _) j HJ t HX).mono ?_
    rintro e w1 ⟨rfl, hS, hkp⟩
    have K1 : Keep [pb] w w1 := ((Keep.refl [pb] w).alloc _).trans hkp
    have R1 := hkp.at (tok_new w) (by simp; omega)
    have d0 := hS.c0
    have d1 := hS.c1
    have HS := Lib.hid hS
    clear hS
    go_wp2_with fail
    go_quiet ((go_at_call 33; refine quiet_eq (letter_any _ _)))
    go_wp2_with fail
    exact ⟨rfl, K1.drewN _, rfl⟩
set_option maxRecDepth 100000 in
set_option maxHeartbeats 4000000 in
theorem number_ok (pb : Nat) (s : ByteArray) (i : Nat) (w : World) (hi : i ≤ s.size) (hs : s.size ≤ 65536) (h : Scn pb s i w)
    (j : Nat) (hj : runEnd digitB s i = j) (t : ByteArray) (ht : s.extract i j = t) (h0 : 0 < t.size) (htl : t.size ≤ 65536) (hd : ∀ (k : Nat) (hk : k < t.size), 48 ≤ t[k].toNat ∧ t[k].toNat ≤ 57)
    (hb : (1 < t.size ∧ (((t[0]'h0).toNat : Int) == 48) = false) ∨ (¬ 1 < t.size)) (hb2 : (∃ _ : j < s.size, letterB (s[j].toNat : Int) = false) ∨ (¬ j < s.size)) :
    Calls Tryd.prog 41 #[.pointer (some ⟨pb, 0, none⟩)] w (TokPost (numOf false (numFold t.data.toList) i j) pb s w) := by
  have c1 := h.c1
  have hlt : pb < w.heap.size := lt_of_block h
  have HH := Lib.hid h
  have HJ := Lib.hid hj
  have HX := Lib.hid ht
  have HD := Lib.hid hd
  clear h hj ht hd
  have hb' : (((1 : Int) < (t.size : Int)) ∧ (((t[0]'h0).toNat : Int) == 48) = false) ∨ (decide ((1 : Int) < (t.size : Int)) = false) := by
    rcases hb with ⟨a, b⟩ | a
    · exact Or.inl ⟨by omega, b⟩
    · exact Or.inr (by simp; omega)
  have hb2' : (∃ _ : j < s.size, (j : Int) < (s.size : Int) ∧ letterB (s[j].toNat : Int) = false) ∨ (decide (j < s.size) = false) := by
    rcases hb2 with ⟨a, b⟩ | a
    · exact Or.inl ⟨a, by omega, b⟩
    · exact Or.inr (by simp; omega)
  clear hb hb2
  rcases hb' with ⟨a1, a2⟩ | a1 <;> rcases hb2' with ⟨b1, b2, b3⟩ | b1
  all_goals
    go_enter Tryd.func41, Tryd.ntmps41
    go_wp2_with fail
    refine (run_at 32 digitB enters32 digit_any pb s i _ hi hs (HH.out.alloc _) j HJ t HX).mono ?_
    rintro e w1 ⟨rfl, hS, hkp⟩
    have K1 : Keep [pb] w w1 := ((Keep.refl [pb] w).alloc _).trans hkp
    have R1 := hkp.at (tok_new w) (by simp; omega)
    have d0 := hS.c0
    have d1 := hS.c1
    have HS := Lib.hid hS
    clear hS
    go_wp2_with fail
    go_quiet ((go_at_call 33; refine quiet_eq (letter_any _ _)))
    go_wp2_with fail
    go_loop [5, 50] (fun n c => ∃ k : Nat, k ≤ t.size ∧ c = .int .i64 k ∧ n = .int .i64 (numFold (t.data.toList.take k))) (fun _ c => t.size - (intOf c).toNat)
    case atStart => exact ⟨0, Nat.zero_le _, rfl, rfl⟩
    case round =>
      obtain ⟨k, hk, rfl, rfl⟩ := hrel
      have hbd := numFold_bd (t.data.toList.take k) (fun b hb => by
        obtain ⟨q, hq, e⟩ := List.mem_iff_getElem.1 (List.mem_of_mem_take hb)
        have := (HD.out q (by simpa using hq)).1
        rw [← e, toList_get]; exact this)
      by_cases hlt2 : k < t.size
      · have hdk := HD.out k hlt2
        have HN : Hid (numFold (t.data.toList.take (k + 1)) = min (10 * numFold (t.data.toList.take k) + ((t[k].toNat : Int) - 48)) 1125899906842625) := by rw [take_snoc t k hlt2]; exact numFold_snoc _ _
        obtain ⟨q, hq⟩ : ∃ q, numFold (t.data.toList.take k) = q := ⟨_, rfl⟩
        rw [hq] at hbd HN ⊢
        clear hq
        go_wp2_with fail
        go_round
        case rel => exact ⟨k + 1, by omega, by go_num, by rw [HN.out]⟩
        case measure => simp [intOf]; omega
      · obtain rfl : k = t.size := by omega
        rw [take_all] at hbd ⊢
        obtain ⟨r0, r1, r2, r3, f0, f1, f2, f3⟩ := blk4 R1
        clear R1
        by_cases hbig : 1125899906842624 < numFold t.data.toList
        · go_wp2_with fail
          refine ⟨rfl, K1.drewN _, ?_⟩
          rw [numOf, if_neg (by simp), if_pos hbig]
          rfl
        · go_wp2_with fail
          refine bodyPost_ret (v := .agg #[.int .i64 3, .string ⟨#[]⟩, .int .i64 (numFold t.data.toList), .int .i64 i]) (by simp [results, Tryd.results41, go_sem, r0, r1, r2, r3]) rfl ?_
          refine ⟨(K1.drewN _).set4 (Nat.le_refl _) _ _ _ _, ?_⟩
          rw [numOf, if_neg (by simp), if_neg (by omega)]
          exact ⟨rfl, blk_other4 (blk_drewN HS.out _) (by omega) _ _ _ _⟩
theorem extract_get (s : ByteArray) (i j k : Nat) (hk : k < (s.extract i j).size) (h : i + k < s.size) : (s.extract i j)[k] = s[i + k] := by
  have : (s.extract i j)[k] = (s.extract i j).data[k] := rfl
  rw [this]
  simp
  rfl
theorem extract_size (s : ByteArray) (i j : Nat) (h : j ≤ s.size) : (s.extract i j).size = j - i := by
  have : (s.extract i j).size = min j s.size - i := by simp
  omega
theorem scanNumber_any (pb : Nat) (s : ByteArray) (i : Nat) (w : World) (hi : i < s.size) (hd : digitB (s[i].toNat : Int) = true) (hs : s.size ≤ 65536) (h : Scn pb s i w) :
    Calls Tryd.prog 41 #[.pointer (some ⟨pb, 0, none⟩)] w (TokPost (scanNumber s i) pb s w) := by
  obtain ⟨j, hj⟩ : ∃ j, runEnd digitB s i = j := ⟨_, rfl⟩
  have hle := runEnd_le digitB s (s.size - i) i rfl (by omega)
  have hgt : i < runEnd digitB s i := by
    rw [runEnd_step hi hd]; have := (runEnd_le digitB s (s.size - (i + 1)) (i + 1) rfl (by omega)).1; omega
  have hall := runEnd_all digitB s (s.size - i) i rfl
  unfold scanNumber
  rw [hj] at hle hgt hall ⊢
  have hsz := extract_size s i j hle.2
  have h0 : 0 < (s.extract i j).size := by omega
  have hg0 : ((s.extract i j)[0]'h0) = s[i] := extract_get s i j 0 h0 (by omega)
  have hdig : ∀ (k : Nat) (hk : k < (s.extract i j).size), 48 ≤ (s.extract i j)[k].toNat ∧ (s.extract i j)[k].toNat ≤ 57 := by
    intro k hk
    rw [extract_get s i j k hk (by omega)]
    have := hall (i + k) (by omega) (by omega) (by omega)
    simp [digitB] at this
    omega
  have e0 : byteAt s i = (s[i].toNat : Int) := byteAt_eq hi
  by_cases hb : numBad s i j = true
  · rw [hb]
    refine number_bad pb s i w (by omega) hs h j hj _ rfl h0 (by omega) _ ?_
    rw [hg0]
    simp only [numBad, e0, Bool.or_eq_true, Bool.and_eq_true, decide_eq_true_eq] at hb
    by_cases h1 : 1 < j - i ∧ ((s[i].toNat : Int) == 48) = true
    · exact Or.inl ⟨by omega, h1.2⟩
    · rcases hb with hb | ⟨hjs, hb⟩
      · exact absurd hb h1
      · rw [byteAt_eq hjs] at hb
        by_cases h2 : 1 < j - i
        · refine Or.inr (Or.inl ⟨by omega, ?_, hjs, hb⟩)
          cases h3 : ((s[i].toNat : Int) == 48) with
          | false => rfl
          | true => exact absurd ⟨h2, h3⟩ h1
        · exact Or.inr (Or.inr ⟨by omega, hjs, hb⟩)
  · have hb : numBad s i j = false := by simpa using hb
    rw [hb]
    have hb' := hb
    simp only [numBad, e0, Bool.or_eq_false_iff, Bool.and_eq_false_iff, decide_eq_false_iff_not] at hb'
    obtain ⟨b1, b2⟩ := hb'
    refine number_ok pb s i w (by omega) hs h j hj _ rfl h0 (by omega) hdig ?_ ?_
    · rw [hg0]
      by_cases h1 : 1 < (s.extract i j).size
      · rcases b1 with b1 | b1
        · omega
        · exact Or.inl ⟨h1, b1⟩
      · exact Or.inr h1
    · by_cases hjs : j < s.size
      · rcases b2 with b2 | b2
        · omega
        · rw [byteAt_eq hjs] at b2; exact Or.inl ⟨hjs, b2⟩
      · exact Or.inr hjs
end Go.Proofs.YtippkncnecbhlaaDoor.Lx
