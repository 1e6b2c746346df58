/- The walk of the reference's symbol. -/
import Derived.Test.YtippkncnecbhlaaDoorRf6
namespace Go.Proofs.YtippkncnecbhlaaDoor.Lx
open Go.RowKit
def syms : List (List UInt8) := [[60, 62], [60, 61], [62, 61], [124, 124], [40], [41], [44], [46], [59], [42], [61], [60], [62], [43], [45], [47], [37]]
def symCells : Array Value := (syms.map fun y => Value.string ⟨y.toArray⟩).toArray
def symHit (s : ByteArray) (i : Nat) (y : List UInt8) : Prop := i + y.length ≤ s.size ∧ s.extract i (i + y.length) = ⟨y.toArray⟩
theorem sym_cell (k : Nat) (hk : k < 17) : symCells[k]? = some (.string ⟨(syms.getD k []).toArray⟩) := by
  have h : k < syms.length := hk
  simp only [symCells, List.getElem?_toArray, List.getElem?_map, List.getD_eq_getElem?_getD, List.getElem?_eq_getElem h]
  rfl
theorem sym_len (k : Nat) (hk : k < 17) : (syms.getD k []).length = 1 ∨ (syms.getD k []).length = 2 := by
  have h : k < syms.length := hk
  have h2 : ∀ y ∈ syms, y.length = 1 ∨ y.length = 2 := by decide
  rw [List.getD_eq_getElem?_getD, List.getElem?_eq_getElem h]
  exact h2 _ (List.getElem_mem h)
set_option maxRecDepth 100000 in
set_option maxHeartbeats 4000000 in
theorem refSymbol_any (s : ByteArray) (i : Nat) (w : World) (hi : i < s.size) (hs : s.size ≤ 65536)
    (R : Scan) (hhit : ∀ k, k < 17 → symHit s i (syms.getD k []) → (∀ j, j < k → ¬ symHit s i (syms.getD j [])) → R = .ok ({ kind := 5, text := ⟨(syms.getD k []).toArray⟩, num := 0, at_ := i }, i + (syms.getD k []).length))
    (hno : (∀ j, j < 17 → ¬ symHit s i (syms.getD j [])) → R = .error (i, 1)) :
    Calls Tryd.prog 26 #[.string s, .int .i64 i] w (RefPost R i w) := by
  have HH := Lib.hid hhit
  have HNO := Lib.hid hno
  clear hhit hno
  go_enter Tryd.func26, Tryd.ntmps26
  go_wp2_with fail
  have R0 := Lib.hid (tok_new w)
  have K0 : Keep [] w (w.alloc (.cells #[.int .i64 0, .string ⟨#[]⟩, .int .i64 0, .int .i64 0] 30)) := (Keep.refl _ _).alloc _
  have hL : Hid (w.heap.size + 1 = (w.alloc (.cells #[.int .i64 0, .string ⟨#[]⟩, .int .i64 0, .int .i64 0] 30)).heap.size) := Lib.hid (by simp)
  generalize (w.alloc (.cells #[.int .i64 0, .string ⟨#[]⟩, .int .i64 0, .int .i64 0] 30)) = w1 at R0 K0 hL ⊢
  generalize hW : w1.alloc _ = w2
  have S0 : Hid (w2.heap[w.heap.size + 1]? = some (.cells symCells 9 (0, 0))) := Lib.hid (by rw [← hW, hL.out]; exact blk_new w1 _)
  have K1 : Keep [] w1 w2 := by rw [← hW]; exact (Keep.refl _ _).alloc _
  clear hW
  go_loopw [8] (fun c wr => ∃ k : Nat, k ≤ 17 ∧ c = .int .i64 k ∧ Keep [] w2 wr ∧ Hid (∀ j, j < k → ¬ symHit s i (syms.getD j []))) (fun c _ => 17 - (intOf c).toNat)
  case atStart => exact ⟨0, Nat.zero_le _, rfl, Keep.refl _ _, fun j hj => by omega⟩
  case round =>
    obtain ⟨k, hk, rfl, hkeep, HA⟩ := hrel
    obtain ⟨r0, r1, r2, r3, f0, f1, f2, f3⟩ := blk4 (hkeep.at (K1.at R0.out (by simp)) (by simp))
    by_cases hlt : k < 17
    · have hc := (blk_cell (hkeep.at S0.out (by simp)) k).trans (sym_cell k hlt)
      have hyl := sym_len k hlt
      have H1 := Lib.hid (HH.out k hlt)
      have H2 : Hid (¬ symHit s i (syms.getD k []) → ∀ j, j < k + 1 → ¬ symHit s i (syms.getD j [])) := Lib.hid (fun hn j hj => by
        by_cases e : j = k
        · subst e; exact hn
        · exact HA.out j (by omega))
      generalize syms.getD k [] = y at hc hyl H1 H2
      have H1 : Hid (symHit s i y → R = .ok ({ kind := 5, text := ⟨y.toArray⟩, num := 0, at_ := i }, i + y.length)) := Lib.hid (fun h => H1.out h HA.out)
      go_wp2_with fail
      obtain ⟨m, hm⟩ : ∃ m, i + y.length = m := ⟨_, rfl⟩
      have hm2 : (i : Int) + (y.length : Int) = (m : Int) := by omega
      rw [hm2]
      have HM := Lib.hid hm
      clear hm2 hm
      by_cases hms : m ≤ s.size
      · have m1 : (m : Int) ≤ (s.size : Int) := by omega
        have m2 : (i : Int) ≤ (m : Int) := by have := HM.out; omega
        obtain ⟨t, ht⟩ : ∃ t, s.extract i m = t := ⟨_, rfl⟩
        have HT := Lib.hid ht
        clear ht
        go_quiet (fail)
        rw [HT.out]
        cases he : (t.toList == y) with
        | true =>
          have hty : t = ⟨y.toArray⟩ := by
            have e1 : t.toList = y := by simpa using he
            rw [ByteArray.toList_eq] at e1
            rw [← e1]
          have e := H1.out ⟨by rw [HM.out]; exact hms, by rw [HM.out, HT.out]; exact hty⟩
          subst e
          clear he
          go_wp2_with fail
          refine bodyPost_ret (v := .tuple #[.agg #[.int .i64 5, .string ⟨y.toArray⟩, .int .i64 0, .int .i64 i], .int .i64 m, .int .i64 0]) (by simp [results, Tryd.results26, go_sem, r0, r1, r2, r3]) rfl ?_
          refine ⟨(((K0.trans K1).trans hkeep).drewN _).set4 (Nat.le_refl _) _ _ _ _, ?_⟩
          rw [HM.out]; rfl
        | false =>
          have hno : ¬ symHit s i y := fun h => by
            have h2 := h.2
            rw [HM.out, HT.out] at h2
            rw [h2, ByteArray.toList_eq] at he
            simp at he
          clear he
          go_wp2_with fail
          go_roundw
          case rel => exact ⟨k + 1, by omega, by go_num, hkeep.drewN _, H2.out hno⟩
          case measure => simp [intOf]; omega
      · have m1 : ¬ (m : Int) ≤ (s.size : Int) := by omega
        have hno : ¬ symHit s i y := fun h => by have h1 := h.1; rw [HM.out] at h1; omega
        go_quiet (fail)
        go_wp2_with fail
        go_roundw
        case rel => exact ⟨k + 1, by omega, by go_num, hkeep.drewN _, H2.out hno⟩
        case measure => simp [intOf]; omega
    · obtain rfl : k = 17 := by omega
      have e := HNO.out HA.out
      subst e
      go_wp2_with fail
      refine bodyPost_ret (v := .tuple #[zeroTok, .int .i64 i, .int .i64 1]) (by simp [results, Tryd.results26, go_sem, r0, r1, r2, r3, zeroTok]) rfl ?_
      refine ⟨((K0.trans K1).trans hkeep).set4 (Nat.le_refl _) _ _ _ _, ?_⟩
      exact ⟨rfl, rfl⟩
end Go.Proofs.YtippkncnecbhlaaDoor.Lx
