/- The walk of (*scanner).symbol, one byte. -/
import Derived.Test.YtippkncnecbhlaaDoorLxScan1
import Derived.StillTailTactics
namespace Go.Proofs.YtippkncnecbhlaaDoor.Lx
open Go.RowKit
set_option maxRecDepth 100000 in
set_option maxHeartbeats 4000000 in
theorem symbol_bad (pb : Nat) (s : ByteArray) (i : Nat) (w : World) (hi : i < s.size) (hs : s.size ≤ 65536) (h : Scn pb s i w)
    (u t : ByteArray) (hu : s.extract i (i + 2) = u) (ht : s.extract i (i + 1) = t) (ho : oneB s[i] = false)
    (h2 : (i + 2 ≤ s.size ∧ (u.toList == [60, 62]) = false ∧ (u.toList == [60, 61]) = false ∧ (u.toList == [62, 61]) = false ∧ (u.toList == [124, 124]) = false) ∨ s.size < i + 2) :
    Calls Tryd.prog 43 #[.pointer (some ⟨pb, 0, none⟩)] w (TokPost (.error (i, 1)) pb s w) := by
  have c0 := h.c0
  have c1 := h.c1
  have f1 := h.f1
  have hlt : pb < w.heap.size := lt_of_block h
  have HH := Lib.hid h
  have HU := Lib.hid hu
  have HT := Lib.hid ht
  have HO := Lib.hid ho
  clear h hu ht ho
  have z0 : (0 : Int) ≤ (i : Int) + 2 := by omega
  have z1 : (0 : Int) ≤ (i : Int) := by omega
  rcases h2 with ⟨h2, a1, a2, a3, a4⟩ | h2
  · have h2' : (i : Int) + 2 ≤ (s.size : Int) := by omega
    go_enter Tryd.func43, Tryd.ntmps43
    go_wp2_with fail
    go_quiet (fail)
    go_wp2_with fail
    go_quiet (fail)
    rw [HU.out]
    go_wp2_with fail
    generalize hW : ((w.alloc (.cells #[.int .i64 0, .string ⟨#[]⟩, .int .i64 0, .int .i64 0] 30)).drewN _) = w2
    have S2 : Hid (Scn pb s i w2) := by rw [← hW]; exact blk_alloc HH.out _
    have R2 : Hid (w2.heap[w.heap.size]? = some (.cells #[.int .i64 0, .string ⟨#[]⟩, .int .i64 0, .int .i64 0] 30 (0, 0))) := by rw [← hW]; exact tok_new w
    have K2 : Keep [pb] w w2 := by rw [← hW]; exact ((Keep.refl [pb] w).alloc _).drewN _
    clear hW
    have d0 := S2.out.c0
    have d1 := S2.out.c1
    have e1 := S2.out.f1
    go_quiet ((go_at_call 60; refine Calls.quiet_of_same (Tryd.strings_IndexByte _ _ _)))
    have hneg : Lib.indexByte [40, 41, 44, 46, 59, 42, 61, 60, 62, 43, 45, 47, 37] s[i] < 0 := Int.not_le.1 (of_decide_eq_false HO.out)
    go_wp2_with fail
    exact ⟨rfl, K2.drewN _, rfl⟩
  · have h2' : ¬ (i : Int) + 2 ≤ (s.size : Int) := by omega
    go_enter Tryd.func43, Tryd.ntmps43
    go_wp2_with fail
    go_quiet (fail)
    go_wp2_with fail
    generalize hW : ((w.alloc (.cells #[.int .i64 0, .string ⟨#[]⟩, .int .i64 0, .int .i64 0] 30)).drewN _) = w2
    have S2 : Hid (Scn pb s i w2) := by rw [← hW]; exact blk_alloc HH.out _
    have R2 : Hid (w2.heap[w.heap.size]? = some (.cells #[.int .i64 0, .string ⟨#[]⟩, .int .i64 0, .int .i64 0] 30 (0, 0))) := by rw [← hW]; exact tok_new w
    have K2 : Keep [pb] w w2 := by rw [← hW]; exact ((Keep.refl [pb] w).alloc _).drewN _
    clear hW
    have d0 := S2.out.c0
    have d1 := S2.out.c1
    have e1 := S2.out.f1
    go_quiet ((go_at_call 60; refine Calls.quiet_of_same (Tryd.strings_IndexByte _ _ _)))
    have hneg : Lib.indexByte [40, 41, 44, 46, 59, 42, 61, 60, 62, 43, 45, 47, 37] s[i] < 0 := Int.not_le.1 (of_decide_eq_false HO.out)
    go_wp2_with fail
    exact ⟨rfl, K2.drewN _, rfl⟩
set_option maxRecDepth 100000 in
set_option maxHeartbeats 4000000 in
theorem symbol_one (pb : Nat) (s : ByteArray) (i : Nat) (w : World) (hi : i < s.size) (hs : s.size ≤ 65536) (h : Scn pb s i w)
    (u t : ByteArray) (hu : s.extract i (i + 2) = u) (ht : s.extract i (i + 1) = t) (ho : oneB s[i] = true)
    (h2 : (i + 2 ≤ s.size ∧ (u.toList == [60, 62]) = false ∧ (u.toList == [60, 61]) = false ∧ (u.toList == [62, 61]) = false ∧ (u.toList == [124, 124]) = false) ∨ s.size < i + 2) :
    Calls Tryd.prog 43 #[.pointer (some ⟨pb, 0, none⟩)] w (TokPost (.ok ({ kind := 5, text := t, num := 0, at_ := i }, i + 1)) pb s w) := by
  have c0 := h.c0
  have c1 := h.c1
  have f1 := h.f1
  have hlt : pb < w.heap.size := lt_of_block h
  have HH := Lib.hid h
  have HU := Lib.hid hu
  have HT := Lib.hid ht
  have HO := Lib.hid ho
  clear h hu ht ho
  have z0 : (0 : Int) ≤ (i : Int) + 2 := by omega
  have z1 : (0 : Int) ≤ (i : Int) := by omega
  rcases h2 with ⟨h2, a1, a2, a3, a4⟩ | h2
  · have h2' : (i : Int) + 2 ≤ (s.size : Int) := by omega
    go_enter Tryd.func43, Tryd.ntmps43
    go_wp2_with fail
    go_quiet (fail)
    go_wp2_with fail
    go_quiet (fail)
    rw [HU.out]
    go_wp2_with fail
    generalize hW : ((w.alloc (.cells #[.int .i64 0, .string ⟨#[]⟩, .int .i64 0, .int .i64 0] 30)).drewN _) = w2
    have S2 : Hid (Scn pb s i w2) := by rw [← hW]; exact blk_alloc HH.out _
    have R2 : Hid (w2.heap[w.heap.size]? = some (.cells #[.int .i64 0, .string ⟨#[]⟩, .int .i64 0, .int .i64 0] 30 (0, 0))) := by rw [← hW]; exact tok_new w
    have K2 : Keep [pb] w w2 := by rw [← hW]; exact ((Keep.refl [pb] w).alloc _).drewN _
    clear hW
    have d0 := S2.out.c0
    have d1 := S2.out.c1
    have e1 := S2.out.f1
    go_quiet ((go_at_call 60; refine Calls.quiet_of_same (Tryd.strings_IndexByte _ _ _)))
    have hneg : ¬ Lib.indexByte [40, 41, 44, 46, 59, 42, 61, 60, 62, 43, 45, 47, 37] s[i] < 0 := Int.not_lt.2 (of_decide_eq_true HO.out)
    go_wp2_with fail
    generalize hW : ((w2.drewN _).setCell ⟨pb, 1, none⟩ (.int .i64 ((i : Int) + 1))) = w4
    have S4 : Hid (Scn pb s ((i : Int) + 1) w4) := by rw [← hW]; exact Scn.set (w := w2.drewN _) S2.out _
    have R4 : w4.heap[w.heap.size]? = some (.cells #[.int .i64 0, .string ⟨#[]⟩, .int .i64 0, .int .i64 0] 30 (0, 0)) := by rw [← hW]; exact blk_other (w := w2.drewN _) R2.out (by simp; omega) _
    have K4 : Keep [pb] w w4 := by rw [← hW]; exact (K2.drewN _).setCell (Or.inl (by simp)) _
    clear hW d0 d1 e1
    refine wp_region_still_tail 22 (by kernel_rfl) (by kernel_rfl) ?_
    simp only [List.take_succ_cons, List.take_zero, List.drop_succ_cons, List.drop_zero]
    generalize hW : ({ w4 with drawn := w4.drawn + 1 } : World) = w3
    have S3 : Hid (Scn pb s ((i : Int) + 1) w3) := by rw [← hW]; exact S4
    have K3 : Keep [pb] w w3 := by rw [← hW]; exact K4.drew
    have R3 : w3.heap[w.heap.size]? = some (.cells #[.int .i64 0, .string ⟨#[]⟩, .int .i64 0, .int .i64 0] 30 (0, 0)) := by rw [← hW]; exact R4
    obtain ⟨r0, r1, r2, r3, q0, q1, q2, q3⟩ := blk4 R3
    have d0 := S3.out.c0
    have d1 := S3.out.c1
    clear hW R3 R4 S4 K4
    have y1 : IntKind.i64.wrap (i : Int) = (i : Int) := IntWalk.i64_in _ (by omega)
    have y2 : (i : Int) ≤ (i : Int) + 1 := by omega
    have y3 : ((i : Int) + 1).toNat = i + 1 := by omega
    have y4 : (0 : Int) ≤ (i : Int) := by omega
    have y5 : (0 : Int) ≤ (i : Int) + 1 := by omega
    have y6 : (i : Int) + 1 ≤ (s.size : Int) := by omega
    repeat still_step
    refine wpStill_nil ?_
    clear y1 y2 y3 y4 y5 y6
    rw [HT.out]
    go_wp2_with fail
    refine bodyPost_ret (v := .agg #[.int .i64 5, .string t, .int .i64 0, .int .i64 i]) (by simp [results, Tryd.results43, go_sem, r0, r1, r2, r3]) rfl ?_
    refine ⟨K3.set4 (Nat.le_refl _) _ _ _ _, rfl, blk_other4 S3.out (by omega) _ _ _ _⟩
  · have h2' : ¬ (i : Int) + 2 ≤ (s.size : Int) := by omega
    go_enter Tryd.func43, Tryd.ntmps43
    go_wp2_with fail
    go_quiet (fail)
    go_wp2_with fail
    generalize hW : ((w.alloc (.cells #[.int .i64 0, .string ⟨#[]⟩, .int .i64 0, .int .i64 0] 30)).drewN _) = w2
    have S2 : Hid (Scn pb s i w2) := by rw [← hW]; exact blk_alloc HH.out _
    have R2 : Hid (w2.heap[w.heap.size]? = some (.cells #[.int .i64 0, .string ⟨#[]⟩, .int .i64 0, .int .i64 0] 30 (0, 0))) := by rw [← hW]; exact tok_new w
    have K2 : Keep [pb] w w2 := by rw [← hW]; exact ((Keep.refl [pb] w).alloc _).drewN _
    clear hW
    have d0 := S2.out.c0
    have d1 := S2.out.c1
    have e1 := S2.out.f1
    go_quiet ((go_at_call 60; refine Calls.quiet_of_same (Tryd.strings_IndexByte _ _ _)))
    have hneg : ¬ Lib.indexByte [40, 41, 44, 46, 59, 42, 61, 60, 62, 43, 45, 47, 37] s[i] < 0 := Int.not_lt.2 (of_decide_eq_true HO.out)
    go_wp2_with fail
    generalize hW : ((w2.drewN _).setCell ⟨pb, 1, none⟩ (.int .i64 ((i : Int) + 1))) = w4
    have S4 : Hid (Scn pb s ((i : Int) + 1) w4) := by rw [← hW]; exact Scn.set (w := w2.drewN _) S2.out _
    have R4 : w4.heap[w.heap.size]? = some (.cells #[.int .i64 0, .string ⟨#[]⟩, .int .i64 0, .int .i64 0] 30 (0, 0)) := by rw [← hW]; exact blk_other (w := w2.drewN _) R2.out (by simp; omega) _
    have K4 : Keep [pb] w w4 := by rw [← hW]; exact (K2.drewN _).setCell (Or.inl (by simp)) _
    clear hW d0 d1 e1
    refine wp_region_still_tail 22 (by kernel_rfl) (by kernel_rfl) ?_
    simp only [List.take_succ_cons, List.take_zero, List.drop_succ_cons, List.drop_zero]
    generalize hW : ({ w4 with drawn := w4.drawn + 1 } : World) = w3
    have S3 : Hid (Scn pb s ((i : Int) + 1) w3) := by rw [← hW]; exact S4
    have K3 : Keep [pb] w w3 := by rw [← hW]; exact K4.drew
    have R3 : w3.heap[w.heap.size]? = some (.cells #[.int .i64 0, .string ⟨#[]⟩, .int .i64 0, .int .i64 0] 30 (0, 0)) := by rw [← hW]; exact R4
    obtain ⟨r0, r1, r2, r3, q0, q1, q2, q3⟩ := blk4 R3
    have d0 := S3.out.c0
    have d1 := S3.out.c1
    clear hW R3 R4 S4 K4
    have y1 : IntKind.i64.wrap (i : Int) = (i : Int) := IntWalk.i64_in _ (by omega)
    have y2 : (i : Int) ≤ (i : Int) + 1 := by omega
    have y3 : ((i : Int) + 1).toNat = i + 1 := by omega
    have y4 : (0 : Int) ≤ (i : Int) := by omega
    have y5 : (0 : Int) ≤ (i : Int) + 1 := by omega
    have y6 : (i : Int) + 1 ≤ (s.size : Int) := by omega
    repeat still_step
    refine wpStill_nil ?_
    clear y1 y2 y3 y4 y5 y6
    rw [HT.out]
    go_wp2_with fail
    refine bodyPost_ret (v := .agg #[.int .i64 5, .string t, .int .i64 0, .int .i64 i]) (by simp [results, Tryd.results43, go_sem, r0, r1, r2, r3]) rfl ?_
    refine ⟨K3.set4 (Nat.le_refl _) _ _ _ _, rfl, blk_other4 S3.out (by omega) _ _ _ _⟩
end Go.Proofs.YtippkncnecbhlaaDoor.Lx
