/- The walk of (*scanner).symbol. -/
import Derived.Test.YtippkncnecbhlaaDoorLxScan1
import Derived.StillTailTactics
namespace Go.Proofs.YtippkncnecbhlaaDoor.Lx
open Go.RowKit
set_option maxRecDepth 100000 in
set_option maxHeartbeats 4000000 in
theorem symbol_two (pb : Nat) (s : ByteArray) (i : Nat) (w : World) (hs : s.size ≤ 65536) (h : Scn pb s i w) (h2 : i + 2 ≤ s.size)
    (u : ByteArray) (hu : s.extract i (i + 2) = u) (ht : u.toList = [60, 62] ∨ u.toList = [60, 61] ∨ u.toList = [62, 61] ∨ u.toList = [124, 124]) :
    Calls Tryd.prog 43 #[.pointer (some ⟨pb, 0, none⟩)] w (TokPost (.ok ({ kind := 5, text := u, num := 0, at_ := i }, i + 2)) pb s w) := by
  have c0 := h.c0
  have c1 := h.c1
  have f1 := h.f1
  have hlt : pb < w.heap.size := lt_of_block h
  have HH := Lib.hid h
  have HU := Lib.hid hu
  clear h hu
  have h2' : (i : Int) + 2 ≤ (s.size : Int) := by omega
  have z0 : (0 : Int) ≤ (i : Int) + 2 := by omega
  rcases ht with ht | ht | ht | ht
  all_goals
    go_enter Tryd.func43, Tryd.ntmps43
    go_wp2_with fail
    go_quiet (fail)
    go_wp2_with fail
    go_quiet (fail)
    rw [HU.out]
    go_wp2_with fail
    go_quiet (fail)
    go_wp2_with fail
    generalize hW : ((w.alloc (.cells #[.int .i64 0, .string ⟨#[]⟩, .int .i64 0, .int .i64 0] 30)).drewN _).setCell ⟨pb, 1, none⟩ (.int .i64 ((i : Int) + 2)) = w2
    have S2 : Hid (Scn pb s ((i : Int) + 2) w2) := by rw [← hW]; exact Scn.set (blk_alloc HH.out _) _
    have R2 : w2.heap[w.heap.size]? = some (.cells #[.int .i64 0, .string ⟨#[]⟩, .int .i64 0, .int .i64 0] 30 (0, 0)) := by rw [← hW]; exact blk_other (w := (w.alloc _).drewN _) (tok_new w) (by simp; omega) _
    have K2 : Keep [pb] w w2 := by rw [← hW]; exact (((Keep.refl [pb] w).alloc _).drewN _).setCell (Or.inl (by simp)) _
    clear hW
    refine wp_region_still_tail 22 (by kernel_rfl) (by kernel_rfl) ?_
    simp only [List.take_succ_cons, List.take_zero, List.drop_succ_cons, List.drop_zero]
    generalize hW : ({ w2 with drawn := w2.drawn + 1 } : World) = w3
    have S3 : Hid (Scn pb s ((i : Int) + 2) w3) := by rw [← hW]; exact S2
    have K3 : Keep [pb] w w3 := by rw [← hW]; exact K2.drew
    have R3 : w3.heap[w.heap.size]? = some (.cells #[.int .i64 0, .string ⟨#[]⟩, .int .i64 0, .int .i64 0] 30 (0, 0)) := by rw [← hW]; exact R2
    obtain ⟨r0, r1, r2, r3, q0, q1, q2, q3⟩ := blk4 R3
    have d0 := S3.out.c0
    have d1 := S3.out.c1
    clear hW R2 R3 S2 K2
    have y1 : IntKind.i64.wrap (i : Int) = (i : Int) := IntWalk.i64_in _ (by omega)
    have y2 : (i : Int) ≤ (i : Int) + 2 := by omega
    have y3 : ((i : Int) + 2).toNat = i + 2 := by omega
    have y4 : (0 : Int) ≤ (i : Int) := by omega
    repeat still_step
    refine wpStill_nil ?_
    clear y1 y2 y3 y4
    rw [HU.out]
    go_wp2_with fail
    refine bodyPost_ret (v := .agg #[.int .i64 5, .string u, .int .i64 0, .int .i64 i]) (by simp [results, Tryd.results43, go_sem, r0, r1, r2, r3]) rfl ?_
    refine ⟨K3.set4 (Nat.le_refl _) _ _ _ _, rfl, blk_other4 S3.out (by omega) _ _ _ _⟩
end Go.Proofs.YtippkncnecbhlaaDoor.Lx
