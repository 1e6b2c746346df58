/- The walks of the law's examples and of Blank. -/
import Derived.Test.YtippkncnecbhlaaDoorLxTop
import Derived.Test.YtippkncnecbhlaaDoorLxEval
namespace Go.Proofs.YtippkncnecbhlaaDoor.Lx
open Go.RowKit
set_option maxHeartbeats 400000 in
theorem refBlank_any (c : Int) (w : World) :
    Calls Tryd.prog 11 #[.int .u8 c] w fun e w' => e = .returned (.bool (blankB c)) ∧ w = w' := by
  go_enter Tryd.func11, Tryd.ntmps11
  go_wp2
  all_goals go_ret
  all_goals exact ⟨ret_bool (by rw [Bool.eq_iff_iff]; simp [blankB]; try omega), rfl⟩
def TruePost (w : World) (e : Ending) (w' : World) : Prop := e = .returned (.bool true) ∧ Keep [] w w'
set_option maxRecDepth 100000 in
set_option maxHeartbeats 4000000 in
theorem awake_any (w : World) (h : Tab w) : Calls Tryd.prog 10 #[] w (TruePost w) := by
  have HT := Lib.hid h
  clear h
  go_enter Tryd.func10, Tryd.ntmps10
  go_wp2_with fail
  refine (tokens_any txt1 w HT.out).mono ?_
  rw [lex1]
  rintro e w1 ⟨hk1, v, rfl, hown⟩
  have HO := Lib.hid hown
  clear hown
  go_wp2_with fail
  refine (tokens_any txt2 w1 (HT.out.keep hk1 (by simp))).mono ?_
  rw [lex2]
  rintro e w2 ⟨hk2, rfl⟩
  go_wp2_with fail
  refine (tokens_any txt3 w2 ((HT.out.keep hk1 (by simp)).keep hk2 (by simp))).mono ?_
  rw [lex3]
  rintro e w3 ⟨hk3, rfl⟩
  have hown3 := owns_keep (owns_keep HO.out hk2 (by simp)) hk3 (by simp)
  rcases hown3.2 with ⟨rfl, h0⟩ | ⟨g, cap, cur, rfl, hg, hh, h1, h2, h3, h4⟩
  · simp [toks1] at h0
  · have hown4 : w3.ownsRow w.heap.size 30 4 (.slice (some ⟨g, 0, none⟩) 4 cap) 4 (toks1.flatMap Tok.cells) := hown3
    have cc : ∀ j, j < 16 → w3.cell? ⟨g, j, none⟩ = (toks1.flatMap Tok.cells)[j]? := fun j hj => hown4.cellAt j (by omega)
    have c0 := (cc 0 (by omega)).trans rfl
    have c1 := (cc 1 (by omega)).trans rfl
    have c2 := (cc 2 (by omega)).trans rfl
    have c3 := (cc 3 (by omega)).trans rfl
    have c4 := (cc 4 (by omega)).trans rfl
    have c5 := (cc 5 (by omega)).trans rfl
    have c6 := (cc 6 (by omega)).trans rfl
    have c7 := (cc 7 (by omega)).trans rfl
    have c9 := (cc 9 (by omega)).trans rfl
    have c11 := (cc 11 (by omega)).trans rfl
    have c12 := (cc 12 (by omega)).trans rfl
    have c13 := (cc 13 (by omega)).trans rfl
    have c14 := (cc 14 (by omega)).trans rfl
    have c15 := (cc 15 (by omega)).trans rfl
    simp only [toks1, Tok.cells, List.flatMap_cons, List.flatMap_nil, List.append_nil, List.cons_append, List.nil_append, List.getElem?_cons_zero, List.getElem?_cons_succ] at c0 c1 c2 c3 c4 c5 c6 c7 c9 c11 c12 c13 c14 c15
    have hl : toks1.length = 4 := rfl
    rw [hl]
    clear cc hown3 hown4 hh h1 h2 h3 h4 hg hl
    go_wp2_with fail
    go_ret
    exact ⟨rfl, (hk1.trans hk2).trans hk3⟩
end Go.Proofs.YtippkncnecbhlaaDoor.Lx
