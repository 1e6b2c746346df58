/- The walks of lexer.Tokens and of what it defers. -/
import Derived.Test.YtippkncnecbhlaaDoorLxAll
import Derived.Recover
import Derived.WideLaws
namespace Go.Proofs.YtippkncnecbhlaaDoor.Lx
open Go.RowKit
set_option maxRecDepth 100000 in
set_option maxHeartbeats 1000000 in
theorem catch_idle (p q r : Addr) (w : World) :
    CallsD Tryd.prog 19 #[.pointer (some p), .pointer (some q), .pointer (some r)] .returning w fun e u' w' => e = .returned (.tuple #[]) ∧ u' = .returning ∧ w' = w := by
  refine callsD_of_wpS Tryd.func19 rfl fun c₀ cs hu => ?_
  apply wpS_seq
  apply wpS_region
  simp [wpOpsS, go_sem, recoverD, hu, Tryd.ntmps19, Exit.thenS]
  refine wpS_of_wp ?_
  simp only [Array.replicate_succ, Array.replicate_zero, List.push_toArray, List.append_toArray, List.nil_append, List.cons_append, List.setIfInBounds_toArray, List.set_cons_succ, List.set_cons_zero]
  go_wp2
  cases c₀
  simp_all [bodyPostS, results, Tryd.results19]
set_option maxRecDepth 100000 in
set_option maxHeartbeats 1000000 in
theorem catch_fail (bl ba be : Nat) (v0 : Value) (x y a c : Int) (w : World) (h0 : w.heap[bl]? = some (.cells #[v0] 22 (0, 0))) (h1 : w.heap[ba]? = some (.cells #[.int .i64 x] 3 (0, 0))) (h2 : w.heap[be]? = some (.cells #[.int .i64 y] 23 (0, 0)))
    (n1 : bl ≠ ba) (n2 : bl ≠ be) (n3 : ba ≠ be) :
    CallsD Tryd.prog 19 #[.pointer (some ⟨bl, 0, none⟩), .pointer (some ⟨ba, 0, none⟩), .pointer (some ⟨be, 0, none⟩)] (.panicking [{ v := failV a c, recovered := false }]) w fun e u' w' =>
      e = .returned (.tuple #[]) ∧ u' = .panicking [{ v := failV a c, recovered := true }] ∧ Keep [bl, ba, be] w w' ∧
      w'.heap[bl]? = some (.cells #[.slice none 0 0] 22 (0, 0)) ∧ w'.heap[ba]? = some (.cells #[.int .i64 a] 3 (0, 0)) ∧ w'.heap[be]? = some (.cells #[.int .i64 c] 23 (0, 0)) := by
  unfold failV
  have hne : ∀ (u : TypeId) (x : Value) (w : World), (binOp .neq 20 (.iface u x) .nilIface).run Tryd.prog w = .ok (.bool true) w := fun u x w => run_neq_held_nil (P := Tryd.prog) w 20 u x (by kernel_rfl)
  have hta : ∀ (x : Value) (w : World), (Instr.typeAssert (.iface 36 x) 20 36 true).run Tryd.prog w = .ok (.tuple #[x, .bool true]) w := fun _ _ => by kernel_rfl
  refine callsD_of_wpS Tryd.func19 rfl fun c₀ cs hu => ?_
  apply wpS_seq
  apply wpS_region
  simp [wpOpsS, go_sem, recoverD, hu, Tryd.ntmps19, Exit.thenS]
  refine wpS_of_wp ?_
  simp only [Array.replicate_succ, Array.replicate_zero, List.push_toArray, List.append_toArray, List.nil_append, List.cons_append, List.setIfInBounds_toArray, List.set_cons_succ, List.set_cons_zero]
  go_wp2
  have lb := lt_of_block h0
  have la := lt_of_block h1
  have le := lt_of_block h2
  generalize hW : w.alloc (.cells #[.int .i64 a, .int .i64 c] 36) = w5
  have b0 : w5.heap[bl]? = some (.cells #[v0] 22 (0, 0)) := by rw [← hW]; exact blk_alloc h0 _
  have b1 : w5.heap[ba]? = some (.cells #[.int .i64 x] 3 (0, 0)) := by rw [← hW]; exact blk_alloc h1 _
  have b2 : w5.heap[be]? = some (.cells #[.int .i64 y] 23 (0, 0)) := by rw [← hW]; exact blk_alloc h2 _
  have b3 : w5.heap[w.heap.size]? = some (.cells #[.int .i64 a, .int .i64 c] 36 (0, 0)) := by rw [← hW]; exact blk_new w _
  have K5 : Keep [bl, ba, be] w w5 := by rw [← hW]; exact (Keep.refl _ _).alloc _
  clear hW
  have g0 := (blk_cell b0 0).trans rfl
  have g1 := (blk_cell b1 0).trans rfl
  have g2 := (blk_cell b2 0).trans rfl
  have g3 := (blk_cell b3 0).trans rfl
  have g4 := (blk_cell b3 1).trans rfl
  have k0 := blk_free b0 0
  have k1 := blk_free b1 0
  have k2 := blk_free b2 0
  obtain ⟨nb, hnb⟩ : ∃ nb, w.heap.size = nb := ⟨_, rfl⟩
  have HB0 := Lib.hid b0
  have HB1 := Lib.hid b1
  have HB2 := Lib.hid b2
  have HNB := Lib.hid hnb
  rw [hnb] at g3 g4 lb la le ⊢
  clear b0 b1 b2 b3 h0 h1 h2 hnb hne hta
  go_region
  have e0 : (((w5.setCell ⟨bl, 0, none⟩ (.slice none 0 0)).setCell ⟨ba, 0, none⟩ (.int .i64 a)).setCell ⟨be, 0, none⟩ (.int .i64 c)).drew.heap[bl]? = some (.cells #[.slice none 0 0] 22 (0, 0)) :=
    blk_other (blk_other ((blk_set HB0.out 0 _).trans rfl) (by simpa using n1.symm) _) (by simpa using n2.symm) _
  have e1 : (((w5.setCell ⟨bl, 0, none⟩ (.slice none 0 0)).setCell ⟨ba, 0, none⟩ (.int .i64 a)).setCell ⟨be, 0, none⟩ (.int .i64 c)).drew.heap[ba]? = some (.cells #[.int .i64 a] 3 (0, 0)) :=
    blk_other ((blk_set (blk_other HB1.out (by simpa using n1) _) 0 _).trans rfl) (by simpa using n3.symm) _
  have e2 : (((w5.setCell ⟨bl, 0, none⟩ (.slice none 0 0)).setCell ⟨ba, 0, none⟩ (.int .i64 a)).setCell ⟨be, 0, none⟩ (.int .i64 c)).drew.heap[be]? = some (.cells #[.int .i64 c] 23 (0, 0)) :=
    (blk_set (blk_other (blk_other HB2.out (by simpa using n2) _) (by simpa using n3) _) 0 _).trans rfl
  have e3 : Keep [bl, ba, be] w (((w5.setCell ⟨bl, 0, none⟩ (.slice none 0 0)).setCell ⟨ba, 0, none⟩ (.int .i64 a)).setCell ⟨be, 0, none⟩ (.int .i64 c)).drew :=
    (((K5.setCell (Or.inl (by simp)) _).setCell (Or.inl (by simp)) _).setCell (Or.inl (by simp)) _).drew
  generalize (((w5.setCell ⟨bl, 0, none⟩ (.slice none 0 0)).setCell ⟨ba, 0, none⟩ (.int .i64 a)).setCell ⟨be, 0, none⟩ (.int .i64 c)).drew = w6 at e0 e1 e2 e3 ⊢
  refine (show bodyPostS Tryd.prog Tryd.f19 c₀ cs _ Exit.normal _ _ _ from ?_)
  simp [bodyPostS, results, Tryd.results19]
  exact ⟨e3, e0, e1, e2⟩
theorem keep_new {S S' : List Nat} {a b c : World} (h : Keep S a b) (k : Keep S' b c) (hS : ∀ x ∈ S', x ∈ S ∨ a.heap.size ≤ x) : Keep S a c :=
  ⟨k.os.trans h.os, k.tape.trans h.tape, k.output.trans h.output, Nat.le_trans h.size k.size, fun i hi hs =>
    (k.block i (Nat.lt_of_lt_of_le hi h.size) (fun hm => (hS i hm).elim hs (fun h1 => by omega))).trans (h.block i hi hs)⟩
theorem owns_mono {w : World} {B B' : Nat} {e : TypeId} {size : Nat} {v : Value} {n : Nat} {xs : List Value} (h : w.ownsRow B e size v n xs) (hB : B' ≤ B) : w.ownsRow B' e size v n xs := by
  obtain ⟨h1, h2⟩ := h
  refine ⟨h1, ?_⟩
  rcases h2 with h2 | ⟨g, cap, cur, hv, hg, r⟩
  · exact Or.inl h2
  · exact Or.inr ⟨g, cap, cur, hv, by omega, r⟩
def LexPost (r : Except (Int × Int) (List Tok)) (w : World) (e : Ending) (w' : World) : Prop :=
  Keep [] w w' ∧ match r with
    | .error (a, c) => e = .returned (.tuple #[.slice none 0 0, .int .i64 a, .int .i64 c])
    | .ok l => ∃ v, e = .returned (.tuple #[v, .int .i64 0, .int .i64 0]) ∧ w'.ownsRow w.heap.size 30 4 v l.length (l.flatMap Tok.cells)
theorem Tab.pos {w : World} (h : Tab w) : 0 < w.heap.size := by
  unfold Tab Lib.TabIs World.var? at h
  simp only [gTab, Option.bind_some] at h
  cases hb : w.heap[0]? with
  | none => rw [hb] at h; simp at h
  | some o => exact lt_of_block hb
set_option maxRecDepth 100000 in
set_option maxHeartbeats 4000000 in
theorem tokens_big (s : ByteArray) (w : World) (hs : 65536 < s.size) : Calls Tryd.prog 7 #[.string s] w (LexPost (lex s) w) := by
  have hr : lex s = .error (0, 5) := by rw [lex, if_pos hs]
  rw [hr]
  clear hr
  have hs' : (65536 : Int) < (s.size : Int) := by omega
  go_enter_defers Tryd.func7, Tryd.ntmps7
  go_wp2
  have K : Keep [] w (((w.alloc (.cells #[.slice none 0 0] 22)).alloc (.cells #[.int .i64 0] 3)).alloc (.cells #[.int .i64 5] 23)) := (((Keep.refl _ _).alloc _).alloc _).alloc _
  simp only [bodyPostD, Leaves]
  exact ⟨.tuple #[.slice none 0 0, .int .i64 0, .int .i64 5], by simp [results, Tryd.results7, go_sem], K, rfl⟩
set_option maxRecDepth 100000 in
set_option maxHeartbeats 4000000 in
theorem tokens_small (s : ByteArray) (w : World) (hs : s.size ≤ 65536) (h : Tab w) : Calls Tryd.prog 7 #[.string s] w (LexPost (allToks s) w) := by
  have hmf : ∀ (fn : Fn) (first cap : Array Value) (w : World), (Instr.makeFunc fn first cap).run Tryd.prog w = .ok (.func fn first cap) w := fun _ _ _ _ => rfl
  have HT := Lib.hid h
  have hpos := h.pos
  clear h
  have hs' : ¬ (65536 : Int) < (s.size : Int) := by omega
  go_enter_defers Tryd.func7, Tryd.ntmps7
  go_wp2_with fail
  have n0 := blk_alloc (blk_alloc (blk_alloc (blk_new w (.cells #[.slice none 0 0] 22)) (.cells #[.int .i64 0] 3)) (.cells #[.int .i64 0] 23)) (.cells #[.string s, .int .i64 0] 40)
  have n1 := blk_alloc (blk_alloc (blk_new (w.alloc (.cells #[.slice none 0 0] 22)) (.cells #[.int .i64 0] 3)) (.cells #[.int .i64 0] 23)) (.cells #[.string s, .int .i64 0] 40)
  have n2 := blk_alloc (blk_new ((w.alloc (.cells #[.slice none 0 0] 22)).alloc (.cells #[.int .i64 0] 3)) (.cells #[.int .i64 0] 23)) (.cells #[.string s, .int .i64 0] 40)
  have n3 := blk_new (((w.alloc (.cells #[.slice none 0 0] 22)).alloc (.cells #[.int .i64 0] 3)).alloc (.cells #[.int .i64 0] 23)) (.cells #[.string s, .int .i64 0] 40)
  have K4 : Keep [] w ((((w.alloc (.cells #[.slice none 0 0] 22)).alloc (.cells #[.int .i64 0] 3)).alloc (.cells #[.int .i64 0] 23)).alloc (.cells #[.string s, .int .i64 0] 40)) :=
    ((((Keep.refl _ _).alloc _).alloc _).alloc _).alloc _
  have T4 := HT.out.keep K4 (by simp)
  have z4 : ((((w.alloc (.cells #[.slice none 0 0] 22)).alloc (.cells #[.int .i64 0] 3)).alloc (.cells #[.int .i64 0] 23)).alloc (.cells #[.string s, .int .i64 0] 40)).heap.size = w.heap.size + 4 := by simp
  simp only [World.size_alloc] at n1 n2 n3
  generalize ((((w.alloc (.cells #[.slice none 0 0] 22)).alloc (.cells #[.int .i64 0] 3)).alloc (.cells #[.int .i64 0] 23)).alloc (.cells #[.string s, .int .i64 0] 40)) = W4 at n0 n1 n2 n3 K4 T4 z4 ⊢
  obtain ⟨R, hR⟩ : ∃ R, allToks s = R := ⟨_, rfl⟩
  have HR := Lib.hid hR
  rw [hR]
  clear hR
  have HN := Lib.hid (And.intro n0 (And.intro n1 n2))
  have HZ := Lib.hid z4
  refine (all_any (w.heap.size + 1 + 1 + 1) s W4 hs n3 T4 (by omega)).mono ?_
  rw [HR.out]
  clear n0 n1 n2 n3 z4 T4
  rintro e w5 ⟨hk5, hpost⟩
  have K5 : Keep [] w w5 := keep_new K4 hk5 (fun k hk => Or.inr (by simp at hk; omega))
  have hz := HZ.out
  have m0 := hk5.at HN.out.1 (by simp; omega)
  have m1 := hk5.at HN.out.2.1 (by simp)
  have m2 := hk5.at HN.out.2.2 (by simp)
  cases R with
  | error p =>
    obtain ⟨a, c⟩ := p
    obtain rfl := hpost
    refine (show bodyPostD Tryd.prog Tryd.f7 _ (Exit.panic _) _ _ from ?_)
    refine leaves_cons (f := 19) (args := #[.pointer (some ⟨w.heap.size, 0, none⟩), .pointer (some ⟨w.heap.size + 1, 0, none⟩), .pointer (some ⟨w.heap.size + 1 + 1, 0, none⟩)]) (by simp) (by simp [go_sem]) ?_
    refine (catch_fail _ _ _ _ _ _ a c w5 m0 m1 m2 (by omega) (by omega) (by omega)).mono ?_
    rintro e u' w6 ⟨rfl, rfl, hk6, o0, o1, o2⟩
    have K6 : Keep [] w w6 := keep_new K5 hk6 (fun k hk => Or.inr (by simp at hk; omega))
    have q0 := (blk_cell o0 0).trans rfl
    have q1 := (blk_cell o1 0).trans rfl
    have q2 := (blk_cell o2 0).trans rfl
    simp only [settle]
    exact ⟨.tuple #[.slice none 0 0, .int .i64 a, .int .i64 c], by simp [results, Tryd.results7, go_sem, q0, q1, q2], K6, rfl⟩
  | ok l =>
    obtain ⟨v, rfl, hown⟩ := hpost
    have x0 := (blk_cell m0 0).trans rfl
    have x1 := (blk_cell m1 0).trans rfl
    have x2 := (blk_cell m2 0).trans rfl
    have y0 := blk_free m0 0
    have y1 := blk_free m1 0
    have y2 := blk_free m2 0
    have HM := Lib.hid (And.intro m0 (And.intro m1 m2))
    have HO := Lib.hid hown
    have hv : (v = .slice none 0 0) ∨ ∃ g n cap, v = .slice (some ⟨g, 0, none⟩) n cap := by
      rcases hown.2 with ⟨h1, _⟩ | ⟨g, cap, cur, h1, _⟩
      · exact Or.inl h1
      · exact Or.inr ⟨_, _, _, h1⟩
    clear m0 m1 m2 hown hz
    rcases hv with rfl | ⟨g, n, cap, rfl⟩
    · go_wp2_with fail
      have o0 := HM.out.1
      have o1 := HM.out.2.1
      have o2 := HM.out.2.2
      have hz := HZ.out
      have p0 := blk_other (blk_other ((blk_set o0 0 (.slice none 0 0)).trans rfl) (p := ⟨w.heap.size + 1, 0, none⟩) (by simp) (.int .i64 0)) (p := ⟨w.heap.size + 1 + 1, 0, none⟩) (by simp; omega) (.int .i64 0)
      have p1 := blk_other ((blk_set (blk_other o1 (p := ⟨w.heap.size, 0, none⟩) (by simp) (.slice none 0 0)) 0 (.int .i64 0)).trans rfl) (p := ⟨w.heap.size + 1 + 1, 0, none⟩) (by simp) (.int .i64 0)
      have p2 := (blk_set (blk_other (blk_other o2 (p := ⟨w.heap.size, 0, none⟩) (by simp; omega) (.slice none 0 0)) (p := ⟨w.heap.size + 1, 0, none⟩) (by simp) (.int .i64 0)) 0 (.int .i64 0)).trans rfl
      have own := ownsRow_setCell_below (ownsRow_setCell_below (ownsRow_setCell_below HO.out (a := ⟨w.heap.size, 0, none⟩) (by simp; omega) (.slice none 0 0)) (a := ⟨w.heap.size + 1, 0, none⟩) (by simp; omega) (.int .i64 0)) (a := ⟨w.heap.size + 1 + 1, 0, none⟩) (by simp; omega) (.int .i64 0)
      have KK := ((K5.setCell (p := ⟨w.heap.size, 0, none⟩) (Or.inr (Nat.le_refl _)) (.slice none 0 0)).setCell (p := ⟨w.heap.size + 1, 0, none⟩) (Or.inr (by simp)) (.int .i64 0)).setCell (p := ⟨w.heap.size + 1 + 1, 0, none⟩) (Or.inr (by simp; omega)) (.int .i64 0)
      rw [HR.out]
      refine (show bodyPostD Tryd.prog Tryd.f7 _ Exit.ret _ _ from ?_)
      refine leaves_cons (f := 19) (args := #[.pointer (some ⟨w.heap.size, 0, none⟩), .pointer (some ⟨w.heap.size + 1, 0, none⟩), .pointer (some ⟨w.heap.size + 1 + 1, 0, none⟩)]) (by simp) (by simp [go_sem]) ?_
      refine (catch_idle _ _ _ _).mono ?_
      rintro e u' w6 ⟨rfl, rfl, rfl⟩
      simp only [settle]
      have q0 := (blk_cell p0 0).trans rfl
      have q1 := (blk_cell p1 0).trans rfl
      have q2 := (blk_cell p2 0).trans rfl
      refine ⟨.tuple #[.slice none 0 0, .int .i64 0, .int .i64 0], by simp [results, Tryd.results7, go_sem, q0, q1, q2], KK, .slice none 0 0, rfl, owns_mono own (by omega)⟩
    · go_wp2_with fail
      have o0 := HM.out.1
      have o1 := HM.out.2.1
      have o2 := HM.out.2.2
      have hz := HZ.out
      have p0 := blk_other (blk_other ((blk_set o0 0 (.slice (some ⟨g, 0, none⟩) n cap)).trans rfl) (p := ⟨w.heap.size + 1, 0, none⟩) (by simp) (.int .i64 0)) (p := ⟨w.heap.size + 1 + 1, 0, none⟩) (by simp; omega) (.int .i64 0)
      have p1 := blk_other ((blk_set (blk_other o1 (p := ⟨w.heap.size, 0, none⟩) (by simp) (.slice (some ⟨g, 0, none⟩) n cap)) 0 (.int .i64 0)).trans rfl) (p := ⟨w.heap.size + 1 + 1, 0, none⟩) (by simp) (.int .i64 0)
      have p2 := (blk_set (blk_other (blk_other o2 (p := ⟨w.heap.size, 0, none⟩) (by simp; omega) (.slice (some ⟨g, 0, none⟩) n cap)) (p := ⟨w.heap.size + 1, 0, none⟩) (by simp) (.int .i64 0)) 0 (.int .i64 0)).trans rfl
      have own := ownsRow_setCell_below (ownsRow_setCell_below (ownsRow_setCell_below HO.out (a := ⟨w.heap.size, 0, none⟩) (by simp; omega) (.slice (some ⟨g, 0, none⟩) n cap)) (a := ⟨w.heap.size + 1, 0, none⟩) (by simp; omega) (.int .i64 0)) (a := ⟨w.heap.size + 1 + 1, 0, none⟩) (by simp; omega) (.int .i64 0)
      have KK := ((K5.setCell (p := ⟨w.heap.size, 0, none⟩) (Or.inr (Nat.le_refl _)) (.slice (some ⟨g, 0, none⟩) n cap)).setCell (p := ⟨w.heap.size + 1, 0, none⟩) (Or.inr (by simp)) (.int .i64 0)).setCell (p := ⟨w.heap.size + 1 + 1, 0, none⟩) (Or.inr (by simp; omega)) (.int .i64 0)
      rw [HR.out]
      refine (show bodyPostD Tryd.prog Tryd.f7 _ Exit.ret _ _ from ?_)
      refine leaves_cons (f := 19) (args := #[.pointer (some ⟨w.heap.size, 0, none⟩), .pointer (some ⟨w.heap.size + 1, 0, none⟩), .pointer (some ⟨w.heap.size + 1 + 1, 0, none⟩)]) (by simp) (by simp [go_sem]) ?_
      refine (catch_idle _ _ _ _).mono ?_
      rintro e u' w6 ⟨rfl, rfl, rfl⟩
      simp only [settle]
      have q0 := (blk_cell p0 0).trans rfl
      have q1 := (blk_cell p1 0).trans rfl
      have q2 := (blk_cell p2 0).trans rfl
      refine ⟨.tuple #[.slice (some ⟨g, 0, none⟩) n cap, .int .i64 0, .int .i64 0], by simp [results, Tryd.results7, go_sem, q0, q1, q2], KK, .slice (some ⟨g, 0, none⟩) n cap, rfl, owns_mono own (by omega)⟩
theorem tokens_any (s : ByteArray) (w : World) (h : Tab w) : Calls Tryd.prog 7 #[.string s] w (LexPost (lex s) w) := by
  by_cases hs : 65536 < s.size
  · exact tokens_big s w hs
  · rw [lex, if_neg hs]
    exact tokens_small s w (by omega) h
end Go.Proofs.YtippkncnecbhlaaDoor.Lx
