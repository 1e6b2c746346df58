/- The walk of (*scanner).text. -/
import Derived.Test.YtippkncnecbhlaaDoorLxScan1
namespace Go.Proofs.YtippkncnecbhlaaDoor.Lx
open Go.RowKit
theorem builder_keep {T e : TypeId} {B b : Nat} {bs : List Value} {w w' : World} (h : Lib.IsBuilder T e B b bs w) (k : ∀ n, B ≤ n → w'.heap[n]? = w.heap[n]?) : Lib.IsBuilder T e B b bs w' := by
  have key : ∀ p, Lib.BuilderAt T e B b p bs w → Lib.BuilderAt T e B b p bs w' := by
    rintro p ⟨hB, v, hb, ⟨o1, o2⟩, hne⟩
    refine ⟨hB, v, (k b hB).trans hb, ⟨o1, ?_⟩, hne⟩
    rcases o2 with o2 | ⟨g, cap, cur, hv, hg, hh, r⟩
    · exact Or.inl o2
    · exact Or.inr ⟨g, cap, cur, hv, hg, (k g hg).trans hh, r⟩
  rcases h with h | h
  · exact Or.inl (key _ h)
  · exact Or.inr (key _ h)
theorem builder_set {T e : TypeId} {B b : Nat} {bs : List Value} {w : World} (h : Lib.IsBuilder T e B b bs w) {p : Addr} (hp : p.block < B) (v : Value) : Lib.IsBuilder T e B b bs (w.setCell p v) :=
  builder_keep h (fun n hn => Below.heap_setCell _ _ _ _ (by omega))
theorem builder_drewN {T e : TypeId} {B b : Nat} {bs : List Value} {w : World} (h : Lib.IsBuilder T e B b bs w) (n : Nat) : Lib.IsBuilder T e B b bs (w.drewN n) :=
  builder_keep h (fun _ _ => rfl)
theorem below_keep {S : List Nat} {a b c : World} {B : Nat} (h : Keep S a b) (k : Below B b c) (hB : ∀ n, n < a.heap.size → n < B) : Keep S a c :=
  ⟨k.os.trans h.os, k.tape.trans h.tape, k.output.trans h.output, Nat.le_trans h.size k.size, fun i hi hs => (k.block i (hB i hi)).trans (h.block i hi hs)⟩
theorem byteCells_snoc (l : List UInt8) (b : UInt8) : Lib.byteCells l ++ [.int .u8 (b.toNat : Int)] = Lib.byteCells (l ++ [b]) := by simp [Lib.byteCells]
theorem byteCells_length (l : List UInt8) : (Lib.byteCells l).length = l.length := by simp [Lib.byteCells]
set_option maxRecDepth 100000 in
set_option maxHeartbeats 4000000 in
theorem scanText_any (pb : Nat) (s : ByteArray) (i : Nat) (w : World) (hi : i < s.size) (hs : s.size ≤ 65536) (h : Scn pb s i w) :
    Calls Tryd.prog 42 #[.pointer (some ⟨pb, 0, none⟩)] w (TokPost (scanText s i) pb s w) := by
  have c1 := h.c1
  have f1 := h.f1
  have hlt : pb < w.heap.size := lt_of_block h
  have HH := Lib.hid h
  clear h
  go_enter Tryd.func42, Tryd.ntmps42
  go_wp2_with fail
  have A0 : Hid (Scn pb s ((i + 1 : Nat) : Int) (((w.setCell ⟨pb, 1, none⟩ (.int .i64 ((i : Int) + 1))).alloc (.cells #[.int .i64 0, .string ⟨#[]⟩, .int .i64 0, .int .i64 0] 30)).alloc (.cells #[.pointer none, .slice none 0 0] 60))) :=
    blk_alloc (blk_alloc (HH.out.set _) _) _
  have A1 := Lib.hid (blk_alloc (tok_new (w.setCell ⟨pb, 1, none⟩ (.int .i64 ((i : Int) + 1)))) (.cells #[.pointer none, .slice none 0 0] 60))
  have A2 := Lib.hid (Lib.fresh_isBuilder 60 5 ((w.setCell ⟨pb, 1, none⟩ (.int .i64 ((i : Int) + 1))).alloc (.cells #[.int .i64 0, .string ⟨#[]⟩, .int .i64 0, .int .i64 0] 30)))
  have A3 : Keep [pb] w (((w.setCell ⟨pb, 1, none⟩ (.int .i64 ((i : Int) + 1))).alloc (.cells #[.int .i64 0, .string ⟨#[]⟩, .int .i64 0, .int .i64 0] 30)).alloc (.cells #[.pointer none, .slice none 0 0] 60)) :=
    (((Keep.refl [pb] w).setCell (Or.inl (by simp)) _).alloc _).alloc _
  go_loopg [] (s.size + 1) (fun g wr => ∃ (k : Nat) (acc : List UInt8), i + 1 ≤ k ∧ k ≤ s.size ∧ s.size - k < g ∧ acc.length ≤ k ∧ Hid (textGo s k acc = textGo s (i + 1) []) ∧ Hid (Scn pb s k wr) ∧
    Hid (wr.heap[w.heap.size]? = some (.cells #[.int .i64 0, .string ⟨#[]⟩, .int .i64 0, .int .i64 0] 30 (0, 0))) ∧ Hid (Lib.IsBuilder 60 5 (w.heap.size + 1) (w.heap.size + 1) (Lib.byteCells acc) wr) ∧ Keep [pb] w wr ∧ w.heap.size + 2 ≤ wr.heap.size)
  case atStart =>
    refine ⟨i + 1, [], Nat.le_refl _, by omega, by omega, by simp, rfl, A0, ?_, ?_, A3, by simp⟩
    · simpa using A1
    · simpa [Lib.byteCells] using A2
  case round =>
    obtain ⟨k, acc, hk1, hk2, hk3, hacc, HT, HS, HR, HB, hkeep, hsz⟩ := hrel
    clear A0 A1 A2 A3
    have d0 := HS.out.c0
    have d1 := HS.out.c1
    have e1 := HS.out.f1
    by_cases hlt2 : k < s.size
    · have hlt3 : (k : Int) < (s.size : Int) := by omega
      by_cases hq : s[k].toNat = 39
      · have hq' : (((s[k].toNat : Nat) : Int) == 39) = true := by simp; omega
        have hq3 : ¬ s[k].toNat < 32 := by omega
        have hq4 : ¬ 126 < s[k].toNat := by omega
        have HQ := Lib.hid hq
        clear hq
        by_cases hn : ∃ h1 : k + 1 < s.size, s[k + 1].toNat = 39
        · have HT2 := HT.out
          obtain ⟨h1, hn1⟩ := hn
          rw [textGo_quote hlt2 HQ.out h1 hn1] at HT2
          have HT3 := Lib.hid HT2
          clear HT2 HT
          have g1 : decide ((s.size : Int) ≤ (k : Int) + 1) = false := by simp; omega
          have g2 : (((s[k + 1].toNat : Nat) : Int) != 39) = false := by simp; omega
          go_wp2_with fail
          go_quiet (fail)
          go_wp2_with fail
          go_quiet (fail)
          go_wp2_with fail
          go_quiet (fail)
          go_wp2_with fail
          refine (Tryd.Builder_WriteByte (w.heap.size + 1) (w.heap.size + 1) (Lib.byteCells acc) _ _ (builder_drewN (builder_set (builder_drewN HB.out _) (by simp; omega) _) _) (by rw [byteCells_length]; omega) (by simp; omega)).mono ?_
          rintro e w2 ⟨rfl, hwb, hbel⟩
          have S2 : Hid (Scn pb s ((k : Int) + 1) w2) := (hbel.block pb (by omega)).trans (blk_drewN ((HS.out.drewN _).set _) _)
          have R2 : Hid (w2.heap[w.heap.size]? = some (.cells #[.int .i64 0, .string ⟨#[]⟩, .int .i64 0, .int .i64 0] 30 (0, 0))) := by
            show w2.heap[w.heap.size]? = _
            rw [hbel.block _ (by omega)]
            exact blk_other (w := wr.drewN _) HR.out (by simp; omega) _
          have HB2 := Lib.hid hwb
          clear hwb
          have x1 := S2.out.c1
          have x2 := S2.out.f1
          go_wp2_with fail
          go_roundg (s.size - k)
          case measure => omega
          case rel =>
            exact ⟨k + 2, acc ++ [s[k]], by omega, by omega, by omega, by simp; omega, HT3, by have := S2.out.set ((k : Int) + 1 + 1); rw [show (k : Int) + 1 + 1 = ((k + 2 : Nat) : Int) from by omega] at this ⊢; exact this, blk_other R2.out (by simp; omega) _,
              builder_set (Or.inr (byteCells_snoc acc s[k] ▸ HB2.out)) (by simp; omega) _, (below_keep (((hkeep.drewN _).setCell (Or.inl (by simp)) _).drewN _) hbel (fun n hn => by omega)).setCell (Or.inl (by simp)) _, by have := hbel.size; simp at this ⊢; omega⟩
        · have HT2 := HT.out
          rw [textGo_done hlt2 HQ.out hn] at HT2
          have HT3 := Lib.hid HT2
          clear HT2 HT
          have hg : (decide ((s.size : Int) ≤ (k : Int) + 1) = true) ∨ (decide ((s.size : Int) ≤ (k : Int) + 1) = false ∧ ∃ h1 : k + 1 < s.size, (((s[k + 1].toNat : Nat) : Int) != 39) = true) := by
            by_cases h1 : k + 1 < s.size
            · exact Or.inr ⟨by simp; omega, h1, by rw [bne_iff_ne]; intro e; exact hn ⟨h1, by omega⟩⟩
            · exact Or.inl (by simp; omega)
          clear hn
          rcases hg with g1 | ⟨g1, h1, g2⟩
          · skip
            go_wp2_with fail
            go_quiet (fail)
            go_wp2_with fail
            go_quiet (fail)
            go_wp2_with fail
            go_quiet (fail)
            go_wp2_with fail
            refine (Tryd.Builder_Len (w.heap.size + 1) (w.heap.size + 1) (Lib.byteCells acc) _ (builder_drewN (builder_set (builder_drewN HB.out _) (by simp; omega) _) _)).mono ?_
            rintro e w2 ⟨rfl, rfl⟩
            rw [byteCells_length]
            by_cases hlong : 200 < acc.length
            · go_wp2_with fail
              refine ⟨rfl, ((hkeep.drewN _).setCell (Or.inl (by simp)) _).drewN _, ?_⟩
              rw [scanText, ← HT3.out, textOf, if_pos hlong]
              rfl
            · go_wp2_with fail
              refine (Tryd.Builder_String_any (w.heap.size + 1) (w.heap.size + 1) acc _ (builder_drewN (builder_set (builder_drewN HB.out _) (by simp; omega) _) _) (by simp; omega)).mono ?_
              rintro e w2 ⟨rfl, hbel⟩
              have S2 : Hid (Scn pb s ((k : Int) + 1) w2) := (hbel.block pb (by omega)).trans (blk_drewN ((HS.out.drewN _).set _) _)
              have R2 : w2.heap[w.heap.size]? = some (.cells #[.int .i64 0, .string ⟨#[]⟩, .int .i64 0, .int .i64 0] 30 (0, 0)) := by
                rw [hbel.block _ (by omega)]
                exact blk_other (w := wr.drewN _) HR.out (by simp; omega) _
              obtain ⟨r0, r1, r2, r3, q0, q1, q2, q3⟩ := blk4 R2
              clear R2
              go_wp2_with fail
              refine bodyPost_ret (v := .agg #[.int .i64 4, .string ⟨acc.toArray⟩, .int .i64 0, .int .i64 i]) (by simp [results, Tryd.results42, go_sem, r0, r1, r2, r3]) rfl ?_
              refine ⟨(below_keep (((hkeep.drewN _).setCell (Or.inl (by simp)) _).drewN _) hbel (fun n hn => by omega)).set4 (Nat.le_refl _) _ _ _ _, ?_⟩
              rw [scanText, ← HT3.out, textOf, if_neg hlong]
              exact ⟨rfl, blk_other4 S2.out (by omega) _ _ _ _⟩
          · have HG2 := Lib.hid g2
            clear g2
            have h1' : (0 : Int) ≤ (k : Int) + 1 := by omega
            have h2' : (k : Int) + 1 < (s.size : Int) := by omega
            go_wp2_with fail
            go_quiet (fail)
            go_wp2_with fail
            go_quiet (fail)
            go_wp2_with fail
            go_quiet (fail)
            rw [HG2.out]
            go_wp2_with fail
            refine (Tryd.Builder_Len (w.heap.size + 1) (w.heap.size + 1) (Lib.byteCells acc) _ (builder_drewN (builder_set (builder_drewN HB.out _) (by simp; omega) _) _)).mono ?_
            rintro e w2 ⟨rfl, rfl⟩
            rw [byteCells_length]
            by_cases hlong : 200 < acc.length
            · go_wp2_with fail
              refine ⟨rfl, ((hkeep.drewN _).setCell (Or.inl (by simp)) _).drewN _, ?_⟩
              rw [scanText, ← HT3.out, textOf, if_pos hlong]
              rfl
            · go_wp2_with fail
              refine (Tryd.Builder_String_any (w.heap.size + 1) (w.heap.size + 1) acc _ (builder_drewN (builder_set (builder_drewN HB.out _) (by simp; omega) _) _) (by simp; omega)).mono ?_
              rintro e w2 ⟨rfl, hbel⟩
              have S2 : Hid (Scn pb s ((k : Int) + 1) w2) := (hbel.block pb (by omega)).trans (blk_drewN ((HS.out.drewN _).set _) _)
              have R2 : w2.heap[w.heap.size]? = some (.cells #[.int .i64 0, .string ⟨#[]⟩, .int .i64 0, .int .i64 0] 30 (0, 0)) := by
                rw [hbel.block _ (by omega)]
                exact blk_other (w := wr.drewN _) HR.out (by simp; omega) _
              obtain ⟨r0, r1, r2, r3, q0, q1, q2, q3⟩ := blk4 R2
              clear R2
              go_wp2_with fail
              refine bodyPost_ret (v := .agg #[.int .i64 4, .string ⟨acc.toArray⟩, .int .i64 0, .int .i64 i]) (by simp [results, Tryd.results42, go_sem, r0, r1, r2, r3]) rfl ?_
              refine ⟨(below_keep (((hkeep.drewN _).setCell (Or.inl (by simp)) _).drewN _) hbel (fun n hn => by omega)).set4 (Nat.le_refl _) _ _ _ _, ?_⟩
              rw [scanText, ← HT3.out, textOf, if_neg hlong]
              exact ⟨rfl, blk_other4 S2.out (by omega) _ _ _ _⟩
      · have hq' : (((s[k].toNat : Nat) : Int) == 39) = false := by simp; omega
        have HQ := Lib.hid hq
        clear hq
        by_cases hb : s[k].toNat < 32 ∨ 126 < s[k].toNat
        · have HT2 := HT.out
          rw [textGo_bad hlt2 HQ.out hb] at HT2
          have HT3 := Lib.hid HT2
          clear HT2 HT
          rcases hb with hb | hb
          all_goals
            go_wp2_with fail
            go_quiet (fail)
            go_wp2_with fail
            go_quiet (fail)
            go_wp2_with fail
            refine ⟨rfl, hkeep.drewN _, ?_⟩
            rw [scanText, ← HT3.out]
            rfl
        · have HT2 := HT.out
          rw [textGo_byte hlt2 HQ.out hb] at HT2
          have HT3 := Lib.hid HT2
          clear HT2 HT
          have hb1 : ¬ s[k].toNat < 32 := fun e => hb (Or.inl e)
          have hb2 : ¬ 126 < s[k].toNat := fun e => hb (Or.inr e)
          clear hb
          go_wp2_with fail
          go_quiet (fail)
          go_wp2_with fail
          go_quiet (fail)
          go_wp2_with fail
          refine (Tryd.Builder_WriteByte (w.heap.size + 1) (w.heap.size + 1) (Lib.byteCells acc) _ _ (builder_drewN HB.out _) (by rw [byteCells_length]; omega) (by simp; omega)).mono ?_
          rintro e w2 ⟨rfl, hwb, hbel⟩
          have S2 : Hid (Scn pb s k w2) := (hbel.block pb (by omega)).trans HS.out
          have R2 : Hid (w2.heap[w.heap.size]? = _) := (hbel.block w.heap.size (by omega)).trans HR.out
          have HB2 := Lib.hid hwb
          clear hwb
          have x1 := S2.out.c1
          have x2 := S2.out.f1
          go_wp2_with fail
          go_roundg (s.size - k)
          case measure => omega
          case rel =>
            exact ⟨k + 1, acc ++ [s[k]], by omega, by omega, by omega, by simp; omega, HT3, S2.out.set _, blk_other R2.out (by simp; omega) _,
              builder_set (Or.inr (byteCells_snoc acc s[k] ▸ HB2.out)) (by simp; omega) _, (below_keep (hkeep.drewN _) hbel (fun n hn => by omega)).setCell (Or.inl (by simp)) _, by have := hbel.size; simp at this ⊢; omega⟩
    · have HT2 := HT.out
      rw [textGo_end hlt2] at HT2
      have HT3 := Lib.hid HT2
      clear HT2 HT
      obtain rfl : k = s.size := by omega
      go_wp2_with fail
      go_quiet (fail)
      go_wp2_with fail
      refine ⟨rfl, hkeep.drewN _, ?_⟩
      rw [scanText, ← HT3.out]
      rfl
end Go.Proofs.YtippkncnecbhlaaDoor.Lx
