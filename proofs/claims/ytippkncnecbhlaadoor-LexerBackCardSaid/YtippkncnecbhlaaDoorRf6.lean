/- The walk of the reference's text. -/
import Derived.Test.YtippkncnecbhlaaDoorRf5
namespace Go.Proofs.YtippkncnecbhlaaDoor.Lx
open Go.RowKit
set_option maxRecDepth 100000 in
set_option maxHeartbeats 4000000 in
theorem refText_any (s : ByteArray) (i : Nat) (w : World) (hi : i < s.size) (hs : s.size ≤ 65536) :
    Calls Tryd.prog 25 #[.string s, .int .i64 i] w (RefPost (scanText s i) i w) := by
  obtain ⟨R, hR⟩ : ∃ R, textGo s (i + 1) [] = R := ⟨_, rfl⟩
  rw [scanText, hR]
  obtain ⟨i0, hinfo, hz0, hz1, hz2⟩ := info_parts info5
  go_enter Tryd.func25, Tryd.ntmps25
  go_wp2_with fail
  have R0 := Lib.hid (tok_new w)
  have K0 : Keep [] w (w.alloc (.cells #[.int .i64 0, .string ⟨#[]⟩, .int .i64 0, .int .i64 0] 30)) := (Keep.refl _ _).alloc _
  have hL : Hid (w.heap.size + 1 = (w.alloc (.cells #[.int .i64 0, .string ⟨#[]⟩, .int .i64 0, .int .i64 0] 30)).heap.size) := Lib.hid (by simp)
  generalize (w.alloc (.cells #[.int .i64 0, .string ⟨#[]⟩, .int .i64 0, .int .i64 0] 30)) = w1 at R0 K0 hL ⊢
  have O0 : (w1.alloc (.cells #[] 5)).ownsRow w1.heap.size 5 1 (.slice (some ⟨w1.heap.size, 0, none⟩) 0 0) 0 [] := World.ownsRow_lit w1 #[] 0 (Nat.le_refl _) (by unfold maxLen; omega) rfl
  have K1 : Keep [] w1 (w1.alloc (.cells #[] 5)) := (Keep.refl _ _).alloc _
  go_loopw [7, 8] (fun v c wr => ∃ (k : Nat) (acc : List UInt8) (n : Nat), i + 1 ≤ k ∧ k ≤ s.size ∧ Hid (acc.length = n) ∧ n ≤ k ∧ c = .int .i64 k ∧ Hid (textGo s k acc = R) ∧ Keep [] w1 wr ∧ ∃ g cap, v = .slice (some ⟨g, 0, none⟩) n cap ∧ wr.ownsRow w1.heap.size 5 1 v n (Lib.byteCells acc)) (fun _ c _ => s.size - (intOf c).toNat)
  case atStart => exact ⟨i + 1, [], 0, Nat.le_refl _, by omega, rfl, by omega, by go_num, hR, K1, w1.heap.size, 0, by rw [hL.out], by rw [hL.out]; exact O0⟩
  case round =>
    obtain ⟨k, acc, n, hk1, hk2, hn, hnk, rfl, HG, hkeep, g, cap, rfl, hown⟩ := hrel
    have HO := Lib.hid hown
    clear hown O0 K1 hR
    by_cases hlt : k < s.size
    · by_cases hq : s[k].toNat = 39
      · by_cases hq1 : ∃ h : k + 1 < s.size, s[k + 1].toNat = 39
        · skip
          obtain ⟨h1, hq2⟩ := hq1
          have HLN : Hid ((acc ++ [s[k]]).length = n + 1) := Lib.hid (by rw [List.length_append, hn.out]; rfl)
          have HG2 : Hid (textGo s (k + 2) (acc ++ [s[k]]) = R) := by have h9 := HG.out; rw [textGo_quote hlt hq h1 hq2] at h9; exact h9
          have HU : Hid (Lib.byteCells (acc ++ [s[k]]) = Lib.byteCells acc ++ [.int .u8 39]) := by simp [Lib.byteCells, Hid, hq]
          have q5 : ¬ s[k + 1].toNat < 32 := by omega
          have q6 : ¬ 126 < s[k + 1].toNat := by omega
          have q7 : (k : Int) + 1 < (s.size : Int) := by omega
          have q1 : ((s[k].toNat : Int) == 39) = true := by simp; omega
          have q2 : ((k : Int) + 1 == (s.size : Int)) = false := by simp; omega
          have q3 : ((s[k + 1].toNat : Int) == 39) = true := by simp; omega
          have q4 : (0 : Int) ≤ (k : Int) + 1 := by omega
          go_wp2_with (at_builtin; refine wpList_append_own _ rfl _ _ 52 rfl w1.heap.size 5 i0 _ 1 1 Tryd.underlying52 hinfo hz0 hz1 hz2 rfl (by decide) _ n _ rfl (HO.out.alloc _) ⟨wr.heap.size, 0, none⟩ 1 1 [.int .u8 39] rfl rfl (news_ok (blk_new wr _)) (by intro u hu; simp at hu; rw [hu]; rfl) (by unfold maxLen; omega) (by omega) (by have := hkeep.size; simp; omega) ?_; intro v' w3 hown3 hgr3 _)
          have hbl := (HO.out.alloc (.cells #[.int .u8 39] 5)).lt
          have K3 : Keep [] w1 w3 := keep_grown (hkeep.alloc _) hgr3 (fun j hj => (hbl j hj).1)
          have hsh := owns_shape hown3
          have HO3 := Lib.hid hown3
          clear hown3 hgr3 hbl
          rcases hsh with ⟨_, h0⟩ | ⟨g', cap', rfl⟩
          · omega
          go_wp2_with fail
          go_roundw
          case rel => exact ⟨k + 2, acc ++ [s[k]], n + 1, by omega, by omega, HLN, by omega, congrArg (Value.int .i64) (by omega), HG2.out, K3, g', cap', rfl, by rw [HU.out]; exact HO3.out⟩
          case measure => simp [intOf]; omega
        · skip
          rw [textGo_done hlt hq hq1] at HG
          have e := HG.out
          subst e
          obtain ⟨r0, r1, r2, r3, f0, f1, f2, f3⟩ := blk4 (hkeep.at R0.out (by simp))
          have q1 : ((s[k].toNat : Int) == 39) = true := by simp; omega
          have q4 : (0 : Int) ≤ (k : Int) + 1 := by omega
          have hkk : ((k : Int) + 1 == (s.size : Int)) = true ∨ (∃ h1 : k + 1 < s.size, ((k : Int) + 1 == (s.size : Int)) = false ∧ ((s[k + 1].toNat : Int) == 39) = false) := by
            by_cases h1 : k + 1 < s.size
            · (have h2 : ¬ s[k + 1].toNat = 39 := fun e => hq1 ⟨h1, e⟩); exact Or.inr ⟨h1, by simp; omega, by simp; omega⟩
            · exact Or.inl (by simp; omega)
          clear hq1
          have HF := conv_bytes (l := acc) (w := wr) (B := w1.heap.size) (g := g) (cap := cap)
          rw [hn.out] at HF
          have HF := HF HO.out
          by_cases hbig : 200 < n
          · rcases hkk with k1 | ⟨h1, k1, k2⟩
            all_goals
              go_wp2_with fail
              refine bodyPost_ret (v := .tuple #[zeroTok, .int .i64 i, .int .i64 5]) (by simp [results, Tryd.results25, go_sem, r0, r1, r2, r3, zeroTok]) rfl ?_
              refine ⟨(K0.trans hkeep).set4 (Nat.le_refl _) _ _ _ _, ?_⟩
              rw [textOf, if_pos (by rw [hn.out]; exact hbig)]
              exact ⟨rfl, rfl⟩
          · rcases hkk with k1 | ⟨h1, k1, k2⟩
            all_goals
              go_wp2_with fail
              refine bodyPost_ret (v := .tuple #[.agg #[.int .i64 4, .string ⟨acc.toArray⟩, .int .i64 0, .int .i64 i], .int .i64 (k + 1), .int .i64 0]) (by simp [results, Tryd.results25, go_sem, r0, r1, r2, r3]) rfl ?_
              refine ⟨(K0.trans hkeep).set4 (Nat.le_refl _) _ _ _ _, ?_⟩
              rw [textOf, if_neg (by rw [hn.out]; omega)]
              rfl
      · by_cases hb : s[k].toNat < 32 ∨ 126 < s[k].toNat
        · skip
          have e := HG.out
          rw [textGo_bad hlt hq hb] at e
          subst e
          obtain ⟨r0, r1, r2, r3, f0, f1, f2, f3⟩ := blk4 (hkeep.at R0.out (by simp))
          have q1 : ((s[k].toNat : Int) == 39) = false := by simp; omega
          have hb' : s[k].toNat < 32 ∨ (¬ s[k].toNat < 32 ∧ 126 < s[k].toNat) := by omega
          clear hb
          rcases hb' with h1 | ⟨h1, h2⟩
          all_goals
            go_wp2_with fail
            refine bodyPost_ret (v := .tuple #[zeroTok, .int .i64 i, .int .i64 1]) (by simp [results, Tryd.results25, go_sem, r0, r1, r2, r3, zeroTok]) rfl ?_
            refine ⟨(K0.trans hkeep).set4 (Nat.le_refl _) _ _ _ _, ?_⟩
            exact ⟨rfl, rfl⟩
        · skip
          have HLN : Hid ((acc ++ [s[k]]).length = n + 1) := Lib.hid (by rw [List.length_append, hn.out]; rfl)
          have HG2 : Hid (textGo s (k + 1) (acc ++ [s[k]]) = R) := by have h9 := HG.out; rw [textGo_byte hlt hq hb] at h9; exact h9
          have HU : Hid (Lib.byteCells (acc ++ [s[k]]) = Lib.byteCells acc ++ [.int .u8 (s[k].toNat : Int)]) := by simp [Lib.byteCells, Hid]
          have q1 : ((s[k].toNat : Int) == 39) = false := by simp; omega
          have q2 : ¬ s[k].toNat < 32 := by omega
          have q3 : ¬ 126 < s[k].toNat := by omega
          go_wp2_with (at_builtin; refine wpList_append_own _ rfl _ _ 52 rfl w1.heap.size 5 i0 _ 1 1 Tryd.underlying52 hinfo hz0 hz1 hz2 rfl (by decide) _ n _ rfl (HO.out.alloc _) ⟨wr.heap.size, 0, none⟩ 1 1 [.int .u8 (s[k].toNat : Int)] rfl rfl (news_ok (blk_new wr _)) (by intro u hu; simp at hu; rw [hu]; rfl) (by unfold maxLen; omega) (by omega) (by have := hkeep.size; simp; omega) ?_; intro v' w3 hown3 hgr3 _)
          have hbl := (HO.out.alloc (.cells #[.int .u8 (s[k].toNat : Int)] 5)).lt
          have K3 : Keep [] w1 w3 := keep_grown (hkeep.alloc _) hgr3 (fun j hj => (hbl j hj).1)
          have hsh := owns_shape hown3
          have HO3 := Lib.hid hown3
          clear hown3 hgr3 hbl
          rcases hsh with ⟨_, h0⟩ | ⟨g', cap', rfl⟩
          · omega
          go_wp2_with fail
          go_roundw
          case rel => first | exact ⟨k + 1, acc ++ [s[k]], n + 1, by omega, by omega, HLN, by omega, by go_num, HG2.out, K3, g', cap', rfl, by rw [HU.out]; exact HO3.out⟩ | exact ⟨k + 1, acc ++ [s[k]], n + 1, by omega, by omega, HLN, by omega, by omega, HG2.out, K3, by omega, by rw [HU.out]; exact HO3.out⟩
          case measure => simp [intOf]; omega
    · have hkk : ¬ (k : Int) < (s.size : Int) := by omega
      have e := HG.out
      rw [textGo_end hlt] at e
      subst e
      obtain ⟨r0, r1, r2, r3, f0, f1, f2, f3⟩ := blk4 (hkeep.at R0.out (by simp))
      clear hlt
      go_wp2_with fail
      refine bodyPost_ret (v := .tuple #[zeroTok, .int .i64 i, .int .i64 2]) (by simp [results, Tryd.results25, go_sem, r0, r1, r2, r3, zeroTok]) rfl ?_
      refine ⟨(K0.trans hkeep).set4 (Nat.le_refl _) _ _ _ _, ?_⟩
      exact ⟨rfl, rfl⟩
end Go.Proofs.YtippkncnecbhlaaDoor.Lx
