/- The walk of (*scanner).word. -/
import Derived.Test.YtippkncnecbhlaaDoorLxRun
import Derived.Test.YtippkncnecbhlaaDoorLxWords
import Derived.Test.YtippkncnecbhlaaDoorLxTok
namespace Go.Proofs.YtippkncnecbhlaaDoor.Lx
open Go.RowKit
def Tok.val (t : Tok) : Value := .agg #[.int .i64 t.kind, .string t.text, .int .i64 t.num, .int .i64 t.at_]
def failV (a c : Int) : Value := .iface 36 (.agg #[.int .i64 a, .int .i64 c])
def TokPost (r : Scan) (pb : Nat) (s : ByteArray) (w : World) (e : Ending) (w' : World) : Prop :=
  Keep [pb] w w' ∧ match r with
    | .error (a, c) => e = .panicked [{ v := failV a c, recovered := false }]
    | .ok (t, j) => e = .returned t.val ∧ Scn pb s j w'
theorem enters57 : ∀ args w, (callFunc 57 args).run Tryd.prog w = .ok (.enter 57 args) w := fun _ _ => by simp [go_sem]
theorem enters32 : ∀ args w, (callFunc 32 args).run Tryd.prog w = .ok (.enter 32 args) w := fun _ _ => by simp [go_sem]
theorem enters39 : ∀ args w, (callFunc 39 args).run Tryd.prog w = .ok (.enter 39 args) w := fun _ _ => by simp [go_sem]
theorem tok_new (w : World) : (w.alloc (.cells #[.int .i64 0, .string ⟨#[]⟩, .int .i64 0, .int .i64 0] 30)).heap[w.heap.size]? = some (.cells #[.int .i64 0, .string ⟨#[]⟩, .int .i64 0, .int .i64 0] 30 (0, 0)) := blk_new w _
set_option maxRecDepth 100000 in
set_option maxHeartbeats 1000000 in
theorem word_kw (pb : Nat) (s : ByteArray) (i : Nat) (w : World) (hi : i ≤ s.size) (hs : s.size ≤ 65536) (h : Scn pb s i w) (ht : Tab w) (hp : pb ≠ 0)
    (t : ByteArray) (htx : s.extract i (runEnd wordB s i) = t) (htl : t.size ≤ 65536) (hk : kwB t.data.toList = true) :
    Calls Tryd.prog 40 #[.pointer (some ⟨pb, 0, none⟩)] w (TokPost (wordOf t i (runEnd wordB s i)) pb s w) := by
  have c1 := h.c1
  have hlt : pb < w.heap.size := lt_of_block h
  have HH := Lib.hid h
  have HT := Lib.hid ht
  have HX := Lib.hid htx
  have HK := Lib.hid hk
  clear h ht htx hk
  go_enter Tryd.func40, Tryd.ntmps40
  go_wp2_with fail
  refine (run_any 57 wordB enters57 wordc_any pb s i _ hi hs (HH.out.alloc _)).mono ?_
  rintro e w1 ⟨rfl, hS, hkp⟩
  rw [HX.out]
  have K1 : Keep [pb] w w1 := ((Keep.refl [pb] w).alloc _).trans hkp
  have R1 := hkp.at (tok_new w) (by simp; omega)
  have HS := Lib.hid hS
  clear hS
  go_wp2_with fail
  refine (word_any t _ (by omega) (HT.out.keep K1 (by simp; omega))).mono ?_
  rintro e w2 ⟨rfl, hk2⟩
  have K2 : Keep [pb] w w2 := K1.trans hk2.wide
  have R2 := hk2.at R1 (by simp)
  rw [HK.out]
  go_wp2_with fail
  refine (Tryd.strings_ToUpper_ascii t _ (by omega) (fun j b hb => kwB_ascii HK.out b (List.mem_of_getElem? hb))).mono ?_
  rintro e w3 ⟨rfl, hb3⟩
  have K3 : Keep [pb] w w3 := K2.trans (Keep.of_below hb3 _)
  have R3 := (Keep.of_below hb3 []).at R2 (by simp)
  have S3 : Hid (Scn pb s (runEnd wordB s i) w3) := (Keep.of_below hb3 []).at (hk2.at HS.out (by simp)) (by simp)
  obtain ⟨r0, r1, r2, r3, f0, f1, f2, f3⟩ := blk4 R3
  clear R1 R2 R3
  go_wp2_with fail
  refine bodyPost_ret (v := .agg #[.int .i64 2, .string ⟨(Lib.toUpperA t.data.toList).toArray⟩, .int .i64 0, .int .i64 i]) (by simp [results, Tryd.results40, go_sem, r0, r1, r2, r3]) rfl ?_
  refine ⟨K3.set4 (Nat.le_refl _) _ _ _ _, ?_⟩
  rw [wordOf, if_pos HK.out]
  exact ⟨rfl, blk_other4 S3.out (by omega) _ _ _ _⟩
set_option maxRecDepth 100000 in
set_option maxHeartbeats 1000000 in
theorem word_upper (pb : Nat) (s : ByteArray) (i : Nat) (w : World) (hi : i ≤ s.size) (hs : s.size ≤ 65536) (h : Scn pb s i w) (ht : Tab w) (hp : pb ≠ 0)
    (t : ByteArray) (htx : s.extract i (runEnd wordB s i) = t) (htl : t.size ≤ 65536) (hk : kwB t.data.toList = false) (hl : ¬ Lib.toLowerA t.data.toList = t.data.toList) (hasc : ∀ b ∈ t.data.toList, b.toNat < 128) :
    Calls Tryd.prog 40 #[.pointer (some ⟨pb, 0, none⟩)] w (TokPost (wordOf t i (runEnd wordB s i)) pb s w) := by
  have c1 := h.c1
  have hlt : pb < w.heap.size := lt_of_block h
  have HH := Lib.hid h
  have HT := Lib.hid ht
  have HX := Lib.hid htx
  have HK := Lib.hid hk
  have HL := Lib.hid hl
  have HA := Lib.hid hasc
  clear h ht htx hk hl hasc
  go_enter Tryd.func40, Tryd.ntmps40
  go_wp2_with fail
  refine (run_any 57 wordB enters57 wordc_any pb s i _ hi hs (HH.out.alloc _)).mono ?_
  rintro e w1 ⟨rfl, hS, hkp⟩
  rw [HX.out]
  have K1 : Keep [pb] w w1 := ((Keep.refl [pb] w).alloc _).trans hkp
  have R1 := hkp.at (tok_new w) (by simp; omega)
  have HS := Lib.hid hS
  clear hS
  go_wp2_with fail
  refine (word_any t _ (by omega) (HT.out.keep K1 (by simp; omega))).mono ?_
  rintro e w2 ⟨rfl, hk2⟩
  have K2 : Keep [pb] w w2 := K1.trans hk2.wide
  have R2 := hk2.at R1 (by simp)
  rw [HK.out]
  go_wp2_with fail
  refine (Tryd.strings_ToLower_ascii t _ (by omega) (fun j b hb => HA.out b (List.mem_of_getElem? hb))).mono ?_
  rintro e w3 ⟨rfl, hb3⟩
  have K3 : Keep [pb] w w3 := K2.trans (Keep.of_below hb3 _)
  have R3 := (Keep.of_below hb3 []).at R2 (by simp)
  have S3 : Hid (Scn pb s (runEnd wordB s i) w3) := (Keep.of_below hb3 []).at (hk2.at HS.out (by simp)) (by simp)
  have hq : (Lib.toLowerA t.data.toList == t.toList) = false := by rw [ByteArray.toList_eq]; simpa using HL.out
  go_wp2_with fail
  refine ⟨rfl, K3, ?_⟩
  rw [wordOf, if_neg (by rw [HK.out]; simp), if_neg HL.out]
  rfl
set_option maxRecDepth 100000 in
set_option maxHeartbeats 1000000 in
theorem word_long (pb : Nat) (s : ByteArray) (i : Nat) (w : World) (hi : i ≤ s.size) (hs : s.size ≤ 65536) (h : Scn pb s i w) (ht : Tab w) (hp : pb ≠ 0)
    (t : ByteArray) (htx : s.extract i (runEnd wordB s i) = t) (htl : t.size ≤ 65536) (hk : kwB t.data.toList = false) (hl : Lib.toLowerA t.data.toList = t.data.toList) (hasc : ∀ b ∈ t.data.toList, b.toNat < 128) (h24 : 24 < t.size) :
    Calls Tryd.prog 40 #[.pointer (some ⟨pb, 0, none⟩)] w (TokPost (wordOf t i (runEnd wordB s i)) pb s w) := by
  have c1 := h.c1
  have hlt : pb < w.heap.size := lt_of_block h
  have HH := Lib.hid h
  have HT := Lib.hid ht
  have HX := Lib.hid htx
  have HK := Lib.hid hk
  have HL := Lib.hid hl
  have HA := Lib.hid hasc
  clear h ht htx hk hl hasc
  go_enter Tryd.func40, Tryd.ntmps40
  go_wp2_with fail
  refine (run_any 57 wordB enters57 wordc_any pb s i _ hi hs (HH.out.alloc _)).mono ?_
  rintro e w1 ⟨rfl, hS, hkp⟩
  rw [HX.out]
  have K1 : Keep [pb] w w1 := ((Keep.refl [pb] w).alloc _).trans hkp
  have R1 := hkp.at (tok_new w) (by simp; omega)
  have HS := Lib.hid hS
  clear hS
  go_wp2_with fail
  refine (word_any t _ (by omega) (HT.out.keep K1 (by simp; omega))).mono ?_
  rintro e w2 ⟨rfl, hk2⟩
  have K2 : Keep [pb] w w2 := K1.trans hk2.wide
  have R2 := hk2.at R1 (by simp)
  rw [HK.out]
  go_wp2_with fail
  refine (Tryd.strings_ToLower_ascii t _ (by omega) (fun j b hb => HA.out b (List.mem_of_getElem? hb))).mono ?_
  rintro e w3 ⟨rfl, hb3⟩
  have K3 : Keep [pb] w w3 := K2.trans (Keep.of_below hb3 _)
  have R3 := (Keep.of_below hb3 []).at R2 (by simp)
  have S3 : Hid (Scn pb s (runEnd wordB s i) w3) := (Keep.of_below hb3 []).at (hk2.at HS.out (by simp)) (by simp)
  rw [HL.out]
  go_wp2_with fail
  refine ⟨rfl, K3, ?_⟩
  rw [wordOf, if_neg (by rw [HK.out]; simp), if_pos HL.out, if_neg (by omega)]
  rfl
set_option maxRecDepth 100000 in
set_option maxHeartbeats 1000000 in
theorem word_name (pb : Nat) (s : ByteArray) (i : Nat) (w : World) (hi : i ≤ s.size) (hs : s.size ≤ 65536) (h : Scn pb s i w) (ht : Tab w) (hp : pb ≠ 0)
    (t : ByteArray) (htx : s.extract i (runEnd wordB s i) = t) (htl : t.size ≤ 65536) (hk : kwB t.data.toList = false) (hl : Lib.toLowerA t.data.toList = t.data.toList) (hasc : ∀ b ∈ t.data.toList, b.toNat < 128) (h24 : t.size ≤ 24) :
    Calls Tryd.prog 40 #[.pointer (some ⟨pb, 0, none⟩)] w (TokPost (wordOf t i (runEnd wordB s i)) pb s w) := by
  have c1 := h.c1
  have hlt : pb < w.heap.size := lt_of_block h
  have HH := Lib.hid h
  have HT := Lib.hid ht
  have HX := Lib.hid htx
  have HK := Lib.hid hk
  have HL := Lib.hid hl
  have HA := Lib.hid hasc
  clear h ht htx hk hl hasc
  go_enter Tryd.func40, Tryd.ntmps40
  go_wp2_with fail
  refine (run_any 57 wordB enters57 wordc_any pb s i _ hi hs (HH.out.alloc _)).mono ?_
  rintro e w1 ⟨rfl, hS, hkp⟩
  rw [HX.out]
  have K1 : Keep [pb] w w1 := ((Keep.refl [pb] w).alloc _).trans hkp
  have R1 := hkp.at (tok_new w) (by simp; omega)
  have HS := Lib.hid hS
  clear hS
  go_wp2_with fail
  refine (word_any t _ (by omega) (HT.out.keep K1 (by simp; omega))).mono ?_
  rintro e w2 ⟨rfl, hk2⟩
  have K2 : Keep [pb] w w2 := K1.trans hk2.wide
  have R2 := hk2.at R1 (by simp)
  rw [HK.out]
  go_wp2_with fail
  refine (Tryd.strings_ToLower_ascii t _ (by omega) (fun j b hb => HA.out b (List.mem_of_getElem? hb))).mono ?_
  rintro e w3 ⟨rfl, hb3⟩
  have K3 : Keep [pb] w w3 := K2.trans (Keep.of_below hb3 _)
  have R3 := (Keep.of_below hb3 []).at R2 (by simp)
  have S3 : Hid (Scn pb s (runEnd wordB s i) w3) := (Keep.of_below hb3 []).at (hk2.at HS.out (by simp)) (by simp)
  rw [HL.out]
  obtain ⟨r0, r1, r2, r3, f0, f1, f2, f3⟩ := blk4 R3
  clear R1 R2 R3
  go_wp2_with fail
  refine bodyPost_ret (v := .agg #[.int .i64 1, .string t, .int .i64 0, .int .i64 i]) (by simp [results, Tryd.results40, go_sem, r0, r1, r2, r3]) rfl ?_
  refine ⟨K3.set4 (Nat.le_refl _) _ _ _ _, ?_⟩
  rw [wordOf, if_neg (by rw [HK.out]; simp), if_pos HL.out, if_pos h24]
  exact ⟨rfl, blk_other4 S3.out (by omega) _ _ _ _⟩
/-- A word's bytes are below 128. -/
theorem wordB_ascii {c : Int} (h : wordB c = true) : c < 128 := by
  simp [wordB, letterB, digitB] at h; omega
theorem run_ascii (s : ByteArray) (i : Nat) : ∀ b ∈ (s.extract i (runEnd wordB s i)).data.toList, b.toNat < 128 := by
  intro b hb
  obtain ⟨j, hj, e⟩ := List.mem_iff_getElem.1 hb
  simp at hj
  have h1 : i + j < s.size := by have : s.size = s.data.size := rfl; omega
  have h2 := runEnd_all wordB s (s.size - i) i rfl (i + j) (by omega) (by omega) h1
  have h3 := wordB_ascii h2
  have e2 : b = s[i + j] := by rw [← e]; simp; rfl
  rw [e2]; omega
theorem scanWord_any (pb : Nat) (s : ByteArray) (i : Nat) (w : World) (hi : i ≤ s.size) (hs : s.size ≤ 65536) (h : Scn pb s i w) (ht : Tab w) (hp : pb ≠ 0) :
    Calls Tryd.prog 40 #[.pointer (some ⟨pb, 0, none⟩)] w (TokPost (scanWord s i) pb s w) := by
  have hl : (s.extract i (runEnd wordB s i)).size ≤ 65536 := by
    have : (s.extract i (runEnd wordB s i)).size = min (runEnd wordB s i) s.size - i := by simp
    omega
  have hasc := run_ascii s i
  unfold scanWord
  by_cases h1 : kwB (s.extract i (runEnd wordB s i)).data.toList = true
  · exact word_kw pb s i w hi hs h ht hp _ rfl hl h1
  · have h1 : kwB (s.extract i (runEnd wordB s i)).data.toList = false := by simpa using h1
    by_cases h2 : Lib.toLowerA (s.extract i (runEnd wordB s i)).data.toList = (s.extract i (runEnd wordB s i)).data.toList
    · by_cases h3 : (s.extract i (runEnd wordB s i)).size ≤ 24
      · exact word_name pb s i w hi hs h ht hp _ rfl hl h1 h2 hasc h3
      · exact word_long pb s i w hi hs h ht hp _ rfl hl h1 h2 hasc (by omega)
    · exact word_upper pb s i w hi hs h ht hp _ rfl hl h1 h2 hasc
end Go.Proofs.YtippkncnecbhlaaDoor.Lx
