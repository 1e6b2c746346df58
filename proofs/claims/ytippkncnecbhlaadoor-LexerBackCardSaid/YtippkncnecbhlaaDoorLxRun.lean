/- The walk of (*scanner).run. -/
import Derived.Test.YtippkncnecbhlaaDoorLxA
import Derived.Test.YtippkncnecbhlaaDoorLxW
import Derived.Deep.LoopGhost
import Derived.Deep.QuietTactic
import Derived.BigQuiet
import Derived.Deep.DeepCutAuto
namespace Go.Proofs.YtippkncnecbhlaaDoor.Lx
open Go.RowKit
/-- The scanner in block pb: the text and the place. -/
def Scn (pb : Nat) (s : ByteArray) (at_ : Int) (w : World) : Prop := w.heap[pb]? = some (.cells #[.string s, .int .i64 at_] 40 (0, 0))
theorem Scn.c0 {pb : Nat} {s : ByteArray} {k : Int} {w : World} (h : Scn pb s k w) : w.cell? ⟨pb, 0, none⟩ = some (.string s) := (blk_cell h 0).trans rfl
theorem Scn.c1 {pb : Nat} {s : ByteArray} {k : Int} {w : World} (h : Scn pb s k w) : w.cell? ⟨pb, 1, none⟩ = some (.int .i64 k) := (blk_cell h 1).trans rfl
theorem Scn.f1 {pb : Nat} {s : ByteArray} {k : Int} {w : World} (h : Scn pb s k w) : w.frozen? ⟨pb, 1, none⟩ = false := blk_free h 1
theorem Scn.set {pb : Nat} {s : ByteArray} {k : Int} {w : World} (h : Scn pb s k w) (j : Int) : Scn pb s j (w.setCell ⟨pb, 1, none⟩ (.int .i64 j)) := (blk_set h 1 _).trans rfl
theorem Scn.drewN {pb : Nat} {s : ByteArray} {k : Int} {w : World} (h : Scn pb s k w) (n : Nat) : Scn pb s k (w.drewN n) := h
theorem Scn.alloc {pb : Nat} {s : ByteArray} {k : Int} {w : World} (h : Scn pb s k w) (o : Obj) : Scn pb s k (w.alloc o) := blk_alloc h o
theorem quiet_eq {P : Program} {f : FuncId} {args : Array Value} {w : World} {n : Nat} {v : Value}
    (h : Calls P f args (w.drewN n) fun e w' => e = .returned v ∧ w.drewN n = w') : Calls P f args (w.drewN n) fun e w'' => e = .returned v ∧ ∃ m, w'' = w.drewN m :=
  h.mono fun _ _ ⟨he, hm⟩ => ⟨he, n, hm.symm⟩
def RunPost (p : Int → Bool) (pb : Nat) (s : ByteArray) (i : Nat) (w : World) (e : Ending) (w' : World) : Prop :=
  e = .returned (.string (s.extract i (runEnd p s i))) ∧ Scn pb s (runEnd p s i) w' ∧ Keep [pb] w w'
set_option maxHeartbeats 1000000 in
theorem run_any (f : Nat) (p : Int → Bool) (he : ∀ args w, (callFunc f args).run Tryd.prog w = .ok (.enter f args) w) (hf : ∀ (c : Int) (w : World), Calls Tryd.prog f #[.int .u8 c] w fun e w' => e = .returned (.bool (p c)) ∧ w = w')
    (pb : Nat) (s : ByteArray) (i : Nat) (w : World) (hi : i ≤ s.size) (hs : s.size ≤ 65536) (h : Scn pb s i w) :
    Calls Tryd.prog 38 #[.pointer (some ⟨pb, 0, none⟩), .func (.func f) #[] #[]] w (RunPost p pb s i w) := by
  have HF := Lib.hid hf
  clear hf
  have c1 := h.c1
  have HH := Lib.hid h
  clear h
  go_enter Tryd.func38, Tryd.ntmps38
  go_wp2_with fail
  go_loopg [] (s.size - i + 1) (fun g wr => ∃ k : Nat, i ≤ k ∧ k ≤ s.size ∧ s.size - k < g ∧ Hid (runEnd p s k = runEnd p s i) ∧ Hid (Scn pb s k wr) ∧ Keep [pb] w wr)
  case atStart => exact ⟨i, Nat.le_refl _, hi, by omega, rfl, HH.out, Keep.refl _ _⟩
  case round =>
    obtain ⟨k, hk1, hk2, hk3, HR, HS, hkeep⟩ := hrel
    have d0 := HS.out.c0
    have d1 := HS.out.c1
    have e1 := HS.out.f1
    by_cases hlt : k < s.size
    · have hlt' : (k : Int) < (s.size : Int) := by omega
      cases hp : p (s[k].toNat : Int) with
      | true =>
        have HP := Lib.hid hp
        clear hp
        go_wp2_with fail
        go_quiet ((refine quiet_eq (HF.out _ _)))
        rw [HP.out]
        go_wp2_with fail
        go_roundg (s.size - k)
        case measure => omega
        case rel =>
          exact ⟨k + 1, by omega, by omega, by omega, by rw [← runEnd_step hlt HP.out]; exact HR.out, (HS.out.drewN nq).set _, (hkeep.drewN nq).setCell (Or.inl (by simp)) _⟩
      | false =>
        have HP := Lib.hid hp
        clear hp
        go_wp2_with fail
        go_quiet ((refine quiet_eq (HF.out _ _)))
        rw [HP.out]
        go_wp2_with fail
        go_quiet (fail)
        go_wp2_with fail
        go_ret
        rw [runEnd_stop hlt HP.out] at HR
        have e := HR.out
        subst e
        exact ⟨rfl, (HS.out.drewN _).drewN _, (hkeep.drewN _).drewN _⟩
    · have hlt' : ¬ (k : Int) < (s.size : Int) := by omega
      have hd : decide ((k : Int) < (s.size : Int)) = false := by simpa using hlt'
      go_wp2_with fail
      go_quiet (fail)
      go_wp2_with fail
      go_quiet (fail)
      go_wp2_with fail
      go_ret
      rw [runEnd_end hlt] at HR
      have e := HR.out
      subst e
      exact ⟨rfl, (HS.out.drewN _).drewN _, (hkeep.drewN _).drewN _⟩
end Go.Proofs.YtippkncnecbhlaaDoor.Lx
