/- The tests that the statements over drawn arguments share: a code's length, two lists that are one, whether a list holds a number; no conditions but the length. -/
import Derived.Test.YteoajaichjojdaaDoorCur
import Derived.Test.YteoajaichjojdaaDoorHasI
namespace Go.Proofs.YteoajaichjojdaaDoor
open Go.RowKit

/-- A code that came in: bytes in memory. -/
def Codes (w : World) (A : Option Addr) (n : Nat) : Prop := ∃ l, InBytes w A n l
theorem Codes.carry {w w' : World} {A : Option Addr} {n : Nat} (h : Codes w A n) (hb : Below w.heap.size w w') : Codes w' A n := by
  obtain ⟨l, h1, h2, h3, h4⟩ := h
  exact ⟨l, h1, h2, h3.carry hb, h4⟩
/-- The cursor that a Draw makes of a code. -/
theorem Codes.cur {w : World} {A : Option Addr} {n cap : Nat} (h : Codes w A n) : Cur (w.alloc (.cells #[.slice A n cap, .int .i64 0, .int .u64 0] 59)) w.heap.size 0 := by
  obtain ⟨l, rfl, h2, h3, h4⟩ := h
  exact Cur.new h2 h3 h4
/-- What a Draw leaves of what was there. -/
theorem draw_end {w w' : World} {o : Obj} (h : (w.alloc o).grownBy w' (some w.heap.size)) : Below w.heap.size w w' :=
  ((Below.refl _ _).alloc (Nat.le_refl _) o).trans (grown_below h (Nat.le_refl _) (by simp))
theorem vBig_c (A : Option Addr) (n cap : Nat) (w : World) : Calls Tryd.prog 4 #[.slice A n cap] w fun e w' => e = .returned (.bool (decide (65536 < (n : Int)))) ∧ w = w' := by
  go_enter Tryd.func4, Tryd.ntmps4
  go_wp2_with fail
  go_ret
  exact ⟨rfl, rfl⟩
/-- Two lists of ints that are one list. -/
theorem vInts_same (l : List Int) (A B : Option Addr) (cap cap' : Nat) (w : World) (hl : l.length ≤ 1048576) (hr : Rd w w.heap.size 1 intCells A l) (hr' : Rd w w.heap.size 1 intCells B l) :
    Calls Tryd.prog 19 #[.slice A l.length cap, .slice B l.length cap'] w fun e w' => e = .returned (.bool true) ∧ Below w.heap.size w w' := by
  have hb : ((l.length : Int) != l.length) = false := by simp
  go_enter Tryd.func19, Tryd.ntmps19
  go_wp2_with fail
  go_loopw [5] (fun i wr => ∃ k : Nat, k ≤ l.length ∧ i = .int .i64 k ∧ Below w.heap.size w wr) (fun i _ => l.length - (intOf i).toNat)
  case atStart => exact ⟨0, Nat.zero_le _, rfl, Below.refl _ _⟩
  case round =>
    obtain ⟨k, hk, rfl, hbel⟩ := hrel
    have HB := Lib.hid hbel
    by_cases hlt : k < l.length
    · obtain ⟨b, off, rfl, hb1, hc1⟩ := (hr.below hbel (Nat.le_refl _)).int hlt
      obtain ⟨b', off', rfl, hb2, hc2⟩ := (hr'.below hbel (Nat.le_refl _)).int hlt
      have z1 := hbel.size
      have l1 : b < wr.heap.size := by omega
      have l2 : b' < wr.heap.size := by omega
      have i1 : (0 : Int) ≤ (k : Int) := by omega
      have i2 : (k : Int) < l.length := by omega
      clear hbel
      go_wp2_with fail
      refine wp_region_mem (by kernel_rfl) (by kernel_rfl) ?_
      repeat (go_big_quiet_step (fail))
      refine wpQuiet_nil ?_
      intro _ hw'
      obtain ⟨⟨wq, hbq⟩, hw''⟩ := hw'
      obtain rfl := hw''.symm
      obtain ⟨hcq, hfq, hzq⟩ := bcell hbq
      try simp [Nat.add_one_le_iff] at hzq
      go_wp2_with fail
      go_roundw
      case rel => exact ⟨k + 1, by omega, by go_num, HB.out.trans (hbq.mono z1)⟩
      case measure => simp [intOf]; omega
    · clear hbel
      obtain rfl : k = l.length := by omega
      go_wp2_with fail
      go_ret
      exact ⟨rfl, HB.out⟩
end Go.Proofs.YteoajaichjojdaaDoor
