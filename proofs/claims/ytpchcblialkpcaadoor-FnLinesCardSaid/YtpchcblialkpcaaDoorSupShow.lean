/- LineText and IsLine of both, and two lines that are one; no conditions but the length and what the library's text lays. -/
import Derived.Test.YtpchcblialkpcaaDoorSupTextI
import Derived.Test.YtpchcblialkpcaaDoorSupTextS
import Derived.Test.YtpchcblialkpcaaDoorSupFlip
namespace Go.Proofs.YtpchcblialkpcaaDoor
open Go.RowKit

set_option maxHeartbeats 1000000 in
theorem vLine_same (l : List Sup) (A B : Option Addr) (cap cap' : Nat) (w : World) (hl : l.length ≤ 1048576) (hr : Rd w w.heap.size 3 Sup.cells A l) (hr' : Rd w w.heap.size 3 Sup.cells B l) :
    Calls Tryd.prog 8 #[.slice A l.length cap, .slice B l.length cap'] w fun e w' => e = .returned (.bool true) ∧ Below w.heap.size w w' := by
  have hb : ((l.length : Int) != l.length) = false := by simp
  go_enter Tryd.func8, Tryd.ntmps8
  go_wp2_with fail
  go_loopw [5] (fun i wr => ∃ k : Nat, k ≤ l.length ∧ i = .int .i64 k ∧ Below w.heap.size w wr) (fun i _ => l.length - (intOf i).toNat)
  case atStart => exact ⟨0, Nat.zero_le _, rfl, Below.refl _ _⟩
  case round =>
    obtain ⟨k, hk, rfl, hbel⟩ := hrel
    have HB := Lib.hid hbel
    by_cases hlt : k < l.length
    · obtain ⟨b, off, rfl, hb1, hc0, hc1, hc2⟩ := Sup.rd (hr.below hbel (Nat.le_refl _)) hlt
      obtain ⟨b', off', rfl, hb2, hd0, hd1, hd2⟩ := Sup.rd (hr'.below hbel (Nat.le_refl _)) hlt
      have z1 := hbel.size
      have l1 : b < wr.heap.size := by omega
      have l2 : b' < wr.heap.size := by omega
      have i1 : (0 : Int) ≤ (k : Int) := by omega
      have i2 : (k : Int) < l.length := by omega
      clear hbel
      go_wp2_with fail
      refine wp_region_mem (by kernel_rfl) (by kernel_rfl) ?_
      repeat (go_big_quiet_step (fail))
      refine wpQuiet_nil ?_
      intro _ hw'
      obtain ⟨⟨wq, hbq⟩, hw''⟩ := hw'
      obtain rfl := hw''.symm
      obtain ⟨hcq, hfq, hzq⟩ := bcell hbq
      try simp [Nat.add_one_le_iff] at hzq
      go_wp2_with fail
      go_roundw
      case rel => exact ⟨k + 1, by omega, by go_num, HB.out.trans (hbq.mono z1)⟩
      case measure => simp [intOf]; omega
    · clear hbel
      obtain rfl : k = l.length := by omega
      go_wp2_with fail
      go_ret
      exact ⟨rfl, HB.out⟩
def LineTP (p : ByteArray × Bool) (w : World) (e : Ending) (w' : World) : Prop := e = .returned (.tuple #[.string p.1, .bool p.2]) ∧ Below w.heap.size w w'
theorem retTU {p : ByteArray × Bool} {v : ByteArray} {b : Bool} (h : p = (v, b)) : Ending.returned (.tuple #[.string v, .bool b]) = .returned (.tuple #[.string p.1, .bool p.2]) := by rw [h]
theorem implShow_c (l : List Sup) (A : Option Addr) (cap : Nat) (w : World) (hl : l.length ≤ 1048576) (hr : Rd w w.heap.size 3 Sup.cells A l) (hT : Tab w) : Calls Tryd.prog 13 #[.slice A l.length cap] w (LineTP (lineP l) w) := by
  have HR := Lib.hid hr
  clear hr
  rcases hg : goodU l with _ | _
  · have H := Lib.hid (show lineP l = (⟨#[]⟩, false) by simp [lineP, hg])
    go_enter Tryd.func13, Tryd.ntmps13
    go_wp2_with fail
    refine (IsLine_c l _ _ _ hl HR.out).mono ?_
    rintro e w1 ⟨rfl, hb1⟩
    rw [hg]
    go_wp2_with fail
    exact bodyPost_ret (v := .tuple #[.string ⟨#[]⟩, .bool false]) (by simp [results, Tryd.results13, go_sem]) rfl ⟨retTU H.out, hb1⟩
  have H := Lib.hid (show lineP l = (S (lineL l), true) by simp [lineP, hg])
  have HG := Lib.hid hg
  have HT := Lib.hid hT
  go_enter Tryd.func13, Tryd.ntmps13
  go_wp2_with fail
  refine (IsLine_c l _ _ _ hl HR.out).mono ?_
  rintro e w1 ⟨rfl, hb1⟩
  rw [hg]
  have HR1 := Lib.hid (HR.out.carry hb1)
  have HB1 := Lib.hid hb1
  clear hg hb1
  go_wp2_with fail
  refine (implLineText_c l _ _ _ HG.out HR1.out (HT.out.carry HB1.out)).mono ?_
  rintro e w2 ⟨rfl, hb2⟩
  have HB2 := Lib.hid (HB1.out.trans (hb2.mono HB1.out.size))
  clear hb2
  go_wp2_with fail
  exact bodyPost_ret (v := .tuple #[.string (S (lineL l)), .bool true]) (by simp [results, Tryd.results13, go_sem]) rfl ⟨retTU H.out, HB2.out⟩
theorem specShow_c (l : List Sup) (A : Option Addr) (cap : Nat) (w : World) (hl : l.length ≤ 1048576) (hr : Rd w w.heap.size 3 Sup.cells A l)  : Calls Tryd.prog 15 #[.slice A l.length cap] w (LineTP (lineP l) w) := by
  have HR := Lib.hid hr
  clear hr
  rcases hg : goodU l with _ | _
  · have H := Lib.hid (show lineP l = (⟨#[]⟩, false) by simp [lineP, hg])
    go_enter Tryd.func15, Tryd.ntmps15
    go_wp2_with fail
    refine (l2Line_c l _ _ _ hl HR.out).mono ?_
    rintro e w1 ⟨rfl, hb1⟩
    rw [hg]
    go_wp2_with fail
    exact bodyPost_ret (v := .tuple #[.string ⟨#[]⟩, .bool false]) (by simp [results, Tryd.results15, go_sem]) rfl ⟨retTU H.out, hb1⟩
  have H := Lib.hid (show lineP l = (S (lineL l), true) by simp [lineP, hg])
  have HG := Lib.hid hg
  
  go_enter Tryd.func15, Tryd.ntmps15
  go_wp2_with fail
  refine (l2Line_c l _ _ _ hl HR.out).mono ?_
  rintro e w1 ⟨rfl, hb1⟩
  rw [hg]
  have HR1 := Lib.hid (HR.out.carry hb1)
  have HB1 := Lib.hid hb1
  clear hg hb1
  go_wp2_with fail
  refine (specLineText_c l _ _ _ HG.out HR1.out ).mono ?_
  rintro e w2 ⟨rfl, hb2⟩
  have HB2 := Lib.hid (HB1.out.trans (hb2.mono HB1.out.size))
  clear hb2
  go_wp2_with fail
  exact bodyPost_ret (v := .tuple #[.string (S (lineL l)), .bool true]) (by simp [results, Tryd.results15, go_sem]) rfl ⟨retTU H.out, HB2.out⟩
end Go.Proofs.YtpchcblialkpcaaDoor
