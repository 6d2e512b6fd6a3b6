/- Two lists of damages that are one list; no conditions but the length. -/
import Derived.Test.YtlgpgcfncmomiaaDamList
namespace Go.Proofs.Ytlgpgcfncmomiaa
open Go.RowKit

set_option maxHeartbeats 1000000 in
theorem rDamages_same (l : List Dam) (A B : Option Addr) (cap cap' : Nat) (w : World) (hl : l.length ≤ 1048576) (hr : Rd w w.heap.size 3 Dam.cells A l) (hr' : Rd w w.heap.size 3 Dam.cells B l) :
    Calls Try.prog 8 #[.slice A l.length cap, .slice B l.length cap'] w fun e w' => e = .returned (.bool true) ∧ Below w.heap.size w w' := by
  have hb : ((l.length : Int) != l.length) = false := by simp
  go_enter Try.func8, Try.ntmps8
  go_wp2_with fail
  go_loopw [5] (fun i wr => ∃ k : Nat, k ≤ l.length ∧ i = .int .i64 k ∧ Below w.heap.size w wr) (fun i _ => l.length - (intOf i).toNat)
  case atStart => exact ⟨0, Nat.zero_le _, rfl, Below.refl _ _⟩
  case round =>
    obtain ⟨k, hk, rfl, hbel⟩ := hrel
    have HB := Lib.hid hbel
    by_cases hlt : k < l.length
    · obtain ⟨b, off, rfl, hb1, c0, c1, c2⟩ := Dam.rd (hr.below hbel (Nat.le_refl _)) hlt
      obtain ⟨b', off', rfl, hb2, d0, d1, d2⟩ := Dam.rd (hr'.below hbel (Nat.le_refl _)) hlt
      have z1 := hbel.size
      have l1 : b < wr.heap.size := by omega
      have l2 : b' < wr.heap.size := by omega
      have i1 : (0 : Int) ≤ (k : Int) := by omega
      have i2 : (k : Int) < l.length := by omega
      clear hbel
      go_wp2_with fail
      refine wp_region_mem (by kernel_rfl) (by kernel_rfl) ?_
      repeat (go_big_quiet_step (fail))
      refine wpQuiet_nil ?_
      intro _ hw'
      obtain ⟨⟨wq, hbq⟩, hw''⟩ := hw'
      obtain rfl := hw''.symm
      obtain ⟨hcq, hfq, hzq⟩ := bcell hbq
      try simp [Nat.add_one_le_iff] at hzq
      go_wp2_with fail
      go_roundw
      case rel => exact ⟨k + 1, by omega, by go_num, HB.out.trans (hbq.mono z1)⟩
      case measure => simp [intOf]; omega
    · clear hbel
      obtain rfl : k = l.length := by omega
      go_wp2_with fail
      go_ret
      exact ⟨rfl, HB.out⟩
end Go.Proofs.Ytlgpgcfncmomiaa
