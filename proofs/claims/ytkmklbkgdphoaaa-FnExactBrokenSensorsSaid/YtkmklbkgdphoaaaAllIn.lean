/- allIn says whether all numbers of a list lie in a range; no conditions but the length. -/
import Derived.Test.YtkmklbkgdphoaaaRange
import Derived.Test.YtkmklbkgdphoaaaSlice
namespace Go.Proofs.Ytkmklbkgdphoaaa
open Go.RowKit

def allR (l : List Int) (lo hi : Int) : Bool := allTo l.length fun i => inR (nth l i) lo hi
theorem allR_no {l : List Int} {lo hi : Int} {k : Nat} (hk : k < l.length) (h : inR (nth l k) lo hi = false) : allR l lo hi = false := allTo_no (p := fun i => inR (nth l i) lo hi) hk h
theorem allIn_c (l : List Int) (A : Option Addr) (cap : Nat) (lo hi : Int) (w : World) (hl : l.length ≤ 1048576) (hr : Rd w w.heap.size 1 intCells A l) :
    Calls Try.prog 20 #[.slice A l.length cap, .int .i64 lo, .int .i64 hi] w fun e w' => e = .returned (.bool (allR l lo hi)) ∧ w = w' := by
  go_enter Try.func20, Try.ntmps20
  go_wp2_with fail
  go_loop [8, 11] (fun _ i => ∃ k : Nat, k ≤ l.length ∧ i = .int .i64 k ∧ ∀ j, j < k → inR (nth l j) lo hi = true) (fun _ i => l.length - (intOf i).toNat)
  case atStart => exact ⟨0, Nat.zero_le _, rfl, fun j hj => absurd hj (by omega)⟩
  case round =>
    obtain ⟨k, hk, rfl, hall⟩ := hrel
    have HA := Lib.hid hall
    clear hall
    by_cases hlt : k < l.length
    · obtain ⟨b, off, rfl, hb, hc⟩ := hr.int hlt
      rcases hin : inR (nth l k) lo hi with _ | _
      · go_wp2_with (go_at_call 19; refine (within_c _ _ _ _).mono ?_; rintro e w' ⟨rfl, rfl⟩)
        go_ret
        exact ⟨retb (allTo_no hlt hin).symm, rfl⟩
      · go_wp2_with (go_at_call 19; refine (within_c _ _ _ _).mono ?_; rintro e w' ⟨rfl, rfl⟩)
        go_round
        case rel => exact ⟨k + 1, by omega, by go_num, fun j hj => by rcases Nat.lt_succ_iff_lt_or_eq.1 hj with h | h; exact HA.out j h; subst h; exact hin⟩
        case measure => simp [intOf]; omega
    · obtain rfl : k = l.length := by omega
      go_wp2_with fail
      go_ret
      exact ⟨retb (allTo_true.2 HA.out).symm, rfl⟩
theorem allIn_n (l : List Int) (n : Nat) (hn : n = l.length) (A : Option Addr) (cap : Nat) (lo hi : Int) (w : World) (hl : l.length ≤ 1048576) (hr : Rd w w.heap.size 1 intCells A l) :
    Calls Try.prog 20 #[.slice A n cap, .int .i64 lo, .int .i64 hi] w fun e w' => e = .returned (.bool (allR l lo hi)) ∧ w = w' := by
  subst hn; exact allIn_c l A cap lo hi w hl hr
end Go.Proofs.Ytkmklbkgdphoaaa
