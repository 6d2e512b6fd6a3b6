/- Whether a list of ints holds a number: the reference's l1Has; no conditions but the length. -/
import Derived.Test.YtalabohacedgnaaRange
import Derived.Test.YtalabohacedgnaaSlice
import Derived.IntWalk
import Derived.Outline
namespace Go.Proofs.Ytalabohacedgnaa
open Go.RowKit

def hasI (o : List Int) (x : Int) : Bool := decide (x ∈ o)
theorem hasI_yes {o : List Int} {x : Int} {k : Nat} (hk : k < o.length) (h : nth o k = x) : hasI o x = true := decide_eq_true (h ▸ nth_mem hk)
theorem hasI_no {o : List Int} {x : Int} (h : ∀ j, j < o.length → nth o j ≠ x) : hasI o x = false := decide_eq_false fun hm => by
  obtain ⟨j, hj, he⟩ := List.getElem_of_mem hm
  exact h j hj (by rw [nth_eq hj, he])
theorem l1Has_c (o : List Int) (A : Option Addr) (cap : Nat) (x : Int) (w : World) (hl : o.length ≤ 1048576) (hr : Rd w w.heap.size 1 intCells A o) :
    Calls Try.prog 66 #[.slice A o.length cap, .int .i64 x] w fun e w' => e = .returned (.bool (hasI o x)) ∧ w = w' := by
  go_enter Try.func66, Try.ntmps66
  go_wp2_with fail
  go_loop [5] (fun i => ∃ k : Nat, k ≤ o.length ∧ i = .int .i64 k ∧ ∀ j, j < k → nth o j ≠ x) (fun i => o.length - (intOf i).toNat)
  case atStart => exact ⟨0, Nat.zero_le _, rfl, fun j hj => absurd hj (by omega)⟩
  case round =>
    obtain ⟨k, hk, rfl, hall⟩ := hrel
    have HA := Lib.hid hall
    clear hall
    by_cases hlt : k < o.length
    · obtain ⟨b, off, rfl, hb, hc⟩ := hr.int hlt
      by_cases hq : nth o k = x
      · have H := Lib.hid (hasI_yes hlt hq)
        have hq' : (nth o k == x) = true := by simp [hq]
        clear hq
        go_wp2_with fail
        go_ret
        exact ⟨retb H.out.symm, rfl⟩
      · have H := Lib.hid (below_add (p := fun j => nth o j ≠ x) HA.out hq)
        have hq' : (nth o k == x) = false := by simpa using hq
        clear hq
        go_wp2_with fail
        go_round
        case rel => exact ⟨k + 1, by omega, by go_num, H.out⟩
        case measure => simp [intOf]; omega
    · obtain rfl : k = o.length := by omega
      have H := Lib.hid (hasI_no HA.out)
      go_wp2_with fail
      go_ret
      exact ⟨retb H.out.symm, rfl⟩
end Go.Proofs.Ytalabohacedgnaa
