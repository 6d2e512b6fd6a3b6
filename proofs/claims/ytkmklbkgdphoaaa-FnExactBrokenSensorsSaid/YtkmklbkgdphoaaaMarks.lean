/- Lists of ints that are marked, and looked at again; no conditions beyond the length. -/
import Derived.Test.YtkmklbkgdphoaaaOwn
import Derived.Test.YtkmklbkgdphoaaaInts
import Derived.Outline
namespace Go.Proofs.Ytkmklbkgdphoaaa
open Go.RowKit

theorem markIntS_c (l : List Int) (A : Option Addr) (cap : Nat) (m : Int) (base : Nat) (w : World) (hl : l.length ≤ 1048576) (h0 : 0 ≤ m) (h1 : m ≤ 100000000) (ho : Own w base 3 1 intCells A l) (hbs : base ≤ w.heap.size) :
    Calls Try.prog 11 #[.slice A l.length cap, .int .i64 m] w fun e w' => e = .returned (.int .i64 (m + l.length)) ∧ Own w' base 3 1 intCells A (markL m l.length) ∧ Below base w w' := by
  by_cases hz : l.length = 0
  · rw [hz]
    go_enter Try.func11, Try.ntmps11
    go_wp2_with fail
    refine wp_loop_rounds 1 ?_
    rw [rounds_succ]
    go_wp2_with fail
    go_ret
    exact ⟨by simp, by rw [show markL m 0 = [] from rfl]; exact Own.nil, Below.refl _ _⟩
  · obtain ⟨g, N, f0, rfl, hg, hN, hf0, _⟩ := ho (by omega)
    simp only [Nat.mul_one] at hN
    have hglt := hf0.lt
    have HF0 := Lib.hid hf0
    clear hf0 ho
    go_enter Try.func11, Try.ntmps11
    go_wp2_with fail
    go_loopw [1, 5] (fun s i wr => ∃ (k : Nat) (f : Nat → Value), k ≤ l.length ∧ i = .int .i64 k ∧ s = .int .i64 (m + k) ∧ wr.rowIs g 3 N f ∧ (∀ j, j < k → f j = .int .i64 (m + j)) ∧ Below base w wr) (fun _ i _ => l.length - (intOf i).toNat)
    case atStart => exact ⟨0, f0, Nat.zero_le _, rfl, by simp, HF0.out, fun j hj => absurd hj (by omega), Below.refl _ _⟩
    case round =>
      obtain ⟨k, f, hk, rfl, rfl, hf, hall, hbel⟩ := hrel
      have HA := Lib.hid hall
      have HB := Lib.hid hbel
      have HF := Lib.hid hf
      clear hall hbel
      by_cases hlt : k < l.length
      · have hc := hf.cell (show k < N by omega)
        have hz2 := hf.frozen k
        clear hf
        go_wp2_with fail
        go_roundw
        case rel => exact ⟨k + 1, _, by omega, by go_num, by go_num, HF.out.set k _, fun j hj => by
          by_cases e : j = k
          · rw [if_pos e, e]
          · rw [if_neg e]; exact HA.out j (by omega), HB.out.setCell (p := ⟨g, k, none⟩) hg _⟩
        case measure => simp [intOf]; omega
      · obtain rfl : k = l.length := by omega
        clear hf
        go_wp2_with fail
        go_ret
        exact ⟨rfl, fun _ => ⟨g, N, f, rfl, hg, by rw [markL_len]; omega, HF.out, fun i hi j v hj hv => by
          rw [markL_len] at hi
          obtain rfl : j = 0 := by omega
          rw [markL_nth hi] at hv
          simp only [intCells, List.getElem?_cons_zero, Option.some.injEq] at hv
          rw [← hv, Nat.mul_one, Nat.add_zero, HA.out i hi]⟩, HB.out⟩

theorem heldIntS_c (n : Nat) (A : Option Addr) (cap : Nat) (m : Int) (w : World) (hl : n ≤ 1048576) (h0 : 0 ≤ m) (h1 : m ≤ 100000000) (hr : Rd w w.heap.size 1 intCells A (markL m n)) :
    Calls Try.prog 12 #[.slice A n cap, .int .i64 m] w fun e w' => e = .returned (.int .i64 (m + n)) ∧ w = w' := by
  go_enter Try.func12, Try.ntmps12
  go_wp2_with fail
  go_loop [1, 5] (fun s i => ∃ k : Nat, k ≤ n ∧ i = .int .i64 k ∧ s = .int .i64 (m + k)) (fun _ i => n - (intOf i).toNat)
  case atStart => exact ⟨0, Nat.zero_le _, rfl, by simp⟩
  case round =>
    obtain ⟨k, hk, rfl, rfl⟩ := hrel
    by_cases hlt : k < n
    · obtain ⟨b, off, rfl, hb, hc⟩ := hr.int (show k < (markL m n).length by rw [markL_len]; exact hlt)
      rw [markL_nth hlt] at hc
      go_wp2_with fail
      go_round
      case rel => exact ⟨k + 1, by omega, by go_num, by go_num⟩
      case measure => simp [intOf]; omega
    · obtain rfl : k = n := by omega
      go_wp2_with fail
      go_ret
      exact ⟨rfl, rfl⟩
end Go.Proofs.Ytkmklbkgdphoaaa
