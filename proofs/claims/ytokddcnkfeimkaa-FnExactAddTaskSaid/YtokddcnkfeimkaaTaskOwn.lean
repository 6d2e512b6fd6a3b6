/- A list of tasks that a call handed back is marked, and looked at again; no conditions beyond the length. -/
import Derived.Test.YtokddcnkfeimkaaTasks
import Derived.Test.YtokddcnkfeimkaaOwn
namespace Go.Proofs.Ytokddcnkfeimkaa
open Go.RowKit
def markLTsk (m : Int) (n : Nat) : List Tsk := (List.range n).map fun i : Nat => ⟨(m + 4 * (i : Int)), (m + 4 * (i : Int) + 1), (m + 4 * (i : Int) + 2), (m + 4 * (i : Int) + 3)⟩
theorem markLTsk_len (m : Int) (n : Nat) : (markLTsk m n).length = n := by simp [markLTsk]
theorem markLTsk_nth {m : Int} {n i : Nat} (hi : i < n) : nth (markLTsk m n) i = ⟨(m + 4 * (i : Int)), (m + 4 * (i : Int) + 1), (m + 4 * (i : Int) + 2), (m + 4 * (i : Int) + 3)⟩ := by simp [nth, markLTsk, hi]
set_option maxHeartbeats 800000 in
theorem markTaskS_o (l : List Tsk) (A : Option Addr) (cap : Nat) (m : Int) (base : Nat) (w : World) (hl : l.length ≤ 1048576) (h0 : 0 ≤ m) (h1 : m ≤ 100000000) (ho : Own w base 50 4 Tsk.cells A l) (hbs : base ≤ w.heap.size) :
    Calls Try.prog 33 #[.slice A l.length cap, .int .i64 m] w fun e w' => e = .returned (.int .i64 (m + 4 * l.length)) ∧ Own w' base 50 4 Tsk.cells A (markLTsk m l.length) ∧ Below base w w' := by
  by_cases hz : l.length = 0
  · rw [hz]
    go_enter Try.func33, Try.ntmps33
    go_wp2_with fail
    refine wp_loop_rounds 1 ?_
    rw [rounds_succ]
    go_wp2_with fail
    go_ret
    exact ⟨by simp, by rw [show markLTsk m 0 = [] from rfl]; exact Own.nil, Below.refl _ _⟩
  · obtain ⟨g, N, f0, rfl, hg, hN, hf0, _⟩ := ho (by omega)
    have hglt := hf0.lt
    have HF0 := Lib.hid hf0
    clear hf0 ho
    go_enter Try.func33, Try.ntmps33
    go_wp2_with fail
    go_loopw [1, 5] (fun s i wr => ∃ (k : Nat) (f : Nat → Value), k ≤ l.length ∧ i = .int .i64 k ∧ s = .int .i64 (m + 4 * k) ∧ wr.rowIs g 50 N f ∧ (∀ j : Nat, j < k → f (j * 4) = .int .i64 (m + 4 * (j : Int)) ∧ f (j * 4 + 1) = .int .i64 (m + 4 * (j : Int) + 1) ∧ f (j * 4 + 2) = .int .i64 (m + 4 * (j : Int) + 2) ∧ f (j * 4 + 3) = .int .i64 (m + 4 * (j : Int) + 3)) ∧ Below base w wr) (fun _ i _ => l.length - (intOf i).toNat)
    case atStart => exact ⟨0, f0, Nat.zero_le _, rfl, by simp, HF0.out, fun j hj => absurd hj (by omega), Below.refl _ _⟩
    case round =>
      obtain ⟨k, f, hk, rfl, rfl, hf, hall, hbel⟩ := hrel
      have HA := Lib.hid hall
      have HB := Lib.hid hbel
      have HF := Lib.hid hf
      clear hall hbel
      by_cases hlt : k < l.length
      · have hc0 := hf.cell (show k * 4 < N by omega)
        have hz0 := hf.frozen (k * 4)
        have hc1 := hf.cell (show k * 4 + 1 < N by omega)
        have hz1 := hf.frozen (k * 4 + 1)
        have hc2 := hf.cell (show k * 4 + 2 < N by omega)
        have hz2 := hf.frozen (k * 4 + 2)
        have hc3 := hf.cell (show k * 4 + 3 < N by omega)
        have hz3 := hf.frozen (k * 4 + 3)
        clear hf
        go_wp2_with fail
        go_roundw
        case rel => exact ⟨k + 1, _, by omega, by go_num, by go_num, ((((HF.out.set (k * 4) _).set (k * 4 + 1) _).set (k * 4 + 2) _).set (k * 4 + 3) _), fun j hj => by
          by_cases e : j = k
          · subst e
            exact ⟨by (rw [if_neg (by omega), if_neg (by omega), if_neg (by omega), if_pos rfl]) <;> go_num, by (rw [if_neg (by omega), if_neg (by omega), if_pos rfl]) <;> go_num, by (rw [if_neg (by omega), if_pos rfl]) <;> go_num, by (rw [if_pos rfl]) <;> go_num⟩
          · have hj2 : j < k := by omega
            have h9 := HA.out j hj2
            exact ⟨by rw [if_neg (by omega), if_neg (by omega), if_neg (by omega), if_neg (by omega)]; exact h9.1, by rw [if_neg (by omega), if_neg (by omega), if_neg (by omega), if_neg (by omega)]; exact h9.2.1, by rw [if_neg (by omega), if_neg (by omega), if_neg (by omega), if_neg (by omega)]; exact h9.2.2.1, by rw [if_neg (by omega), if_neg (by omega), if_neg (by omega), if_neg (by omega)]; exact h9.2.2.2⟩, ((((HB.out.setCell (p := ⟨g, k * 4, none⟩) hg _).setCell (p := ⟨g, k * 4 + 1, none⟩) hg _).setCell (p := ⟨g, k * 4 + 2, none⟩) hg _).setCell (p := ⟨g, k * 4 + 3, none⟩) hg _)⟩
        case measure => simp [intOf]; omega
      · obtain rfl : k = l.length := by omega
        clear hf
        go_wp2_with fail
        go_ret
        exact ⟨rfl, fun _ => ⟨g, N, f, rfl, hg, by rw [markLTsk_len]; omega, HF.out, fun i hi j v hj hv => by
          rw [markLTsk_len] at hi
          rw [markLTsk_nth hi] at hv
          have h9 := HA.out i hi
          match j, hj, hv with
          | 0, _, hv => simp only [Tsk.cells, List.getElem?_cons_zero, List.getElem?_cons_succ, Option.some.injEq] at hv; rw [← hv]; exact h9.1
          | 1, _, hv => simp only [Tsk.cells, List.getElem?_cons_zero, List.getElem?_cons_succ, Option.some.injEq] at hv; rw [← hv]; exact h9.2.1
          | 2, _, hv => simp only [Tsk.cells, List.getElem?_cons_zero, List.getElem?_cons_succ, Option.some.injEq] at hv; rw [← hv]; exact h9.2.2.1
          | 3, _, hv => simp only [Tsk.cells, List.getElem?_cons_zero, List.getElem?_cons_succ, Option.some.injEq] at hv; rw [← hv]; exact h9.2.2.2⟩, HB.out⟩
theorem heldTaskS_c (n : Nat) (A : Option Addr) (cap : Nat) (m : Int) (w : World) (hl : n ≤ 1048576) (h0 : 0 ≤ m) (h1 : m ≤ 100000000) (hr : Rd w w.heap.size 4 Tsk.cells A (markLTsk m n)) :
    Calls Try.prog 41 #[.slice A n cap, .int .i64 m] w fun e w' => e = .returned (.int .i64 (m + 4 * n)) ∧ w = w' := by
  go_enter Try.func41, Try.ntmps41
  go_wp2_with fail
  go_loop [1, 5] (fun s i => ∃ k : Nat, k ≤ n ∧ i = .int .i64 k ∧ s = .int .i64 (m + 4 * k)) (fun _ i => n - (intOf i).toNat)
  case atStart => exact ⟨0, Nat.zero_le _, rfl, by simp⟩
  case round =>
    obtain ⟨k, hk, rfl, rfl⟩ := hrel
    by_cases hlt : k < n
    · obtain ⟨b, off, rfl, hb, hcs⟩ := Tsk.rd hr (show k < (markLTsk m n).length by rw [markLTsk_len]; exact hlt)
      rw [markLTsk_nth hlt] at hcs
      go_wp2_with fail
      go_round
      case rel => exact ⟨k + 1, by omega, by go_num, by go_num⟩
      case measure => simp [intOf]; omega
    · obtain rfl : k = n := by omega
      go_wp2_with fail
      go_ret
      exact ⟨rfl, rfl⟩
end Go.Proofs.Ytokddcnkfeimkaa
