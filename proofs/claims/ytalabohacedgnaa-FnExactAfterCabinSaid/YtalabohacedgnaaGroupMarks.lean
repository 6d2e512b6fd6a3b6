/- A list of groups that a call handed back is marked, and looked at again; a list that the law itself made is marked; no conditions beyond the length. -/
import Derived.Test.YtalabohacedgnaaQueue
import Derived.Test.YtalabohacedgnaaOwn
namespace Go.Proofs.Ytalabohacedgnaa
open Go.RowKit
theorem markGroupS_c (l : List Gro) (g cap : Nat) (m : Int) (w : World) (hl : l.length ≤ 1048576) (h0 : 0 ≤ m) (h1 : m ≤ 1000) (hr : Row w g 52 2 Gro.cells l) :
    Calls Try.prog 23 #[.slice (some ⟨g, 0, none⟩) l.length cap, .int .i64 m] w fun e w' => e = .returned (.int .i64 (m + l.length * 2)) ∧ w.grownBy w' (some g) := by
  obtain ⟨f0, hf0, _⟩ := hr
  have HF0 := Lib.hid hf0
  clear hf0
  go_enter Try.func23, Try.ntmps23
  go_wp2_with fail
  go_loopw [1, 5] (fun s i wr => ∃ k : Nat, k ≤ l.length ∧ i = .int .i64 k ∧ s = .int .i64 (m + k * 2) ∧ Mk w wr g 52 (l.length * 2)) (fun _ i _ => l.length - (intOf i).toNat)
  case atStart => exact ⟨0, Nat.zero_le _, rfl, by simp, ⟨_, HF0.out⟩, World.grownBy.refl _ _⟩
  case round =>
    obtain ⟨k, hk, rfl, rfl, hm⟩ := hrel
    have HM := Lib.hid hm
    by_cases hlt : k < l.length
    · obtain ⟨u0, hc0⟩ := hm.cell (s := k * 2) (by omega)
      obtain ⟨u1, hc1⟩ := hm.cell (s := k * 2 + 1) (by omega)
      have hz := hm.frozen
      have e1 : (k : Int) * 2 ≤ 2097152 := by omega
      clear hm
      go_wp2_with fail
      go_roundw
      case rel => exact ⟨k + 1, by omega, by go_num, by go_num, ((HM.out).set_).set_⟩
      case measure => simp [intOf]; omega
    · obtain rfl : k = l.length := by omega
      clear hm
      go_wp2_with fail
      go_ret
      exact ⟨rfl, HM.out.2⟩
def markLGro (m : Int) (n : Nat) : List Gro := (List.range n).map fun i : Nat => ⟨(m + 2 * (i : Int)), ((m + 2 * (i : Int) + 1) % 3 == 0)⟩
theorem markLGro_len (m : Int) (n : Nat) : (markLGro m n).length = n := by simp [markLGro]
theorem markLGro_nth {m : Int} {n i : Nat} (hi : i < n) : nth (markLGro m n) i = ⟨(m + 2 * (i : Int)), ((m + 2 * (i : Int) + 1) % 3 == 0)⟩ := by simp [nth, markLGro, hi]
set_option maxHeartbeats 800000 in
theorem markGroupS_o (l : List Gro) (A : Option Addr) (cap : Nat) (m : Int) (base : Nat) (w : World) (hl : l.length ≤ 1048576) (h0 : 0 ≤ m) (h1 : m ≤ 100000000) (ho : Own w base 52 2 Gro.cells A l) (hbs : base ≤ w.heap.size) :
    Calls Try.prog 23 #[.slice A l.length cap, .int .i64 m] w fun e w' => e = .returned (.int .i64 (m + 2 * l.length)) ∧ Own w' base 52 2 Gro.cells A (markLGro m l.length) ∧ Below base w w' := by
  by_cases hz : l.length = 0
  · rw [hz]
    go_enter Try.func23, Try.ntmps23
    go_wp2_with fail
    refine wp_loop_rounds 1 ?_
    rw [rounds_succ]
    go_wp2_with fail
    go_ret
    exact ⟨by simp, by rw [show markLGro m 0 = [] from rfl]; exact Own.nil, Below.refl _ _⟩
  · obtain ⟨g, N, f0, rfl, hg, hN, hf0, _⟩ := ho (by omega)
    have hglt := hf0.lt
    have HF0 := Lib.hid hf0
    clear hf0 ho
    go_enter Try.func23, Try.ntmps23
    go_wp2_with fail
    go_loopw [1, 5] (fun s i wr => ∃ (k : Nat) (f : Nat → Value), k ≤ l.length ∧ i = .int .i64 k ∧ s = .int .i64 (m + 2 * k) ∧ wr.rowIs g 52 N f ∧ (∀ j : Nat, j < k → f (j * 2) = .int .i64 (m + 2 * (j : Int)) ∧ f (j * 2 + 1) = .bool ((m + 2 * (j : Int) + 1) % 3 == 0)) ∧ Below base w wr) (fun _ i _ => l.length - (intOf i).toNat)
    case atStart => exact ⟨0, f0, Nat.zero_le _, rfl, by simp, HF0.out, fun j hj => absurd hj (by omega), Below.refl _ _⟩
    case round =>
      obtain ⟨k, f, hk, rfl, rfl, hf, hall, hbel⟩ := hrel
      have HA := Lib.hid hall
      have HB := Lib.hid hbel
      have HF := Lib.hid hf
      clear hall hbel
      by_cases hlt : k < l.length
      · have hc0 := hf.cell (show k * 2 < N by omega)
        have hz0 := hf.frozen (k * 2)
        have hc1 := hf.cell (show k * 2 + 1 < N by omega)
        have hz1 := hf.frozen (k * 2 + 1)
        clear hf
        go_wp2_with fail
        go_roundw
        case rel => exact ⟨k + 1, _, by omega, by go_num, by go_num, ((HF.out.set (k * 2) _).set (k * 2 + 1) _), fun j hj => by
          by_cases e : j = k
          · subst e
            exact ⟨by rw [if_neg (by omega), if_pos rfl], by rw [if_pos rfl]⟩
          · have hj2 : j < k := by omega
            have h9 := HA.out j hj2
            exact ⟨by rw [if_neg (by omega), if_neg (by omega)]; exact h9.1, by rw [if_neg (by omega), if_neg (by omega)]; exact h9.2⟩, ((HB.out.setCell (p := ⟨g, k * 2, none⟩) hg _).setCell (p := ⟨g, k * 2 + 1, none⟩) hg _)⟩
        case measure => simp [intOf]; omega
      · obtain rfl : k = l.length := by omega
        clear hf
        go_wp2_with fail
        go_ret
        exact ⟨rfl, fun _ => ⟨g, N, f, rfl, hg, by rw [markLGro_len]; omega, HF.out, fun i hi j v hj hv => by
          rw [markLGro_len] at hi
          rw [markLGro_nth hi] at hv
          have h9 := HA.out i hi
          match j, hj, hv with
          | 0, _, hv => simp only [Gro.cells, List.getElem?_cons_zero, List.getElem?_cons_succ, Option.some.injEq] at hv; rw [← hv]; exact h9.1
          | 1, _, hv => simp only [Gro.cells, List.getElem?_cons_zero, List.getElem?_cons_succ, Option.some.injEq] at hv; rw [← hv]; exact h9.2⟩, HB.out⟩
theorem heldGroupS_c (n : Nat) (A : Option Addr) (cap : Nat) (m : Int) (w : World) (hl : n ≤ 1048576) (h0 : 0 ≤ m) (h1 : m ≤ 100000000) (hr : Rd w w.heap.size 2 Gro.cells A (markLGro m n)) :
    Calls Try.prog 24 #[.slice A n cap, .int .i64 m] w fun e w' => e = .returned (.int .i64 (m + 2 * n)) ∧ w = w' := by
  go_enter Try.func24, Try.ntmps24
  go_wp2_with fail
  go_loop [1, 5] (fun s i => ∃ k : Nat, k ≤ n ∧ i = .int .i64 k ∧ s = .int .i64 (m + 2 * k)) (fun _ i => n - (intOf i).toNat)
  case atStart => exact ⟨0, Nat.zero_le _, rfl, by simp⟩
  case round =>
    obtain ⟨k, hk, rfl, rfl⟩ := hrel
    by_cases hlt : k < n
    · obtain ⟨b, off, rfl, hb, hcs⟩ := Gro.rd hr (show k < (markLGro m n).length by rw [markLGro_len]; exact hlt)
      rw [markLGro_nth hlt] at hcs
      go_wp2_with fail
      go_round
      case rel => exact ⟨k + 1, by omega, by go_num, by go_num⟩
      case measure => simp [intOf]; omega
    · obtain rfl : k = n := by omega
      go_wp2_with fail
      go_ret
      exact ⟨rfl, rfl⟩
end Go.Proofs.Ytalabohacedgnaa
