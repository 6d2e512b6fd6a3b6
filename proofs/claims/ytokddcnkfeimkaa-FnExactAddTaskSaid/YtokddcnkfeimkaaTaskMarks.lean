/- A list of tasks that the law itself made is marked; no conditions beyond the length. -/
import Derived.Test.YtokddcnkfeimkaaTasks
import Derived.Test.YtokddcnkfeimkaaMarks
namespace Go.Proofs.Ytokddcnkfeimkaa
open Go.RowKit
theorem markTaskS_c (l : List Tsk) (g cap : Nat) (m : Int) (w : World) (hl : l.length ≤ 1048576) (h0 : 0 ≤ m) (h1 : m ≤ 1000) (hr : Row w g 50 4 Tsk.cells l) :
    Calls Try.prog 33 #[.slice (some ⟨g, 0, none⟩) l.length cap, .int .i64 m] w fun e w' => e = .returned (.int .i64 (m + l.length * 4)) ∧ w.grownBy w' (some g) := by
  obtain ⟨f0, hf0, _⟩ := hr
  have HF0 := Lib.hid hf0
  clear hf0
  go_enter Try.func33, Try.ntmps33
  go_wp2_with fail
  go_loopw [1, 5] (fun s i wr => ∃ k : Nat, k ≤ l.length ∧ i = .int .i64 k ∧ s = .int .i64 (m + k * 4) ∧ Mk w wr g 50 (l.length * 4)) (fun _ i _ => l.length - (intOf i).toNat)
  case atStart => exact ⟨0, Nat.zero_le _, rfl, by simp, ⟨_, HF0.out⟩, World.grownBy.refl _ _⟩
  case round =>
    obtain ⟨k, hk, rfl, rfl, hm⟩ := hrel
    have HM := Lib.hid hm
    by_cases hlt : k < l.length
    · obtain ⟨u0, hc0⟩ := hm.cell (s := k * 4) (by omega)
      obtain ⟨u1, hc1⟩ := hm.cell (s := k * 4 + 1) (by omega)
      obtain ⟨u2, hc2⟩ := hm.cell (s := k * 4 + 2) (by omega)
      obtain ⟨u3, hc3⟩ := hm.cell (s := k * 4 + 3) (by omega)
      have hz := hm.frozen
      have e1 : (k : Int) * 4 ≤ 4194304 := by omega
      clear hm
      go_wp2_with fail
      go_roundw
      case rel => exact ⟨k + 1, by omega, by go_num, by go_num, ((((HM.out).set_).set_).set_).set_⟩
      case measure => simp [intOf]; omega
    · obtain rfl : k = l.length := by omega
      clear hm
      go_wp2_with fail
      go_ret
      exact ⟨rfl, HM.out.2⟩
end Go.Proofs.Ytokddcnkfeimkaa
