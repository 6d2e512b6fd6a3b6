/- The program's and the reference's tests on words return one Lean function; no conditions. -/
import Derived.Test.YtjlgembpaalijaaRange
import Derived.Test.YtjlgembpaalijaaSlice
import Derived.Outline
namespace Go.Proofs.Ytjlgembpaalijaa
open Go.RowKit

/-- The byte at an index. -/
def bt (s : ByteArray) (i : Nat) : Int := if h : i < s.size then (s[i].toNat : Int) else 0
def isWordB (s : ByteArray) : Bool := allTo s.size (fun i => inR (bt s i) 97 122) && inR s.size 1 10
theorem isWordB_no {s : ByteArray} {k : Nat} (hk : k < s.size) (h : inR (bt s k) 97 122 = false) : isWordB s = false := by
  have := allTo_no (p := fun i => inR (bt s i) 97 122) hk h
  simp [isWordB, this]
theorem isWordB_all {s : ByteArray} (h : ∀ i, i < s.size → inR (bt s i) 97 122 = true) : isWordB s = inR s.size 1 10 := by
  simp [isWordB, allTo_true.2 h]

theorem isWord_c (s : ByteArray) (w : World) (hs : s.size ≤ maxLen) : Calls Try.prog 45 #[.string s] w fun e w' => e = .returned (.bool (isWordB s)) ∧ w = w' := by
  unfold maxLen at hs
  go_enter Try.func45, Try.ntmps45
  go_wp2_with fail
  go_loop [3, 6] (fun _ i => ∃ k : Nat, k ≤ s.size ∧ i = .int .i64 k ∧ ∀ j, j < k → inR (bt s j) 97 122 = true) (fun _ i => s.size - (intOf i).toNat)
  case atStart => exact ⟨0, Nat.zero_le _, rfl, fun j hj => absurd hj (by omega)⟩
  case round =>
    obtain ⟨k, hk, rfl, hall⟩ := hrel
    have HA := Lib.hid hall
    clear hall
    by_cases hlt : k < s.size
    · have hb := Lib.hid (show bt s k = (s[k].toNat : Int) by simp [bt, hlt])
      rcases hin : inR (bt s k) 97 122 with _ | _
      · have H := Lib.hid (isWordB_no hlt hin)
        rw [hb.out] at hin
        rcases inR_false.1 hin with h | h
        · go_wp2_with fail
          go_ret
          exact ⟨retb H.out.symm, rfl⟩
        · have h' : ¬ ((s[k].toNat : Int) < 97) := by omega
          go_wp2_with fail
          go_ret
          exact ⟨retb H.out.symm, rfl⟩
      · have Hin := Lib.hid hin
        rw [hb.out] at hin
        obtain ⟨h1, h2⟩ := inR_true.1 hin
        clear hin
        go_wp2_with fail
        go_round
        case rel => exact ⟨k + 1, by omega, by go_num, fun j hj => by rcases Nat.lt_succ_iff_lt_or_eq.1 hj with h | h; exact HA.out j h; subst h; exact Hin.out⟩
        case measure => simp [intOf]; omega
    · obtain rfl : k = s.size := by omega
      have H := Lib.hid (isWordB_all HA.out)
      go_wp2_with (first | (go_at_call 32; refine (within_c _ _ _ _).mono ?_; rintro e w' ⟨rfl, rfl⟩) | (go_at_call 33; refine (l1In_c _ _ _ _).mono ?_; rintro e w' ⟨rfl, rfl⟩))
      all_goals (go_ret; exact ⟨retb (by rw [H.out]; try (first | rfl | (simp [inR]; omega))), rfl⟩)
theorem l2Word_c (s : ByteArray) (w : World) (hs : s.size ≤ maxLen) : Calls Try.prog 52 #[.string s] w fun e w' => e = .returned (.bool (isWordB s)) ∧ w = w' := by
  unfold maxLen at hs
  go_enter Try.func52, Try.ntmps52
  go_wp2_with fail
  go_loop [3] (fun  i => ∃ k : Nat, k ≤ s.size ∧ i = .int .i64 k ∧ ∀ j, j < k → inR (bt s j) 97 122 = true) (fun  i => s.size - (intOf i).toNat)
  case atStart => exact ⟨0, Nat.zero_le _, rfl, fun j hj => absurd hj (by omega)⟩
  case round =>
    obtain ⟨k, hk, rfl, hall⟩ := hrel
    have HA := Lib.hid hall
    clear hall
    by_cases hlt : k < s.size
    · have hb := Lib.hid (show bt s k = (s[k].toNat : Int) by simp [bt, hlt])
      rcases hin : inR (bt s k) 97 122 with _ | _
      · have H := Lib.hid (isWordB_no hlt hin)
        rw [hb.out] at hin
        rcases inR_false.1 hin with h | h
        · go_wp2_with fail
          go_ret
          exact ⟨retb H.out.symm, rfl⟩
        · have h' : ¬ ((s[k].toNat : Int) < 97) := by omega
          go_wp2_with fail
          go_ret
          exact ⟨retb H.out.symm, rfl⟩
      · have Hin := Lib.hid hin
        rw [hb.out] at hin
        obtain ⟨h1, h2⟩ := inR_true.1 hin
        clear hin
        go_wp2_with fail
        go_round
        case rel => exact ⟨k + 1, by omega, by go_num, fun j hj => by rcases Nat.lt_succ_iff_lt_or_eq.1 hj with h | h; exact HA.out j h; subst h; exact Hin.out⟩
        case measure => simp [intOf]; omega
    · obtain rfl : k = s.size := by omega
      have H := Lib.hid (isWordB_all HA.out)
      go_wp2_with (first | (go_at_call 32; refine (within_c _ _ _ _).mono ?_; rintro e w' ⟨rfl, rfl⟩) | (go_at_call 33; refine (l1In_c _ _ _ _).mono ?_; rintro e w' ⟨rfl, rfl⟩))
      all_goals (go_ret; exact ⟨retb (by rw [H.out]; try (first | rfl | (simp [inR]; omega))), rfl⟩)
end Go.Proofs.Ytjlgembpaalijaa
