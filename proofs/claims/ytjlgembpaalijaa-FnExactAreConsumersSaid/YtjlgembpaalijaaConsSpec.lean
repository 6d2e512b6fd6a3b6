/- AreConsumers of the reference returns the same Lean function; no conditions but the sizes. -/
import Derived.Test.YtjlgembpaalijaaCons
namespace Go.Proofs.Ytjlgembpaalijaa
open Go.RowKit

theorem l18Watts'_c (n : Int) (w : World) : Calls Try.prog 51 #[.int .i64 n] w fun e w' => e = .returned (.bool (inR n 1 1000000)) ∧ w = w' := by
  go_enter Try.func51, Try.ntmps51
  go_wp2_with (go_at_call 33; refine (l1In_c _ _ _ _).mono ?_; rintro e w' ⟨rfl, rfl⟩)
  go_ret
  exact ⟨rfl, rfl⟩
theorem freshC_all {l : List Cons} {k : Nat} (h : ∀ j, j < k → ((nth l j).n.toList == (nth l k).n.toList) = false) : freshC l k = true := by
  unfold freshC; rw [anyTo_none h]; rfl
theorem freshC_no {l : List Cons} {k j : Nat} (hj : j < k) (h : ((nth l j).n.toList == (nth l k).n.toList) = true) : freshC l k = false := by
  unfold freshC; rw [anyTo_yes (p := fun k_1 => (nth l k_1).n.toList == (nth l k).n.toList) hj h]; rfl
theorem goodC_long {l : List Cons} (h : 8 < l.length) : goodC l = false := by
  have : ¬ l.length ≤ 8 := by omega
  simp [goodC, this]

theorem l18Good_c (l : List Cons) (A : Option Addr) (cap : Nat) (w : World) (hl : l.length ≤ 1048576) (hs : ∀ i, i < l.length → (nth l i).n.size ≤ maxLen) (hr : Rd w w.heap.size 3 Cons.cells A l) :
    Calls Try.prog 43 #[.slice A l.length cap] w fun e w' => e = .returned (.bool (goodC l)) ∧ Below w.heap.size w w' := by
  have HS := Lib.hid hs
  clear hs
  go_enter Try.func43, Try.ntmps43
  go_wp2_with fail
  go_loopw [3, 4] (fun i _ wr => ∃ k : Nat, k ≤ l.length ∧ k ≤ 9 ∧ i = .int .i64 k ∧ (∀ j, j < k → (okC (nth l j) && freshC l j) = true) ∧ Below w.heap.size w wr) (fun i _ _ => l.length - (intOf i).toNat)
  case atStart => exact ⟨0, Nat.zero_le _, by omega, rfl, fun j hj => absurd hj (by omega), Below.refl _ _⟩
  case round =>
    obtain ⟨k, hk, hk9, rfl, hall, hbel⟩ := hrel
    have HB := Lib.hid hbel
    have HA := Lib.hid hall
    clear hall
    by_cases hlt : k < l.length
    · by_cases h8 : k ≤ 8
      · obtain ⟨b, off, rfl, hb1, hc0, hc1, hc2⟩ := Cons.rd (hr.below hbel (Nat.le_refl _)) hlt
        have z1 := hbel.size
        clear hbel
        rcases h1 : isWordB (nth l k).n with _ | _
        · have H := Lib.hid (goodC_no hlt (by simp [okC, h1]))
          go_wp2_with (first | (go_at_call 52; refine (l2Word_c _ _ (HS.out k hlt)).mono ?_; rintro e w' ⟨rfl, rfl⟩))
          go_ret
          exact ⟨retb H.out.symm, (HB.out.trans (Below.mono (B := wr.heap.size) (by repeat (first | (with_reducible exact Below.refl _ _) | ((with_reducible refine alloc_ ?_ ?_); (focus (first | exact Nat.le_refl _ | (simp; done) | (simp; omega) | omega))) | ((with_reducible refine set_ ?_ ?_); (focus (first | exact Nat.le_refl _ | (simp; done) | (simp; omega) | omega))) | (with_reducible refine Below.drew ?_) | ((with_reducible refine after_ ?_ (by assumption) ?_); (rotate_left; (focus (first | exact Nat.le_refl _ | (simp; done) | (simp; omega) | omega)))))) z1))⟩
        rcases h2 : inR (nth l k).w 1 1000000 with _ | _
        · have H := Lib.hid (goodC_no hlt (by simp [okC, h2]))
          go_wp2_with (first | (go_at_call 52; refine (l2Word_c _ _ (HS.out k hlt)).mono ?_; rintro e w' ⟨rfl, rfl⟩) | (go_at_call 51; refine (l18Watts'_c _ _).mono ?_; rintro e w' ⟨rfl, rfl⟩))
          go_ret
          exact ⟨retb H.out.symm, (HB.out.trans (Below.mono (B := wr.heap.size) (by repeat (first | (with_reducible exact Below.refl _ _) | ((with_reducible refine alloc_ ?_ ?_); (focus (first | exact Nat.le_refl _ | (simp; done) | (simp; omega) | omega))) | ((with_reducible refine set_ ?_ ?_); (focus (first | exact Nat.le_refl _ | (simp; done) | (simp; omega) | omega))) | (with_reducible refine Below.drew ?_) | ((with_reducible refine after_ ?_ (by assumption) ?_); (rotate_left; (focus (first | exact Nat.le_refl _ | (simp; done) | (simp; omega) | omega)))))) z1))⟩
        rcases h3 : inR (nth l k).r 1 9 with _ | _
        · have H := Lib.hid (goodC_no hlt (by simp [okC, h3]))
          go_wp2_with (first | (go_at_call 52; refine (l2Word_c _ _ (HS.out k hlt)).mono ?_; rintro e w' ⟨rfl, rfl⟩) | (go_at_call 51; refine (l18Watts'_c _ _).mono ?_; rintro e w' ⟨rfl, rfl⟩) | (go_at_call 33; refine (l1In_c _ _ _ _).mono ?_; rintro e w' ⟨rfl, rfl⟩))
          go_ret
          exact ⟨retb H.out.symm, (HB.out.trans (Below.mono (B := wr.heap.size) (by repeat (first | (with_reducible exact Below.refl _ _) | ((with_reducible refine alloc_ ?_ ?_); (focus (first | exact Nat.le_refl _ | (simp; done) | (simp; omega) | omega))) | ((with_reducible refine set_ ?_ ?_); (focus (first | exact Nat.le_refl _ | (simp; done) | (simp; omega) | omega))) | (with_reducible refine Below.drew ?_) | ((with_reducible refine after_ ?_ (by assumption) ?_); (rotate_left; (focus (first | exact Nat.le_refl _ | (simp; done) | (simp; omega) | omega)))))) z1))⟩
        go_wp2_with (first | (go_at_call 52; refine (l2Word_c _ _ (HS.out k hlt)).mono ?_; rintro e w' ⟨rfl, rfl⟩) | (go_at_call 51; refine (l18Watts'_c _ _).mono ?_; rintro e w' ⟨rfl, rfl⟩) | (go_at_call 33; refine (l1In_c _ _ _ _).mono ?_; rintro e w' ⟨rfl, rfl⟩))
        clear hc0 hc1 hc2
        go_loopw [4] (fun i wi => ∃ j : Nat, j ≤ k ∧ i = .int .i64 j ∧ (∀ m, m < j → ((nth l m).n.toList == (nth l k).n.toList) = false) ∧ Below w.heap.size w wi) (fun i _ => k - (intOf i).toNat)
        case atStart => exact ⟨0, Nat.zero_le _, rfl, fun j hj => absurd hj (by omega), HB.out⟩
        case round =>
          obtain ⟨j, hj, rfl, hall2, hbel2⟩ := hrel
          have HB2 := Lib.hid hbel2
          have HA2 := Lib.hid hall2
          clear hall2
          by_cases hjt : j < k
          · obtain ⟨b', off', he, hb2, hd0, _, _⟩ := Cons.rd (hr.below hbel2 (Nat.le_refl _)) (show j < l.length by omega)
            obtain ⟨b'', off'', he', hb3, he0, _, _⟩ := Cons.rd (hr.below hbel2 (Nat.le_refl _)) hlt
            simp only [Option.some.injEq, Addr.mk.injEq, and_true] at he he'
            obtain ⟨rfl, rfl⟩ := he
            obtain ⟨rfl, rfl⟩ := he'
            have z2 := hbel2.size
            have l1 : b < wr.heap.size := by omega
            have i1 : (0 : Int) ≤ (j : Int) := by omega
            have i2 : (j : Int) < l.length := by omega
            have i3 : (0 : Int) ≤ (k : Int) := by omega
            have i4 : (k : Int) < l.length := by omega
            clear hbel2
            rcases h4 : ((nth l j).n.toList == (nth l k).n.toList) with _ | _
            · go_wp2_with fail
              refine wp_region_mem (by kernel_rfl) (by kernel_rfl) ?_
              repeat (go_big_quiet_step (fail))
              refine wpQuiet_nil ?_
              intro _ hw'
              obtain ⟨⟨wq, hbq⟩, hw''⟩ := hw'
              obtain rfl := hw''.symm
              obtain ⟨hcq, hfq, hzq⟩ := bcell hbq
              try simp [Nat.add_one_le_iff] at hzq
              go_wp2_with fail
              go_roundw
              case rel => exact ⟨j + 1, by omega, by go_num, below_add HA2.out h4, HB2.out.trans (hbq.mono z2)⟩
              case measure => simp [intOf]; omega
            · have H := Lib.hid (goodC_no hlt (by simp [freshC_no hjt h4]))
              go_wp2_with fail
              refine wp_region_mem (by kernel_rfl) (by kernel_rfl) ?_
              repeat (go_big_quiet_step (fail))
              refine wpQuiet_nil ?_
              intro _ hw'
              obtain ⟨⟨wq, hbq⟩, hw''⟩ := hw'
              obtain rfl := hw''.symm
              obtain ⟨hcq, hfq, hzq⟩ := bcell hbq
              try simp [Nat.add_one_le_iff] at hzq
              go_wp2_with fail
              go_ret
              exact ⟨retb H.out.symm, HB2.out.trans (hbq.mono z2)⟩
          · obtain rfl : j = k := by omega
            clear hbel2
            have H := Lib.hid (show (okC (nth l j) && freshC l j) = true by simp [okC, h1, h2, h3, freshC_all HA2.out])
            go_wp2_with fail
            go_roundw
            case rel => exact ⟨j + 1, by omega, by omega, by go_num, below_add HA.out H.out, HB2.out⟩
            case measure => simp [intOf]; omega
      · have H := Lib.hid (goodC_long (l := l) (by omega))
        clear hbel
        go_wp2_with fail
        go_ret
        exact ⟨retb (by rw [H.out]; simp; omega), HB.out⟩
    · obtain rfl : k = l.length := by omega
      clear hbel
      have H := Lib.hid (goodC_all HA.out)
      go_wp2_with fail
      go_ret
      exact ⟨retb (by rw [H.out]; simp; omega), HB.out⟩
end Go.Proofs.Ytjlgembpaalijaa
