/- CabinsNeeded, CabinOf and EmptySeats of the program and of the reference return one Lean function each; no conditions but the length. -/
import Derived.Test.YtalabohacedgnaaCabSpec
import Derived.Test.YtalabohacedgnaaPeople
namespace Go.Proofs.Ytalabohacedgnaa
open Go.RowKit

theorem needL1Most_c (a b : Int) (w : World) : Calls Try.prog 81 #[.int .i64 a, .int .i64 b] w fun e w' => e = .returned (.int .i64 (max a b)) ∧ w = w' := by
  by_cases h : b < a
  all_goals
    go_enter Try.func81, Try.ntmps81
    go_wp2_with fail
    go_ret
    exact ⟨reti (by omega), rfl⟩
theorem retib {i j : Int} {b c : Bool} (h : i = j) (h2 : b = c) : Ending.returned (.tuple #[.int .i64 i, .bool b]) = .returned (.tuple #[.int .i64 j, .bool c]) := by rw [h, h2]
def needF (l : List Gro) (s : Int) : Int × Bool := if fitG l s then ((cabs l s).2, true) else (0, false)
def ofF (l : List Gro) (s j : Int) : Int × Bool := if fitG l s && inR j 0 (l.length - 1) then (nth (cabs l s).1 j.toNat, true) else (0, false)
def emptyF (l : List Gro) (s : Int) : Int × Bool := if fitG l s then ((cabs l s).2 * s - peopleTo l l.length, true) else (0, false)
/-- What is known of a queue that fits. -/
structure Fit (l : List Gro) (s : Int) : Prop where
  len : l.length ≤ 12
  sizes : ∀ i, i < l.length → 1 ≤ (nth l i).s ∧ (nth l i).s ≤ 8
  fit : ∀ i, i < l.length → (nth l i).s ≤ s
  s0 : 0 ≤ s
  s1 : s ≤ 10
theorem fit_of {l : List Gro} {s : Int} (h : fitG l s = true) : Fit l s := by
  obtain ⟨⟨h1, h2⟩, ⟨h3, h4⟩, h5⟩ := fitG_true h
  exact ⟨h1, h2, h5, by omega, h4⟩
theorem Fit.both {l : List Gro} {s : Int} (h : Fit l s) : ∀ i, i < l.length → 1 ≤ (nth l i).s ∧ (nth l i).s ≤ s := fun i hi => ⟨(h.sizes i hi).1, h.fit i hi⟩
theorem Fit.bd {l : List Gro} {s : Int} (h : Fit l s) : 0 ≤ (cabs l s).2 ∧ (cabs l s).2 ≤ 13 ∧ ∀ i, i < l.length → 0 ≤ nth (cabs l s).1 i ∧ nth (cabs l s).1 i ≤ 13 := by
  obtain ⟨⟨a, b, _⟩, e, _, d⟩ := cabs_spec h.s0 h.both
  have := h.len
  refine ⟨a, by omega, fun i hi => ?_⟩
  have := b i (by omega)
  omega
theorem l13Needed_c (l : List Gro) (A : Option Addr) (cap : Nat) (s : Int) (w : World) (hr : Rd w w.heap.size 2 Gro.cells A l) (hf : Fit l s) :
    Calls Try.prog 70 #[.slice A l.length cap, .int .i64 s] w fun e w' => e = .returned (.int .i64 (cabs l s).2) ∧ Below w.heap.size w w' := by
  have HF := Lib.hid hf
  have HM := Lib.hid (most_eq hf.s0 hf.both)
  have hlen := (cabs_spec hf.s0 hf.both).2.1
  have HBd := Lib.hid hf.bd
  have hl12 := hf.len
  clear hf
  go_enter Try.func70, Try.ntmps70
  go_wp2_with fail
  refine (l13Cabins_c l _ _ s _ hr HF.out.len HF.out.sizes HF.out.fit HF.out.s0 (Int.le_trans HF.out.s1 (by omega))).mono ?_
  rintro e w1 ⟨g, gc, rfl, hge, ha1, hb1⟩
  obtain ⟨o, ho⟩ : ∃ o, (cabs l s).1 = o := ⟨_, rfl⟩
  rw [ho] at HM hlen HBd ha1 ⊢
  have HA := Lib.hid ha1
  have HB := Lib.hid hb1
  clear ho hb1
  go_wp2_with fail
  go_loop [6, 7] (fun p i => ∃ k : Nat, k ≤ o.length ∧ i = .int .i64 k ∧ p = .int .i64 (mostTo o k)) (fun _ i => o.length - (intOf i).toNat)
  case atStart => exact ⟨0, Nat.zero_le _, rfl, rfl⟩
  case round =>
    obtain ⟨k, hk, rfl, rfl⟩ := hrel
    by_cases hlt : k < o.length
    · have hc := HA.out.cell hlt
      have hl := HA.out.lt
      have h1 := HBd.out.2.2 k (by omega)
      have H := Lib.hid (show mostTo o (k + 1) = max (mostTo o k) (nth o k + 1) from rfl)
      clear ha1
      go_wp2_with (go_at_call 81; refine (needL1Most_c _ _ _).mono ?_; rintro e w' ⟨rfl, rfl⟩)
      go_round
      case rel => exact ⟨k + 1, by omega, by go_num, by rw [H.out]⟩
      case measure => simp [intOf]; omega
    · obtain rfl : k = o.length := by omega
      clear ha1
      go_wp2_with fail
      go_ret
      exact ⟨reti (by rw [← hlen]; exact HM.out), HB.out⟩
theorem implCabinsNeeded_c (l : List Gro) (A : Option Addr) (cap : Nat) (s : Int) (w : World) (hl : l.length ≤ 1048576) (hr : Rd w w.heap.size 2 Gro.cells A l) :
    Calls Try.prog 37 #[.slice A l.length cap, .int .i64 s] w fun e w' => e = .returned (.tuple #[.int .i64 (needF l s).1, .bool (needF l s).2]) ∧ Below w.heap.size w w' := by
  rcases hg : fitG l s with _ | _
  · have H := Lib.hid (show needF l s = (0, false) by simp [needF, hg])
    go_enter Try.func37, Try.ntmps37
    go_wp2_with fail
    refine (fits_c l _ _ _ _ hl hr).mono ?_
    rintro e w1 ⟨rfl, hb1⟩
    go_wp2_with fail
    go_ret2
    exact ⟨retib (by rw [H.out]) (by rw [H.out]), hb1⟩
  have HF := Lib.hid (fit_of hg)
  have H := Lib.hid (show needF l s = ((cabs l s).2, true) by simp [needF, hg])
  go_enter Try.func37, Try.ntmps37
  go_wp2_with fail
  refine (fits_c l _ _ _ _ hl hr).mono ?_
  rintro e w1 ⟨rfl, hb1⟩
  have hr1 := hr.carry hb1
  have HB1 := Lib.hid hb1
  clear hb1
  go_wp2_with fail
  refine (cabins_c l _ _ s _ hr1 HF.out.len HF.out.sizes HF.out.fit HF.out.s0 (Int.le_trans HF.out.s1 (by omega))).mono ?_
  rintro e w2 ⟨g, gc, rfl, hge, ha2, hb2⟩
  have HB2 := Lib.hid (HB1.out.trans (hb2.mono HB1.out.size))
  clear hb2 ha2
  go_wp2_with fail
  go_ret2
  exact ⟨retib (by rw [H.out]) (by rw [H.out]), HB2.out⟩
theorem specCabinsNeeded_c (l : List Gro) (A : Option Addr) (cap : Nat) (s : Int) (w : World) (hl : l.length ≤ 1048576) (hr : Rd w w.heap.size 2 Gro.cells A l) :
    Calls Try.prog 36 #[.slice A l.length cap, .int .i64 s] w fun e w' => e = .returned (.tuple #[.int .i64 (needF l s).1, .bool (needF l s).2]) ∧ Below w.heap.size w w' := by
  rcases hg : fitG l s with _ | _
  · have H := Lib.hid (show needF l s = (0, false) by simp [needF, hg])
    go_enter Try.func36, Try.ntmps36
    go_wp2_with fail
    refine (l13Asked_c l _ _ _ _ hl hr).mono ?_
    rintro e w1 ⟨rfl, rfl⟩
    go_wp2_with fail
    go_ret2
    exact ⟨retib (by rw [H.out]) (by rw [H.out]), (by repeat (first | (with_reducible exact Below.refl _ _) | ((with_reducible refine alloc_ ?_ ?_); (focus (first | exact Nat.le_refl _ | (simp; done) | (simp; omega) | omega))) | ((with_reducible refine set_ ?_ ?_); (focus (first | exact Nat.le_refl _ | (simp; done) | (simp; omega) | omega))) | (with_reducible refine Below.drew ?_) | ((with_reducible refine after_ ?_ (by assumption) ?_); (rotate_left; (focus (first | exact Nat.le_refl _ | (simp; done) | (simp; omega) | omega))))))⟩
  have HF := Lib.hid (fit_of hg)
  have H := Lib.hid (show needF l s = ((cabs l s).2, true) by simp [needF, hg])
  go_enter Try.func36, Try.ntmps36
  go_wp2_with fail
  refine (l13Asked_c l _ _ _ _ hl hr).mono ?_
  rintro e w1 ⟨rfl, rfl⟩
  go_wp2_with fail
  refine (l13Needed_c l _ _ s _ hr HF.out).mono ?_
  rintro e w2 ⟨rfl, hb2⟩
  have HB2 := Lib.hid hb2
  clear hb2
  go_wp2_with fail
  go_ret2
  exact ⟨retib (by rw [H.out]) (by rw [H.out]), HB2.out⟩
end Go.Proofs.Ytalabohacedgnaa
