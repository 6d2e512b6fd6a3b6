/- SideWind of the reference returns the same Lean function; no conditions. -/
import Derived.Test.YtdhcmmdeickmnaaDoorSideImpl
namespace Go.Proofs.YtdhcmmdeickmnaaDoor
open Go.RowKit

set_option maxHeartbeats 4000000 in
theorem specSideWind_c (x : Wea) (p : Int) (w : World) :
    Calls Tryd.prog 4 #[.agg #[.int .i64 x.m, .int .i64 x.wi, .int .i64 x.f, .int .i64 x.d, .bool x.s], .int .i64 p] w fun e w' => e = .returned (.tuple #[.int .i64 (sideW x p).1, .bool (sideW x p).2]) ∧ Below w.heap.size w w' := by
  rcases h1 : okW x with _ | _
  · have H := Lib.hid (show sideW x p = (0, false) by simp [sideW, h1])
    go_enter Tryd.func4, Tryd.ntmps4
    go_wp2_with (first | (go_at_call 7; refine (l17One_c _ _).mono ?_; rintro e w1 ⟨rfl, hb1⟩; obtain ⟨hc1, hf1, hz1⟩ := bcell hb1; try simp [Nat.add_one_le_iff] at hz1))
    go_ret2
    exact ⟨retp H.out, (by repeat (first | (with_reducible exact Below.refl _ _) | ((with_reducible refine alloc_ ?_ ?_); (focus (first | exact Nat.le_refl _ | (simp; done) | (simp; omega) | omega))) | ((with_reducible refine set_ ?_ ?_); (focus (first | exact Nat.le_refl _ | (simp; done) | (simp; omega) | omega))) | (with_reducible refine Below.drew ?_) | ((with_reducible refine after_ ?_ (by assumption) ?_); (rotate_left; (focus (first | exact Nat.le_refl _ | (simp; done) | (simp; omega) | omega))))))⟩
  rcases h2 : inR p 0 359 with _ | _
  · have H := Lib.hid (show sideW x p = (0, false) by simp [sideW, h2])
    go_enter Tryd.func4, Tryd.ntmps4
    go_wp2_with (first | (go_at_call 7; refine (l17One_c _ _).mono ?_; rintro e w1 ⟨rfl, hb1⟩; obtain ⟨hc1, hf1, hz1⟩ := bcell hb1; try simp [Nat.add_one_le_iff] at hz1) | (go_at_call 8; refine (l17Way_c _ _).mono ?_; rintro e w' ⟨rfl, rfl⟩))
    go_ret2
    exact ⟨retp H.out, (by repeat (first | (with_reducible exact Below.refl _ _) | ((with_reducible refine alloc_ ?_ ?_); (focus (first | exact Nat.le_refl _ | (simp; done) | (simp; omega) | omega))) | ((with_reducible refine set_ ?_ ?_); (focus (first | exact Nat.le_refl _ | (simp; done) | (simp; omega) | omega))) | (with_reducible refine Below.drew ?_) | ((with_reducible refine after_ ?_ (by assumption) ?_); (rotate_left; (focus (first | exact Nat.le_refl _ | (simp; done) | (simp; omega) | omega))))))⟩
  obtain ⟨⟨q1, q2⟩, hf⟩ := okW_bd h1
  have hp := inR_true.1 h2
  obtain ⟨a1, a2⟩ := ang_in hf hp
  obtain ⟨b1, b2⟩ := far_in hf hp
  obtain ⟨q, hq⟩ : ∃ q : Nat, angS x.f p / 30 = q := ⟨(angS x.f p / 30).toNat, by omega⟩
  obtain ⟨fa, hfa⟩ : ∃ fa, far x.f p = fa := ⟨_, rfl⟩
  obtain ⟨an, han⟩ : ∃ an, angS x.f p = an := ⟨_, rfl⟩
  have HA := Lib.hid (show min fa (min (360 - fa) (180 - min fa (360 - fa))) = an by rw [← han, ← hfa]; unfold angS; omega)
  have HA2 := Lib.hid (show min (min fa (360 - fa)) (180 - min fa (360 - fa)) = an by rw [← han, ← hfa]; rfl)
  have HD := Lib.hid (show max (x.f - p) (p - x.f) = fa from hfa)
  have H := Lib.hid (show sideW x p = (x.wi * nth sinesL q / 1000, true) by simp [sideW, h1, h2, hq])
  rw [hfa] at b1 b2
  rw [han] at hq a1 a2
  clear hfa han
  have hq4 : q < 4 := by omega
  go_enter Tryd.func4, Tryd.ntmps4
  go_wp2_with (first | (go_at_call 7; refine (l17One_c _ _).mono ?_; rintro e w1 ⟨rfl, hb1⟩; obtain ⟨hc1, hf1, hz1⟩ := bcell hb1; try simp [Nat.add_one_le_iff] at hz1) | (go_at_call 8; refine (l17Way_c _ _).mono ?_; rintro e w' ⟨rfl, rfl⟩) | ((go_at_call 9); refine (l1Most_c _ _ _).mono ?_; rintro e w' ⟨rfl, rfl⟩; rw [HD.out]) | (go_at_call 10; refine (l1Least_c _ _ _).mono ?_; rintro e w' ⟨rfl, rfl⟩))
  first | rw [HA.out] | rw [HA2.out]
  have c0 : w1.cell? ⟨w.heap.size, 1, none⟩ = some (.int .i64 x.wi) := (hb1.cell (p := ⟨w.heap.size, 1, none⟩) (by simp)).trans (by simp [go_sem])
  have hB : Below w.heap.size w w1 := (by repeat (first | (with_reducible exact Below.refl _ _) | ((with_reducible refine alloc_ ?_ ?_); (focus (first | exact Nat.le_refl _ | (simp; done) | (simp; omega) | omega))) | ((with_reducible refine set_ ?_ ?_); (focus (first | exact Nat.le_refl _ | (simp; done) | (simp; omega) | omega))) | (with_reducible refine Below.drew ?_) | ((with_reducible refine after_ ?_ (by assumption) ?_); (rotate_left; (focus (first | exact Nat.le_refl _ | (simp; done) | (simp; omega) | omega))))))
  have HB := Lib.hid hB
  clear hb1 hc1 hf1 hB
  have hcase : q = 0 ∨ q = 1 ∨ q = 2 ∨ q = 3 := by omega
  rcases hcase with rfl | rfl | rfl | rfl
  · have ht : an.tdiv 30 = 0 := by rw [Int.tdiv_eq_ediv_of_nonneg a1]; exact hq
    have m1 : 0 ≤ x.wi * 0 := by omega
    have m2 : x.wi * 0 ≤ 600000 := by omega
    have HN := Lib.hid (show x.wi * 0 / 1000 = IntKind.i64.wrap ((IntKind.i64.wrap (0)).tdiv 1000) from by first | exact (sd _ m1 m2).symm | (rw [Int.mul_zero]; decide))
    have hw : IntKind.i64.wrap 0 = 0 := rfl
    clear hq
    go_region_with (fail)
    all_goals go_wp2_with fail
    all_goals go_ret2
    all_goals exact ⟨retp (H.out.trans (Prod.ext HN.out rfl)), by first | exact (alloc_ HB.out.size HB.out).drew | exact alloc_ HB.out.size HB.out | exact alloc_ HB.out.size HB.out.drew⟩
  · have ht : an.tdiv 30 = 1 := by rw [Int.tdiv_eq_ediv_of_nonneg a1]; exact hq
    have m1 : 0 ≤ x.wi * 500 := by omega
    have m2 : x.wi * 500 ≤ 600000 := by omega
    have HN := Lib.hid (show x.wi * 500 / 1000 = IntKind.i64.wrap ((IntKind.i64.wrap (x.wi * 500)).tdiv 1000) from by first | exact (sd _ m1 m2).symm | (rw [Int.mul_zero]; decide))
    have hw : IntKind.i64.wrap 1 = 1 := rfl
    clear hq
    go_region_with (fail)
    all_goals go_wp2_with fail
    all_goals go_ret2
    all_goals exact ⟨retp (H.out.trans (Prod.ext HN.out rfl)), by first | exact (alloc_ HB.out.size HB.out).drew | exact alloc_ HB.out.size HB.out | exact alloc_ HB.out.size HB.out.drew⟩
  · have ht : an.tdiv 30 = 2 := by rw [Int.tdiv_eq_ediv_of_nonneg a1]; exact hq
    have m1 : 0 ≤ x.wi * 866 := by omega
    have m2 : x.wi * 866 ≤ 600000 := by omega
    have HN := Lib.hid (show x.wi * 866 / 1000 = IntKind.i64.wrap ((IntKind.i64.wrap (x.wi * 866)).tdiv 1000) from by first | exact (sd _ m1 m2).symm | (rw [Int.mul_zero]; decide))
    have hw : IntKind.i64.wrap 2 = 2 := rfl
    clear hq
    go_region_with (fail)
    all_goals go_wp2_with fail
    all_goals go_ret2
    all_goals exact ⟨retp (H.out.trans (Prod.ext HN.out rfl)), by first | exact (alloc_ HB.out.size HB.out).drew | exact alloc_ HB.out.size HB.out | exact alloc_ HB.out.size HB.out.drew⟩
  · have ht : an.tdiv 30 = 3 := by rw [Int.tdiv_eq_ediv_of_nonneg a1]; exact hq
    have m1 : 0 ≤ x.wi * 1000 := by omega
    have m2 : x.wi * 1000 ≤ 600000 := by omega
    have HN := Lib.hid (show x.wi * 1000 / 1000 = IntKind.i64.wrap ((IntKind.i64.wrap (x.wi * 1000)).tdiv 1000) from by first | exact (sd _ m1 m2).symm | (rw [Int.mul_zero]; decide))
    have hw : IntKind.i64.wrap 3 = 3 := rfl
    clear hq
    go_region_with (fail)
    all_goals go_wp2_with fail
    all_goals go_ret2
    all_goals exact ⟨retp (H.out.trans (Prod.ext HN.out rfl)), by first | exact (alloc_ HB.out.size HB.out).drew | exact alloc_ HB.out.size HB.out | exact alloc_ HB.out.size HB.out.drew⟩
end Go.Proofs.YtdhcmmdeickmnaaDoor
