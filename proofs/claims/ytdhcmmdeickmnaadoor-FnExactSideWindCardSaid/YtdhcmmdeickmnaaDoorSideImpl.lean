/- SideWind of the program returns one Lean function; no conditions but that the four sines lie where the program's text lays them. -/
import Derived.Test.YtdhcmmdeickmnaaDoorSide
import Derived.Deep.RegionWith
import Derived.IntWalk
namespace Go.Proofs.YtdhcmmdeickmnaaDoor
open Go.RowKit

/-- the last statement's numbers. -/
theorem sd (n : Int) (h : 0 ≤ n) (h2 : n ≤ 600000) : IntKind.i64.wrap ((IntKind.i64.wrap n).tdiv 1000) = n / 1000 := by
  have e : IntKind.i64.wrap n = n := IntWalk.i64_in _ (by omega)
  rw [e, Int.tdiv_eq_ediv_of_nonneg h]
  exact IntWalk.i64_in _ (by omega)
set_option maxHeartbeats 4000000 in
theorem implSideWind_c (x : Wea) (p : Int) (w : World) (hk : Rd w w.heap.size 1 intCells (some ⟨0, 0, none⟩) sinesL) :
    Calls Tryd.prog 6 #[.agg #[.int .i64 x.m, .int .i64 x.wi, .int .i64 x.f, .int .i64 x.d, .bool x.s], .int .i64 p] w fun e w' => e = .returned (.tuple #[.int .i64 (sideW x p).1, .bool (sideW x p).2]) ∧ Below w.heap.size w w' := by
  have HK := Lib.hid hk
  clear hk
  rcases h1 : okW x with _ | _
  · have H := Lib.hid (show sideW x p = (0, false) by simp [sideW, h1])
    go_enter Tryd.func6, Tryd.ntmps6
    go_wp2_with (first | (go_at_call 11; refine (IsWeather_c _ _).mono ?_; rintro e w1 ⟨rfl, hb1⟩; obtain ⟨hc1, hf1, hz1⟩ := bcell hb1; try simp [Nat.add_one_le_iff] at hz1))
    go_ret2
    exact ⟨retp H.out, (by repeat (first | (with_reducible exact Below.refl _ _) | ((with_reducible refine alloc_ ?_ ?_); (focus (first | exact Nat.le_refl _ | (simp; done) | (simp; omega) | omega))) | ((with_reducible refine set_ ?_ ?_); (focus (first | exact Nat.le_refl _ | (simp; done) | (simp; omega) | omega))) | (with_reducible refine Below.drew ?_) | ((with_reducible refine after_ ?_ (by assumption) ?_); (rotate_left; (focus (first | exact Nat.le_refl _ | (simp; done) | (simp; omega) | omega))))))⟩
  rcases h2 : inR p 0 359 with _ | _
  · have H := Lib.hid (show sideW x p = (0, false) by simp [sideW, h2])
    go_enter Tryd.func6, Tryd.ntmps6
    go_wp2_with (first | (go_at_call 11; refine (IsWeather_c _ _).mono ?_; rintro e w1 ⟨rfl, hb1⟩; obtain ⟨hc1, hf1, hz1⟩ := bcell hb1; try simp [Nat.add_one_le_iff] at hz1) | (go_at_call 12; refine (within_c _ _ _ _).mono ?_; rintro e w' ⟨rfl, rfl⟩))
    go_ret2
    exact ⟨retp H.out, (by repeat (first | (with_reducible exact Below.refl _ _) | ((with_reducible refine alloc_ ?_ ?_); (focus (first | exact Nat.le_refl _ | (simp; done) | (simp; omega) | omega))) | ((with_reducible refine set_ ?_ ?_); (focus (first | exact Nat.le_refl _ | (simp; done) | (simp; omega) | omega))) | (with_reducible refine Below.drew ?_) | ((with_reducible refine after_ ?_ (by assumption) ?_); (rotate_left; (focus (first | exact Nat.le_refl _ | (simp; done) | (simp; omega) | omega))))))⟩
  obtain ⟨⟨q1, q2⟩, hf⟩ := okW_bd h1
  have hp := inR_true.1 h2
  obtain ⟨a1, a2⟩ := ang_in hf hp
  obtain ⟨b1, b2⟩ := far_in hf hp
  obtain ⟨q, hq⟩ : ∃ q : Nat, angS x.f p / 30 = q := ⟨(angS x.f p / 30).toNat, by omega⟩
  obtain ⟨fa, hfa⟩ : ∃ fa, far x.f p = fa := ⟨_, rfl⟩
  obtain ⟨an, han⟩ : ∃ an, angS x.f p = an := ⟨_, rfl⟩
  have HA := Lib.hid (show min fa (min (360 - fa) (180 - min fa (360 - fa))) = an by rw [← han, ← hfa]; unfold angS; omega)
  have HD := Lib.hid (fun W => by have := distance_c x.f p W hf hp; rw [hfa] at this; exact this)
  have H := Lib.hid (show sideW x p = (x.wi * nth sinesL q / 1000, true) by simp [sideW, h1, h2, hq])
  rw [hfa] at b1 b2
  rw [han] at hq a1 a2
  clear hfa han
  have hq4 : q < 4 := by omega
  go_enter Tryd.func6, Tryd.ntmps6
  go_wp2_with (first | (go_at_call 11; refine (IsWeather_c _ _).mono ?_; rintro e w1 ⟨rfl, hb1⟩; obtain ⟨hc1, hf1, hz1⟩ := bcell hb1; try simp [Nat.add_one_le_iff] at hz1) | (go_at_call 12; refine (within_c _ _ _ _).mono ?_; rintro e w' ⟨rfl, rfl⟩) | (go_at_call 13; refine (HD.out _).mono ?_; rintro e w' ⟨rfl, rfl⟩))
  rw [HA.out]
  have c0 : w1.cell? ⟨w.heap.size, 1, none⟩ = some (.int .i64 x.wi) := (hb1.cell (p := ⟨w.heap.size, 1, none⟩) (by simp)).trans (by simp [go_sem])
  have hB : Below w.heap.size w w1 := (by repeat (first | (with_reducible exact Below.refl _ _) | ((with_reducible refine alloc_ ?_ ?_); (focus (first | exact Nat.le_refl _ | (simp; done) | (simp; omega) | omega))) | ((with_reducible refine set_ ?_ ?_); (focus (first | exact Nat.le_refl _ | (simp; done) | (simp; omega) | omega))) | (with_reducible refine Below.drew ?_) | ((with_reducible refine after_ ?_ (by assumption) ?_); (rotate_left; (focus (first | exact Nat.le_refl _ | (simp; done) | (simp; omega) | omega))))))
  obtain ⟨b, off, e, _, d⟩ := Rd.int (HK.out.below hB (Nat.le_refl _)) (i := q) (by simpa [sinesL] using hq4)
  cases e
  have HB := Lib.hid hB
  clear hb1 hc1 hf1 hB
  have d' : w1.cell? ⟨0, q, none⟩ = some (.int .i64 (nth sinesL q)) := by simpa using d
  obtain ⟨v, hv⟩ : ∃ v, nth sinesL q = v := ⟨_, rfl⟩
  have hv4 : 0 ≤ v ∧ v ≤ 1000 := by
    have hcase : q = 0 ∨ q = 1 ∨ q = 2 ∨ q = 3 := by omega
    rcases hcase with rfl | rfl | rfl | rfl <;> rw [← hv] <;> decide
  rw [hv] at d' H
  clear d hv
  have ht : an.tdiv 30 = q := by rw [Int.tdiv_eq_ediv_of_nonneg a1]; exact hq
  obtain ⟨v1, v2⟩ := hv4
  have m1 : 0 ≤ x.wi * v := Int.mul_nonneg q1 v1
  have m2 : x.wi * v ≤ 600 * 1000 := Int.mul_le_mul q2 v2 v1 (by omega)
  obtain ⟨n, hn⟩ : ∃ n, x.wi * v = n := ⟨_, rfl⟩
  have HN := Lib.hid hn
  rw [hn] at m1 m2
  have hq0 : (0 : Int) ≤ q := by omega
  have hq5 : (q : Int) < 4 := by omega
  have hqi : IntKind.i64.wrap (q : Int) = q := IntWalk.i64_in _ (by omega)
  have hqn : ((q : Int)).toNat = q := Int.toNat_natCast q
  go_region_with (fail)
  all_goals go_wp2_with fail
  all_goals go_ret2
  all_goals refine ⟨retp (H.out.trans (Prod.ext ?_ rfl)), by first | exact HB.out | exact HB.out.drew⟩
  all_goals (rw [hn]; exact (sd n m1 (by omega)).symm)
end Go.Proofs.YtdhcmmdeickmnaaDoor
