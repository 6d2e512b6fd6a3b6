/- ClimbOf of the program and of the reference return one Lean function; no conditions but the length. -/
import Derived.Test.YtpchcblialkpcaaDoorSupGood
import Derived.Test.YtpchcblialkpcaaDoorSupWays
namespace Go.Proofs.YtpchcblialkpcaaDoor
open Go.RowKit

theorem retCl {p : (Int × Int) × Bool} {a b : Int} {c : Bool} (h : p = ((a, b), c)) : Ending.returned (.tuple #[.int .i64 a, .int .i64 b, .bool c]) = .returned (.tuple #[.int .i64 p.1.1, .int .i64 p.1.2, .bool p.2]) := by rw [h]
theorem l1Most_c (a b : Int) (w : World) : Calls Tryd.prog 23 #[.int .i64 a, .int .i64 b] w fun e w' => e = .returned (.int .i64 (max a b)) ∧ w = w' := by
  by_cases h : b < a
  · have H := Lib.hid (show max a b = a by omega)
    go_enter Tryd.func23, Tryd.ntmps23
    go_wp2_with fail
    go_ret
    exact ⟨by rw [H.out]; rfl, rfl⟩
  · have H := Lib.hid (show max a b = b by omega)
    go_enter Tryd.func23, Tryd.ntmps23
    go_wp2_with fail
    go_ret
    exact ⟨by rw [H.out]; rfl, rfl⟩
set_option maxHeartbeats 2000000 in
theorem implClimbOf_c (l : List Sup) (A : Option Addr) (cap : Nat) (w : World) (hl : l.length ≤ 1048576) (hr : Rd w w.heap.size 3 Sup.cells A l) :
    Calls Tryd.prog 10 #[.slice A l.length cap] w fun e w' => e = .returned (.tuple #[.int .i64 (climbU l).1.1, .int .i64 (climbU l).1.2, .bool (climbU l).2]) ∧ Below w.heap.size w w' := by
  have HR := Lib.hid hr
  clear hr
  rcases hg : goodU l with _ | _
  · have H := Lib.hid (show climbU l = ((0, 0), false) by simp [climbU, hg])
    go_enter Tryd.func10, Tryd.ntmps10
    go_wp2_with fail
    refine (IsLine_c l _ _ _ hl HR.out).mono ?_
    rintro e w1 ⟨rfl, hb1⟩
    rw [hg]
    go_wp2_with fail
    exact bodyPost_ret (v := .tuple #[.int .i64 0, .int .i64 0, .bool false]) (by simp [results, Tryd.results10, go_sem]) rfl ⟨retCl H.out, hb1⟩
  have H := Lib.hid (show climbU l = (climbTo l l.length, true) by simp [climbU, hg])
  obtain ⟨g1, g2, _, _, _, g6, _⟩ := goodU_true hg
  have G6 := Lib.hid g6
  clear g6
  go_enter Tryd.func10, Tryd.ntmps10
  go_wp2_with fail
  refine (IsLine_c l _ _ _ hl HR.out).mono ?_
  rintro e w1 ⟨rfl, hb1⟩
  rw [hg]
  have HR1 := Lib.hid (HR.out.carry hb1)
  have HB1 := Lib.hid hb1
  clear hg hb1 HR
  go_wp2_with fail
  go_loopw [5, 6, 7] (fun u d i wr => ∃ k : Nat, 1 ≤ k ∧ k ≤ l.length ∧ i = .int .i64 k ∧ u = .int .i64 (climbTo l k).1 ∧ d = .int .i64 (climbTo l k).2 ∧ Below w1.heap.size w1 wr) (fun _ _ i _ => l.length - (intOf i).toNat)
  case atStart => exact ⟨1, by omega, by omega, rfl, rfl, rfl, Below.refl _ _⟩
  case round =>
    obtain ⟨k, hk1, hk, rfl, rfl, rfl, hbel⟩ := hrel
    have HB := Lib.hid hbel
    have zr := hbel.size
    obtain ⟨b1, b2, b3, b4⟩ := climb_bd G6.out k hk
    by_cases hlt : k < l.length
    · obtain ⟨j, rfl⟩ : ∃ j, k = j + 1 := ⟨k - 1, by omega⟩
      obtain ⟨b, off, rfl, hb, _, c1, _⟩ := Sup.rd (HR1.out.below hbel (Nat.le_refl _)) hlt
      obtain ⟨b', off', he, _, _, d1, _⟩ := Sup.rd (HR1.out.below hbel (Nat.le_refl _)) (show j < l.length by omega)
      simp only [Option.some.injEq, Addr.mk.injEq, and_true] at he
      obtain ⟨rfl, rfl⟩ := he
      obtain ⟨_, p1, p2⟩ := okU_true.1 (G6.out (j + 1) hlt)
      obtain ⟨_, q1, q2⟩ := okU_true.1 (G6.out j (by omega))
      have HS := Lib.hid (show climbTo l (j + 1 + 1) = ((climbTo l (j + 1)).1 + max 0 ((nth l (j + 1)).h - (nth l j).h), (climbTo l (j + 1)).2 + max 0 ((nth l j).h - (nth l (j + 1)).h)) from rfl)
      obtain ⟨x, hx⟩ : ∃ x, (nth l (j + 1)).h = x := ⟨_, rfl⟩
      obtain ⟨y, hy⟩ : ∃ y, (nth l j).h = y := ⟨_, rfl⟩
      obtain ⟨⟨u, d⟩, hcl⟩ : ∃ c, climbTo l (j + 1) = c := ⟨_, rfl⟩
      rw [hx] at c1 p1 p2 HS
      rw [hy] at d1 q1 q2 HS
      rw [hcl] at b1 b2 b3 b4 HS ⊢
      simp only at b1 b2 b3 b4
      have l1 : b < wr.heap.size := by omega
      have i1 : (0 : Int) ≤ (j : Int) := by omega
      have i2 : (j : Int) < l.length := by omega
      have i3 : (j : Int) + 1 < l.length := by omega
      have wj : IntKind.i64.wrap (j : Int) = j := IntWalk.i64_in _ (by omega)
      have a1 : IntKind.i64.wrap (x - y) = x - y := IntWalk.i64_in _ (by omega)
      have a2 : IntKind.i64.wrap (-(x - y)) = y - x := by rw [show -(x - y) = y - x by omega]; exact IntWalk.i64_in _ (by omega)
      have a2b : IntKind.i64.wrap (y - x) = y - x := IntWalk.i64_in _ (by omega)
      clear hbel hx hy hcl
      go_wp2_with fail
      refine wp_region_mem (by kernel_rfl) (by kernel_rfl) ?_
      repeat (go_big_quiet_step (fail))
      refine wpQuiet_nil ?_
      intro _ hw'
      obtain ⟨⟨wq, hbq⟩, hw''⟩ := hw'
      obtain rfl := hw''.symm
      obtain ⟨hcq, hfq, hzq⟩ := bcell hbq
      try simp [Nat.add_one_le_iff] at hzq
      have HBq := Lib.hid (HB.out.trans (hbq.mono zr))
      clear hcq hfq
      by_cases hd : y ≤ x
      · have m1 : max 0 (x - y) = x - y := by omega
        have m2 : max 0 (y - x) = 0 := by omega
        have m3 : max (x - y) 0 = x - y := by omega
        have m4 : max (y - x) 0 = 0 := by omega
        have a3 : IntKind.i64.wrap (u + (x - y)) = u + (x - y) := IntWalk.i64_in _ (by omega)
        have a4 : IntKind.i64.wrap d = d := IntWalk.i64_in _ (by omega)
        have s1 : decide (x - y < 0) = false := decide_eq_false (by omega)
        have s2 : decide (0 < x - y) = decide (y < x) := by simp
        rw [m1, m2] at HS
        go_wp2_with fail
        go_roundw
        case rel => exact ⟨j + 1 + 1, by omega, by omega, by go_num, by rw [HS.out], by rw [HS.out]; simp, HBq.out⟩
        case measure => simp [intOf]; omega
      · have m1 : max 0 (x - y) = 0 := by omega
        have m2 : max 0 (y - x) = y - x := by omega
        have m3 : max (x - y) 0 = 0 := by omega
        have m4 : max (y - x) 0 = y - x := by omega
        have a3 : IntKind.i64.wrap u = u := IntWalk.i64_in _ (by omega)
        have a4 : IntKind.i64.wrap (d + (y - x)) = d + (y - x) := IntWalk.i64_in _ (by omega)
        rw [m1, m2] at HS
        go_wp2_with fail
        go_roundw
        case rel => exact ⟨j + 1 + 1, by omega, by omega, by go_num, by rw [HS.out]; simp, by rw [HS.out], HBq.out⟩
        case measure => simp [intOf]; omega
    · obtain rfl : k = l.length := by omega
      have HE := Lib.hid (HB1.out.trans (hbel.mono HB1.out.size))
      clear hbel
      go_wp2_with fail
      exact bodyPost_ret (v := .tuple #[.int .i64 (climbTo l l.length).1, .int .i64 (climbTo l l.length).2, .bool true]) (by simp [results, Tryd.results10, go_sem]) rfl ⟨retCl H.out, HE.out⟩
set_option maxHeartbeats 2000000 in
theorem specClimbOf_c (l : List Sup) (A : Option Addr) (cap : Nat) (w : World) (hl : l.length ≤ 1048576) (hr : Rd w w.heap.size 3 Sup.cells A l) :
    Calls Tryd.prog 11 #[.slice A l.length cap] w fun e w' => e = .returned (.tuple #[.int .i64 (climbU l).1.1, .int .i64 (climbU l).1.2, .bool (climbU l).2]) ∧ Below w.heap.size w w' := by
  have HR := Lib.hid hr
  clear hr
  rcases hg : goodU l with _ | _
  · have H := Lib.hid (show climbU l = ((0, 0), false) by simp [climbU, hg])
    go_enter Tryd.func11, Tryd.ntmps11
    go_wp2_with fail
    refine (l2Line_c l _ _ _ hl HR.out).mono ?_
    rintro e w1 ⟨rfl, hb1⟩
    rw [hg]
    go_wp2_with fail
    exact bodyPost_ret (v := .tuple #[.int .i64 0, .int .i64 0, .bool false]) (by simp [results, Tryd.results11, go_sem]) rfl ⟨retCl H.out, hb1⟩
  have H := Lib.hid (show climbU l = (climbTo l l.length, true) by simp [climbU, hg])
  obtain ⟨g1, g2, _, _, _, g6, _⟩ := goodU_true hg
  have G6 := Lib.hid g6
  clear g6
  go_enter Tryd.func11, Tryd.ntmps11
  go_wp2_with fail
  refine (l2Line_c l _ _ _ hl HR.out).mono ?_
  rintro e w1 ⟨rfl, hb1⟩
  rw [hg]
  have HR1 := Lib.hid (HR.out.carry hb1)
  have HB1 := Lib.hid hb1
  clear hg hb1 HR
  go_wp2_with fail
  go_loopw [5, 6, 7] (fun u d i wr => ∃ k : Nat, 1 ≤ k ∧ k ≤ l.length ∧ i = .int .i64 k ∧ u = .int .i64 (climbTo l k).1 ∧ d = .int .i64 (climbTo l k).2 ∧ Below w1.heap.size w1 wr) (fun _ _ i _ => l.length - (intOf i).toNat)
  case atStart => exact ⟨1, by omega, by omega, rfl, rfl, rfl, Below.refl _ _⟩
  case round =>
    obtain ⟨k, hk1, hk, rfl, rfl, rfl, hbel⟩ := hrel
    have HB := Lib.hid hbel
    have zr := hbel.size
    obtain ⟨b1, b2, b3, b4⟩ := climb_bd G6.out k hk
    by_cases hlt : k < l.length
    · obtain ⟨j, rfl⟩ : ∃ j, k = j + 1 := ⟨k - 1, by omega⟩
      obtain ⟨b, off, rfl, hb, _, c1, _⟩ := Sup.rd (HR1.out.below hbel (Nat.le_refl _)) hlt
      obtain ⟨b', off', he, _, _, d1, _⟩ := Sup.rd (HR1.out.below hbel (Nat.le_refl _)) (show j < l.length by omega)
      simp only [Option.some.injEq, Addr.mk.injEq, and_true] at he
      obtain ⟨rfl, rfl⟩ := he
      obtain ⟨_, p1, p2⟩ := okU_true.1 (G6.out (j + 1) hlt)
      obtain ⟨_, q1, q2⟩ := okU_true.1 (G6.out j (by omega))
      have HS := Lib.hid (show climbTo l (j + 1 + 1) = ((climbTo l (j + 1)).1 + max 0 ((nth l (j + 1)).h - (nth l j).h), (climbTo l (j + 1)).2 + max 0 ((nth l j).h - (nth l (j + 1)).h)) from rfl)
      obtain ⟨x, hx⟩ : ∃ x, (nth l (j + 1)).h = x := ⟨_, rfl⟩
      obtain ⟨y, hy⟩ : ∃ y, (nth l j).h = y := ⟨_, rfl⟩
      obtain ⟨⟨u, d⟩, hcl⟩ : ∃ c, climbTo l (j + 1) = c := ⟨_, rfl⟩
      rw [hx] at c1 p1 p2 HS
      rw [hy] at d1 q1 q2 HS
      rw [hcl] at b1 b2 b3 b4 HS ⊢
      simp only at b1 b2 b3 b4
      have l1 : b < wr.heap.size := by omega
      have i1 : (0 : Int) ≤ (j : Int) := by omega
      have i2 : (j : Int) < l.length := by omega
      have i3 : (j : Int) + 1 < l.length := by omega
      have wj : IntKind.i64.wrap (j : Int) = j := IntWalk.i64_in _ (by omega)
      have a1 : IntKind.i64.wrap (x - y) = x - y := IntWalk.i64_in _ (by omega)
      have a2 : IntKind.i64.wrap (-(x - y)) = y - x := by rw [show -(x - y) = y - x by omega]; exact IntWalk.i64_in _ (by omega)
      have a2b : IntKind.i64.wrap (y - x) = y - x := IntWalk.i64_in _ (by omega)
      clear hbel hx hy hcl
      go_wp2_with fail
      refine wp_region_mem (by kernel_rfl) (by kernel_rfl) ?_
      repeat (go_big_quiet_step (fail))
      refine wpQuiet_nil ?_
      intro _ hw'
      obtain ⟨⟨wq, hbq⟩, hw''⟩ := hw'
      obtain rfl := hw''.symm
      obtain ⟨hcq, hfq, hzq⟩ := bcell hbq
      try simp [Nat.add_one_le_iff] at hzq
      have HBq := Lib.hid (HB.out.trans (hbq.mono zr))
      clear hcq hfq
      by_cases hd : y ≤ x
      · have m1 : max 0 (x - y) = x - y := by omega
        have m2 : max 0 (y - x) = 0 := by omega
        have m3 : max (x - y) 0 = x - y := by omega
        have m4 : max (y - x) 0 = 0 := by omega
        have a3 : IntKind.i64.wrap (u + (x - y)) = u + (x - y) := IntWalk.i64_in _ (by omega)
        have a4 : IntKind.i64.wrap d = d := IntWalk.i64_in _ (by omega)
        have s1 : decide (x - y < 0) = false := decide_eq_false (by omega)
        have s2 : decide (0 < x - y) = decide (y < x) := by simp
        rw [m1, m2] at HS
        go_wp2_with (go_at_call 23; refine (l1Most_c _ _ _).mono ?_; rintro e w' ⟨rfl, rfl⟩)
        go_roundw
        case rel => exact ⟨j + 1 + 1, by omega, by omega, by go_num, by rw [HS.out], by rw [HS.out]; simp, HBq.out⟩
        case measure => simp [intOf]; omega
      · have m1 : max 0 (x - y) = 0 := by omega
        have m2 : max 0 (y - x) = y - x := by omega
        have m3 : max (x - y) 0 = 0 := by omega
        have m4 : max (y - x) 0 = y - x := by omega
        have a3 : IntKind.i64.wrap u = u := IntWalk.i64_in _ (by omega)
        have a4 : IntKind.i64.wrap (d + (y - x)) = d + (y - x) := IntWalk.i64_in _ (by omega)
        rw [m1, m2] at HS
        go_wp2_with (go_at_call 23; refine (l1Most_c _ _ _).mono ?_; rintro e w' ⟨rfl, rfl⟩)
        go_roundw
        case rel => exact ⟨j + 1 + 1, by omega, by omega, by go_num, by rw [HS.out]; simp, by rw [HS.out], HBq.out⟩
        case measure => simp [intOf]; omega
    · obtain rfl : k = l.length := by omega
      have HE := Lib.hid (HB1.out.trans (hbel.mono HB1.out.size))
      clear hbel
      go_wp2_with fail
      exact bodyPost_ret (v := .tuple #[.int .i64 (climbTo l l.length).1, .int .i64 (climbTo l l.length).2, .bool true]) (by simp [results, Tryd.results11, go_sem]) rfl ⟨retCl H.out, HE.out⟩
end Go.Proofs.YtpchcblialkpcaaDoor
