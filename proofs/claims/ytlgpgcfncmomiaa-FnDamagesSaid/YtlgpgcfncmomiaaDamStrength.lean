/- StrengthLeft: the program's and the reference's return one Lean function; no conditions but the length and a kind that is not far off. -/
import Derived.Test.YtlgpgcfncmomiaaDamLeft
namespace Go.Proofs.Ytlgpgcfncmomiaa
open Go.RowKit

def strP (k : Kin) (l : List Dam) : Int × Bool := if goodD k l = true then (leftS k l, true) else (0, false)
theorem l1Most_c (x y : Int) (w : World) : Calls Try.prog 34 #[.int .i64 x, .int .i64 y] w fun e w' => e = .returned (.int .i64 (max x y)) ∧ w = w' := by
  by_cases h : y < x
  all_goals
    go_enter Try.func34, Try.ntmps34
    go_wp2_with fail
    go_ret
    exact ⟨reti (by omega), rfl⟩
theorem l1Most_s (x y : Int) (w : World) : Calls Try.prog 34 #[.int .i64 x, .int .i64 y] w fun e w' => e = .returned (.int .i64 (max x y)) ∧ w' = w := (l1Most_c x y w).mono fun _ _ h => ⟨h.1, h.2.symm⟩
theorem left_facts {k : Kin} {l : List Dam} (h : goodD k l = true) : ∃ m a : Int, most l 10 (-1) = m ∧ k.st * k.wi = a ∧ allW k = a ∧ 0 ≤ m ∧ m ≤ 600 ∧ 28 ≤ a ∧ a ≤ 320 ∧ 10 ≤ k.sg ∧ k.sg ≤ 5000 ∧ 0 ≤ k.sg * max (a - m) 0 ∧ k.sg * max (a - m) 0 ≤ 1600000 ∧ leftS k l = (k.sg * max (a - m) 0).tdiv a := by
  obtain ⟨h1, h2, _⟩ := goodD_true h
  obtain ⟨b1, b2⟩ := allW_bd h1
  obtain ⟨_, _, _, _, ⟨s1, s2⟩⟩ := okKd_true.1 h1
  obtain ⟨m1, m2⟩ := most_bd (n := 10) (s := -1) (good_few h).2 h2 l.length (Nat.le_refl _)
  change 0 ≤ most l 10 (-1) at m1
  change most l 10 (-1) ≤ 600 at m2
  have p1 : 0 ≤ k.sg * max (allW k - most l 10 (-1)) 0 := Int.mul_nonneg (by omega) (by omega)
  have p2 : k.sg * max (allW k - most l 10 (-1)) 0 ≤ 5000 * 320 := Int.mul_le_mul (by omega) (by omega) (by omega) (by omega)
  refine ⟨_, _, rfl, rfl, rfl, m1, m2, b1, b2, s1, s2, p1, Int.le_trans p2 (by decide), ?_⟩
  unfold leftS
  rw [show k.st * k.wi = allW k from rfl, Int.tdiv_eq_ediv_of_nonneg p1]
set_option maxHeartbeats 1600000 in
theorem implStrengthLeft_c (k : Kin) (l : List Dam) (A : Option Addr) (cap : Nat) (w : World) (hl : l.length ≤ 1048576) (hr : Rd w w.heap.size 3 Dam.cells A l) :
    Calls Try.prog 14 #[.agg #[.int .i64 k.i, .int .i64 k.st, .int .i64 k.wi, .int .i64 k.we, .int .i64 k.sg], .slice A l.length cap] w fun e w' => e = .returned (.tuple #[.int .i64 (strP k l).1, .bool (strP k l).2]) ∧ Below w.heap.size w w' := by
  have HR := Lib.hid hr
  have HX := Lib.hid (Box.new w k.cells 25)
  clear hr
  go_enter Try.func14, Try.ntmps14
  go_wp2_with fail
  refine (AreDamages_c k l _ _ _ hl (HR.out.alloc _)).mono ?_
  rintro e w1 ⟨rfl, hb1⟩
  have HB1 := Lib.hid (show Below w.heap.size w w1 from (by repeat (first | (with_reducible exact Below.refl _ _) | ((with_reducible refine alloc_ ?_ ?_); (focus (first | exact Nat.le_refl _ | (simp; done) | (simp; omega) | omega))) | ((with_reducible refine set_ ?_ ?_); (focus (first | exact Nat.le_refl _ | (simp; done) | (simp; omega) | omega))) | (with_reducible refine Below.drew ?_) | ((with_reducible refine after_ ?_ (by assumption) ?_); (rotate_left; (focus (first | exact Nat.le_refl _ | (simp; done) | (simp; omega) | omega)))))))
  have HX1 := Lib.hid (HX.out.carry hb1)
  clear hb1
  rcases hg : goodD k l with _ | _
  · have H := Lib.hid (show strP k l = (0, false) by simp [strP, hg])
    go_wp2_with fail
    go_ret2
    exact ⟨by rw [H.out]; rfl, HB1.out⟩
  have H := Lib.hid (show strP k l = (leftS k l, true) by simp [strP, hg])
  have HG := Lib.hid hg
  obtain ⟨m, a, hm, ha, _, m1, m2, a1, a2, s1, s2, p1, p2, hL⟩ := left_facts hg
  have HL := Lib.hid hL
  have k1 := HX1.out.cell (j := 1) rfl
  have k2 := HX1.out.cell (j := 2) rfl
  have lx := HX1.out.lt
  have e1 : IntKind.i64.wrap (k.st * k.wi) = a := by rw [ha]; exact IntWalk.i64_in _ (by omega)
  clear hg hL
  go_wp2_with fail
  refine (worstWindow_c l 10 (-1) _ _ _ (good_few HG.out) (good_placed HG.out) (by omega) (HR.out.carry HB1.out)).mono ?_
  rintro e w2 ⟨x, rfl, hb2⟩
  rw [hm]
  have HX2 := Lib.hid (HX1.out.carry hb2)
  have HB2 := Lib.hid (HB1.out.trans (hb2.mono HB1.out.size))
  have k4 := HX2.out.cell (j := 4) rfl
  have lx2 := HX2.out.lt
  have e2 : IntKind.i64.wrap (a - m) = a - m := IntWalk.i64_in _ (by omega)
  have e3 : IntKind.i64.wrap (k.sg * max (a - m) 0) = k.sg * max (a - m) 0 := IntWalk.i64_in _ (by omega)
  have e4 : ¬ a = 0 := by omega
  have e5 : 0 ≤ (k.sg * max (a - m) 0).tdiv a := Int.tdiv_nonneg p1 (by omega)
  have e6 : (k.sg * max (a - m) 0).tdiv a ≤ 1600000 := Int.le_trans (by rw [Int.tdiv_eq_ediv_of_nonneg p1]; exact Int.ediv_le_self _ p1) p2
  have e7 : IntKind.i64.wrap ((k.sg * max (a - m) 0).tdiv a) = (k.sg * max (a - m) 0).tdiv a := IntWalk.i64_in _ (by omega)
  clear hb2
  go_wp2_with fail
  go_ret2
  exact ⟨by rw [H.out, HL.out]; rfl, HB2.out⟩
theorem l1Most_o (y : Int) (w : World) : Calls Try.prog 34 #[.int .i64 0, .int .i64 y] w fun e w' => e = .returned (.int .i64 (max y 0)) ∧ Below w.heap.size w w' := (l1Most_c 0 y w).mono fun _ _ h => ⟨by rw [h.1, show max 0 y = max y 0 by omega], h.2 ▸ Below.refl _ _⟩
set_option maxHeartbeats 1600000 in
theorem specStrengthLeft_c (k : Kin) (l : List Dam) (A : Option Addr) (cap : Nat) (w : World) (hl : l.length ≤ 1048576) (hst : -1000 ≤ k.st ∧ k.st ≤ 1000) (hr : Rd w w.heap.size 3 Dam.cells A l) :
    Calls Try.prog 15 #[.agg #[.int .i64 k.i, .int .i64 k.st, .int .i64 k.wi, .int .i64 k.we, .int .i64 k.sg], .slice A l.length cap] w fun e w' => e = .returned (.tuple #[.int .i64 (strP k l).1, .bool (strP k l).2]) ∧ Below w.heap.size w w' := by
  have HR := Lib.hid hr
  have HX := Lib.hid (Box.new w k.cells 25)
  clear hr
  go_enter Try.func15, Try.ntmps15
  go_wp2_with fail
  refine (l3Good_c k l _ _ _ hl hst (HR.out.alloc _)).mono ?_
  rintro e w1 ⟨rfl, hb1⟩
  have HB1 := Lib.hid (show Below w.heap.size w w1 from (by repeat (first | (with_reducible exact Below.refl _ _) | ((with_reducible refine alloc_ ?_ ?_); (focus (first | exact Nat.le_refl _ | (simp; done) | (simp; omega) | omega))) | ((with_reducible refine set_ ?_ ?_); (focus (first | exact Nat.le_refl _ | (simp; done) | (simp; omega) | omega))) | (with_reducible refine Below.drew ?_) | ((with_reducible refine after_ ?_ (by assumption) ?_); (rotate_left; (focus (first | exact Nat.le_refl _ | (simp; done) | (simp; omega) | omega)))))))
  have HX1 := Lib.hid (HX.out.carry hb1)
  clear hb1
  rcases hg : goodD k l with _ | _
  · have H := Lib.hid (show strP k l = (0, false) by simp [strP, hg])
    go_wp2_with fail
    go_ret2
    exact ⟨by rw [H.out]; rfl, HB1.out⟩
  have H := Lib.hid (show strP k l = (leftS k l, true) by simp [strP, hg])
  have HG := Lib.hid hg
  obtain ⟨m, a, hm, ha, _, m1, m2, a1, a2, s1, s2, p1, p2, hL⟩ := left_facts hg
  have HL := Lib.hid hL
  have k1 := HX1.out.cell (j := 1) rfl
  have k2 := HX1.out.cell (j := 2) rfl
  have lx := HX1.out.lt
  have e1 : IntKind.i64.wrap (k.st * k.wi) = a := by rw [ha]; exact IntWalk.i64_in _ (by omega)
  clear hg hL
  go_wp2_with fail
  refine (l3Most_c l 10 (-1) _ _ _ (good_few HG.out) (good_placed HG.out) (by omega) (HR.out.carry HB1.out)).mono ?_
  rintro e w2 ⟨x, rfl, hb2⟩
  rw [hm]
  have HX2 := Lib.hid (HX1.out.carry hb2)
  have HB2 := Lib.hid (HB1.out.trans (hb2.mono HB1.out.size))
  have k4 := HX2.out.cell (j := 4) rfl
  have lx2 := HX2.out.lt
  have e2 : IntKind.i64.wrap (a - m) = a - m := IntWalk.i64_in _ (by omega)
  have e3 : IntKind.i64.wrap (k.sg * max (a - m) 0) = k.sg * max (a - m) 0 := IntWalk.i64_in _ (by omega)
  have e4 : ¬ a = 0 := by omega
  have e5 : 0 ≤ (k.sg * max (a - m) 0).tdiv a := Int.tdiv_nonneg p1 (by omega)
  have e6 : (k.sg * max (a - m) 0).tdiv a ≤ 1600000 := Int.le_trans (by rw [Int.tdiv_eq_ediv_of_nonneg p1]; exact Int.ediv_le_self _ p1) p2
  have e7 : IntKind.i64.wrap ((k.sg * max (a - m) 0).tdiv a) = (k.sg * max (a - m) 0).tdiv a := IntWalk.i64_in _ (by omega)
  have z2 := HB2.out.size
  clear hb2
  go_wp2_with fail
  refine wp_region_mem (by kernel_rfl) (by kernel_rfl) ?_
  repeat (go_big_quiet_step ((go_at_call 34; exact mem_of (l1Most_o (a - m) _))))
  refine wpQuiet_nil ?_
  intro _ hw'
  obtain ⟨⟨wq, hbq⟩, hw''⟩ := hw'
  obtain rfl := hw''.symm
  obtain ⟨hcq, hfq, hzq⟩ := bcell hbq
  try simp [Nat.add_one_le_iff] at hzq
  go_wp2_with fail
  go_ret2
  exact ⟨by rw [H.out, HL.out]; rfl, HB2.out.trans (hbq.mono z2)⟩
end Go.Proofs.Ytlgpgcfncmomiaa
