/- TakeOut of the program and of the reference return one Lean function; no conditions. -/
import Derived.Test.YtjlgembpaalijaaPutIn
import Derived.Deep.RegionHeld3
import Derived.Deep.RegionWith
namespace Go.Proofs.Ytjlgembpaalijaa
open Go.RowKit Go.Joins Go.ChangeShapes Go.WideShapes Go.ChangeAt

def energy (x m : Int) : Int := (x * m + 59) / 60
/-- The battery behind a call, and whether the call is possible. -/
def takeOut (a b c x m : Int) : Int × Int × Int × Bool := if isBat a b c && inR x 0 c && inR m 0 10000 && decide (energy x m ≤ b) then (a, b - energy x m, c, true) else (0, 0, 0, false)

theorem l18Energy_c (x m : Int) (w : World) (h1 : 0 ≤ x) (h2 : x ≤ 1000000) (h3 : 0 ≤ m) (h4 : m ≤ 10000) : Calls Try.prog 37 #[.int .i64 x, .int .i64 m] w fun e w' => e = .returned (.int .i64 (energy x m)) ∧ w = w' := by
  obtain ⟨b1, b2⟩ := mul_bd h1 h2 h3 h4
  go_enter Try.func37, Try.ntmps37
  go_wp2
  go_ret
  exact ⟨rfl, rfl⟩


theorem takeOut_no {a b c x m : Int} (h : (isBat a b c && inR x 0 c && inR m 0 10000 && decide (energy x m ≤ b)) = false) : takeOut a b c x m = (0, 0, 0, false) := by unfold takeOut; rw [h]; rfl
theorem rets' {p : Int × Int × Int × Bool} {a b c : Int} {ok : Bool} (h : p = (a, b, c, ok)) : Ending.returned (.tuple #[.agg #[.int .i64 a, .int .i64 b, .int .i64 c], .bool ok]) = .returned (.tuple #[.agg #[.int .i64 p.1, .int .i64 p.2.1, .int .i64 p.2.2.1], .bool p.2.2.2]) := by rw [h]

theorem specTakeOut_no1 (a b c x m : Int) (w : World) (h1 : isBat a b c = false) : Calls Try.prog 18 #[.agg #[.int .i64 a, .int .i64 b, .int .i64 c], .int .i64 x, .int .i64 m] w fun e w' =>
    e = .returned (.tuple #[.agg #[.int .i64 (takeOut a b c x m).1, .int .i64 (takeOut a b c x m).2.1, .int .i64 (takeOut a b c x m).2.2.1], .bool (takeOut a b c x m).2.2.2]) ∧ Below w.heap.size w w' := by
  have Hr := Lib.hid (takeOut_no (show (isBat a b c && inR x 0 c && inR m 0 10000 && decide (energy x m ≤ b)) = false by simp [h1]))
  go_enter Try.func18, Try.ntmps18
  go_wp2_with fail
  refine wp_region_mem (by kernel_rfl) (by kernel_rfl) ?_
  repeat (go_big_quiet_step ((go_at_call 31; exact mem_bool (l18Battery_c _ _ _ _) h1)))
  refine wpQuiet_nil ?_
  intro _ hw'
  obtain ⟨⟨w1, hb1⟩, hw''⟩ := hw'
  obtain rfl := hw''.symm
  obtain ⟨hc1, hf1, hz1⟩ := bcell hb1
  try simp [Nat.add_one_le_iff] at hz1
  go_wp2_with fail
  exact bodyPost_ret (v := .tuple #[.agg #[.int .i64 0, .int .i64 0, .int .i64 0], .bool false]) (by simp [results, Try.results18, go_sem, *]) rfl ⟨rets' Hr.out, (by repeat (first | (with_reducible exact Below.refl _ _) | ((with_reducible refine alloc_ ?_ ?_); (focus (first | exact Nat.le_refl _ | (simp; done) | (simp; omega) | omega))) | ((with_reducible refine set_ ?_ ?_); (focus (first | exact Nat.le_refl _ | (simp; done) | (simp; omega) | omega))) | (with_reducible refine Below.drew ?_) | ((with_reducible refine after_ ?_ (by assumption) ?_); (rotate_left; (focus (first | exact Nat.le_refl _ | (simp; done) | (simp; omega) | omega))))))⟩

theorem specTakeOut_no2 (a b c x m : Int) (w : World) (h1 : isBat a b c = true) (h2 : inR x 0 c = false) : Calls Try.prog 18 #[.agg #[.int .i64 a, .int .i64 b, .int .i64 c], .int .i64 x, .int .i64 m] w fun e w' =>
    e = .returned (.tuple #[.agg #[.int .i64 (takeOut a b c x m).1, .int .i64 (takeOut a b c x m).2.1, .int .i64 (takeOut a b c x m).2.2.1], .bool (takeOut a b c x m).2.2.2]) ∧ Below w.heap.size w w' := by
  have Hr := Lib.hid (takeOut_no (show (isBat a b c && inR x 0 c && inR m 0 10000 && decide (energy x m ≤ b)) = false by simp [h2]))
  go_enter Try.func18, Try.ntmps18
  go_wp2_with fail
  refine wp_region_mem (by kernel_rfl) (by kernel_rfl) ?_
  repeat (go_big_quiet_step (first | (go_at_call 31; exact mem_bool (l18Battery_c _ _ _ _) h1) | (go_at_call 33; exact same_bool (l1In_c _ _ _ _) h2)))
  refine wpQuiet_nil ?_
  intro _ hw'
  obtain ⟨⟨w1, hb1⟩, hw''⟩ := hw'
  obtain rfl := hw''.symm
  obtain ⟨hc1, hf1, hz1⟩ := bcell hb1
  try simp [Nat.add_one_le_iff] at hz1
  go_wp2_with fail
  exact bodyPost_ret (v := .tuple #[.agg #[.int .i64 0, .int .i64 0, .int .i64 0], .bool false]) (by simp [results, Try.results18, go_sem, *]) rfl ⟨rets' Hr.out, (by repeat (first | (with_reducible exact Below.refl _ _) | ((with_reducible refine alloc_ ?_ ?_); (focus (first | exact Nat.le_refl _ | (simp; done) | (simp; omega) | omega))) | ((with_reducible refine set_ ?_ ?_); (focus (first | exact Nat.le_refl _ | (simp; done) | (simp; omega) | omega))) | (with_reducible refine Below.drew ?_) | ((with_reducible refine after_ ?_ (by assumption) ?_); (rotate_left; (focus (first | exact Nat.le_refl _ | (simp; done) | (simp; omega) | omega))))))⟩

theorem specTakeOut_no3 (a b c x m : Int) (w : World) (h1 : isBat a b c = true) (h2 : inR x 0 c = true) (h3 : inR m 0 10000 = false) : Calls Try.prog 18 #[.agg #[.int .i64 a, .int .i64 b, .int .i64 c], .int .i64 x, .int .i64 m] w fun e w' =>
    e = .returned (.tuple #[.agg #[.int .i64 (takeOut a b c x m).1, .int .i64 (takeOut a b c x m).2.1, .int .i64 (takeOut a b c x m).2.2.1], .bool (takeOut a b c x m).2.2.2]) ∧ Below w.heap.size w w' := by
  have Hr := Lib.hid (takeOut_no (show (isBat a b c && inR x 0 c && inR m 0 10000 && decide (energy x m ≤ b)) = false by simp [h3]))
  go_enter Try.func18, Try.ntmps18
  go_wp2_with fail
  refine wp_region_mem (by kernel_rfl) (by kernel_rfl) ?_
  repeat (go_big_quiet_step (first | (go_at_call 31; exact mem_bool (l18Battery_c _ _ _ _) h1) | (go_at_call 33; exact same_bool (l1In_c _ _ _ _) h2) | (go_at_call 36; exact same_bool (l18Minutes_c _ _) h3)))
  refine wpQuiet_nil ?_
  intro _ hw'
  obtain ⟨⟨w1, hb1⟩, hw''⟩ := hw'
  obtain rfl := hw''.symm
  obtain ⟨hc1, hf1, hz1⟩ := bcell hb1
  try simp [Nat.add_one_le_iff] at hz1
  go_wp2_with fail
  exact bodyPost_ret (v := .tuple #[.agg #[.int .i64 0, .int .i64 0, .int .i64 0], .bool false]) (by simp [results, Try.results18, go_sem, *]) rfl ⟨rets' Hr.out, (by repeat (first | (with_reducible exact Below.refl _ _) | ((with_reducible refine alloc_ ?_ ?_); (focus (first | exact Nat.le_refl _ | (simp; done) | (simp; omega) | omega))) | ((with_reducible refine set_ ?_ ?_); (focus (first | exact Nat.le_refl _ | (simp; done) | (simp; omega) | omega))) | (with_reducible refine Below.drew ?_) | ((with_reducible refine after_ ?_ (by assumption) ?_); (rotate_left; (focus (first | exact Nat.le_refl _ | (simp; done) | (simp; omega) | omega))))))⟩

theorem specTakeOut_no4 (a b c x m : Int) (w : World) (h1 : isBat a b c = true) (h2 : inR x 0 c = true) (h3 : inR m 0 10000 = true) (h4 : b < energy x m) : Calls Try.prog 18 #[.agg #[.int .i64 a, .int .i64 b, .int .i64 c], .int .i64 x, .int .i64 m] w fun e w' =>
    e = .returned (.tuple #[.agg #[.int .i64 (takeOut a b c x m).1, .int .i64 (takeOut a b c x m).2.1, .int .i64 (takeOut a b c x m).2.2.1], .bool (takeOut a b c x m).2.2.2]) ∧ Below w.heap.size w w' := by
  have Hr := Lib.hid (takeOut_no (show (isBat a b c && inR x 0 c && inR m 0 10000 && decide (energy x m ≤ b)) = false by simp [h4]))
  obtain ⟨⟨q1, q2⟩, ⟨q3, q4⟩, ⟨q5, q6⟩⟩ := isBat_true.1 h1
  obtain ⟨g1, g2⟩ := inR_true.1 h2
  obtain ⟨g3, g4⟩ := inR_true.1 h3
  go_enter Try.func18, Try.ntmps18
  go_wp2_with fail
  refine wp_region_mem (by kernel_rfl) (by kernel_rfl) ?_
  repeat (go_big_quiet_step (first | (go_at_call 31; exact mem_bool (l18Battery_c _ _ _ _) h1) | (go_at_call 33; exact same_bool (l1In_c _ _ _ _) h2) | (go_at_call 36; exact same_bool (l18Minutes_c _ _) h3) | (go_at_call 37; exact mem_same (l18Energy_c _ _ _ g1 (by omega) g3 g4))))
  refine wpQuiet_nil ?_
  intro _ hw'
  obtain ⟨⟨w1, hb1⟩, hw''⟩ := hw'
  obtain rfl := hw''.symm
  obtain ⟨hc1, hf1, hz1⟩ := bcell hb1
  try simp [Nat.add_one_le_iff] at hz1
  go_wp2_with fail
  exact bodyPost_ret (v := .tuple #[.agg #[.int .i64 0, .int .i64 0, .int .i64 0], .bool false]) (by simp [results, Try.results18, go_sem, *]) rfl ⟨rets' Hr.out, (by repeat (first | (with_reducible exact Below.refl _ _) | ((with_reducible refine alloc_ ?_ ?_); (focus (first | exact Nat.le_refl _ | (simp; done) | (simp; omega) | omega))) | ((with_reducible refine set_ ?_ ?_); (focus (first | exact Nat.le_refl _ | (simp; done) | (simp; omega) | omega))) | (with_reducible refine Below.drew ?_) | ((with_reducible refine after_ ?_ (by assumption) ?_); (rotate_left; (focus (first | exact Nat.le_refl _ | (simp; done) | (simp; omega) | omega))))))⟩

set_option maxHeartbeats 1000000 in
theorem specTakeOut_yes (a b c x m : Int) (w : World) (h1 : isBat a b c = true) (h2 : inR x 0 c = true) (h3 : inR m 0 10000 = true) (h4 : energy x m ≤ b) (h5 : 0 ≤ energy x m) : Calls Try.prog 18 #[.agg #[.int .i64 a, .int .i64 b, .int .i64 c], .int .i64 x, .int .i64 m] w fun e w' =>
    e = .returned (.tuple #[.agg #[.int .i64 (takeOut a b c x m).1, .int .i64 (takeOut a b c x m).2.1, .int .i64 (takeOut a b c x m).2.2.1], .bool (takeOut a b c x m).2.2.2]) ∧ Below w.heap.size w w' := by
  have Hr := Lib.hid (show takeOut a b c x m = (a, b - energy x m, c, true) by simp [takeOut, h1, h2, h3, h4])
  obtain ⟨⟨q1, q2⟩, ⟨q3, q4⟩, ⟨q5, q6⟩⟩ := isBat_true.1 h1
  obtain ⟨g1, g2⟩ := inR_true.1 h2
  obtain ⟨g3, g4⟩ := inR_true.1 h3
  go_enter Try.func18, Try.ntmps18
  go_wp2_with fail
  refine wp_region_mem (by kernel_rfl) (by kernel_rfl) ?_
  repeat (go_big_quiet_step (first | (go_at_call 31; exact mem_bool (l18Battery_c _ _ _ _) h1) | (go_at_call 33; exact same_bool (l1In_c _ _ _ _) h2) | (go_at_call 36; exact same_bool (l18Minutes_c _ _) h3) | (go_at_call 37; exact mem_same (l18Energy_c _ _ _ g1 (by omega) g3 g4))))
  refine wpQuiet_nil ?_
  intro _ hw'
  obtain ⟨⟨w1, hb1⟩, hw''⟩ := hw'
  obtain rfl := hw''.symm
  obtain ⟨hc1, hf1, hz1⟩ := bcell hb1
  try simp [Nat.add_one_le_iff] at hz1
  go_wp2_with fail
  go_region_with (first | (go_at_call 37; refine (l18Energy_c _ _ _ g1 (by omega) g3 g4).mono ?_; rintro e w' ⟨rfl, rfl⟩))
  all_goals
    go_wp2_with fail
    exact bodyPost_ret (v := .tuple #[.agg #[.int .i64 a, .int .i64 (b - energy x m), .int .i64 c], .bool true]) (by simp [results, Try.results18, go_sem, *]) rfl ⟨rets' Hr.out, (by repeat (first | (with_reducible exact Below.refl _ _) | ((with_reducible refine alloc_ ?_ ?_); (focus (first | exact Nat.le_refl _ | (simp; done) | (simp; omega) | omega))) | ((with_reducible refine set_ ?_ ?_); (focus (first | exact Nat.le_refl _ | (simp; done) | (simp; omega) | omega))) | (with_reducible refine Below.drew ?_) | ((with_reducible refine after_ ?_ (by assumption) ?_); (rotate_left; (focus (first | exact Nat.le_refl _ | (simp; done) | (simp; omega) | omega))))))⟩

theorem specTakeOut_c (a b c x m : Int) (w : World)  : Calls Try.prog 18 #[.agg #[.int .i64 a, .int .i64 b, .int .i64 c], .int .i64 x, .int .i64 m] w fun e w' =>
    e = .returned (.tuple #[.agg #[.int .i64 (takeOut a b c x m).1, .int .i64 (takeOut a b c x m).2.1, .int .i64 (takeOut a b c x m).2.2.1], .bool (takeOut a b c x m).2.2.2]) ∧ Below w.heap.size w w' := by
  rcases h1 : isBat a b c with _ | _
  · exact specTakeOut_no1 a b c x m w h1
  rcases h2 : inR x 0 c with _ | _
  · exact specTakeOut_no2 a b c x m w h1 h2
  rcases h3 : inR m 0 10000 with _ | _
  · exact specTakeOut_no3 a b c x m w h1 h2 h3
  by_cases h4 : energy x m ≤ b
  · have h5 : 0 ≤ energy x m := by
      have := mul_bd (inR_true.1 h2).1 (by have := (inR_true.1 h2).2; have := (isBat_true.1 h1).2.2.2; omega) (inR_true.1 h3).1 (inR_true.1 h3).2
      unfold energy; omega
    exact specTakeOut_yes a b c x m w h1 h2 h3 h4 h5
  · exact specTakeOut_no4 a b c x m w h1 h2 h3 (by omega)

theorem takenOut_no (a b c x m : Int) (w : World) (h1 : isMov a b c x m = true) (h : takeOut a b c x m = (0, 0, 0, false)) : Calls Try.prog 38 #[.agg #[.int .i64 a, .int .i64 b, .int .i64 c], .int .i64 x, .int .i64 m] w fun e w' =>
    e = .returned (.tuple #[.agg #[.int .i64 (takeOut a b c x m).1, .int .i64 (takeOut a b c x m).2.1, .int .i64 (takeOut a b c x m).2.2.1], .bool (takeOut a b c x m).2.2.2]) ∧ Below w.heap.size w w' := by
  have Hr := Lib.hid h
  clear h
  have hk : c < x ∨ (x ≤ c ∧ b < (x * m + 59) / 60) := by
    simp only [isMov, Bool.and_eq_true] at h1
    obtain ⟨⟨k1, k2⟩, k3⟩ := h1
    have k4 := inR_true.1 k2
    by_cases k5 : c < x
    · exact .inl k5
    · refine .inr ⟨by omega, ?_⟩
      by_cases k6 : b < (x * m + 59) / 60
      · exact k6
      · have k7 : inR x 0 c = true := inR_true.2 ⟨k4.1, by omega⟩
        have k8 : energy x m ≤ b := by unfold energy; omega
        have h := Hr.out
        simp [takeOut, k1, k7, k3, k8] at h
  obtain ⟨g1, g2, g3, g4⟩ : 0 ≤ x ∧ x ≤ 1000000 ∧ 0 ≤ m ∧ m ≤ 10000 := by simp [isMov, inR] at h1; omega
  obtain ⟨b1, b2⟩ := mul_bd g1 g2 g3 g4
  clear h1
  rcases hk with hk | ⟨hk, hk2⟩
  · go_enter Try.func38, Try.ntmps38
    go_wp2_with fail
    exact bodyPost_ret (v := .tuple #[.agg #[.int .i64 0, .int .i64 0, .int .i64 0], .bool false]) (by simp [results, Try.results38, go_sem, *]) rfl ⟨rets' Hr.out, (by repeat (first | (with_reducible exact Below.refl _ _) | ((with_reducible refine alloc_ ?_ ?_); (focus (first | exact Nat.le_refl _ | (simp; done) | (simp; omega) | omega))) | ((with_reducible refine set_ ?_ ?_); (focus (first | exact Nat.le_refl _ | (simp; done) | (simp; omega) | omega))) | (with_reducible refine Below.drew ?_) | ((with_reducible refine after_ ?_ (by assumption) ?_); (rotate_left; (focus (first | exact Nat.le_refl _ | (simp; done) | (simp; omega) | omega))))))⟩
  · go_enter Try.func38, Try.ntmps38
    go_wp2_with fail
    exact bodyPost_ret (v := .tuple #[.agg #[.int .i64 0, .int .i64 0, .int .i64 0], .bool false]) (by simp [results, Try.results38, go_sem, *]) rfl ⟨rets' Hr.out, (by repeat (first | (with_reducible exact Below.refl _ _) | ((with_reducible refine alloc_ ?_ ?_); (focus (first | exact Nat.le_refl _ | (simp; done) | (simp; omega) | omega))) | ((with_reducible refine set_ ?_ ?_); (focus (first | exact Nat.le_refl _ | (simp; done) | (simp; omega) | omega))) | (with_reducible refine Below.drew ?_) | ((with_reducible refine after_ ?_ (by assumption) ?_); (rotate_left; (focus (first | exact Nat.le_refl _ | (simp; done) | (simp; omega) | omega))))))⟩
theorem takenOut_yes (a b c x m : Int) (w : World) (h1 : isBat a b c = true) (h2 : inR x 0 c = true) (h3 : inR m 0 10000 = true) (h4 : energy x m ≤ b) : Calls Try.prog 38 #[.agg #[.int .i64 a, .int .i64 b, .int .i64 c], .int .i64 x, .int .i64 m] w fun e w' =>
    e = .returned (.tuple #[.agg #[.int .i64 (takeOut a b c x m).1, .int .i64 (takeOut a b c x m).2.1, .int .i64 (takeOut a b c x m).2.2.1], .bool (takeOut a b c x m).2.2.2]) ∧ Below w.heap.size w w' := by
  have Hr := Lib.hid (show takeOut a b c x m = (a, b - (x * m + 59) / 60, c, true) by simp only [takeOut, h1, h2, h3, h4, decide_true, Bool.and_self, if_true]; rfl)
  obtain ⟨⟨q1, q2⟩, ⟨q3, q4⟩, ⟨q5, q6⟩⟩ := isBat_true.1 h1
  obtain ⟨g1, g2⟩ := inR_true.1 h2
  obtain ⟨g3, g4⟩ := inR_true.1 h3
  obtain ⟨b1, b2⟩ := mul_bd g1 (by omega) g3 g4
  unfold energy at h4
  clear h1 h2 h3
  go_enter Try.func38, Try.ntmps38
  go_wp2_with fail
  exact bodyPost_ret (v := .tuple #[.agg #[.int .i64 a, .int .i64 (b - (x * m + 59) / 60), .int .i64 c], .bool true]) (by simp [results, Try.results38, go_sem, *]) rfl ⟨rets' Hr.out, (by repeat (first | (with_reducible exact Below.refl _ _) | ((with_reducible refine alloc_ ?_ ?_); (focus (first | exact Nat.le_refl _ | (simp; done) | (simp; omega) | omega))) | ((with_reducible refine set_ ?_ ?_); (focus (first | exact Nat.le_refl _ | (simp; done) | (simp; omega) | omega))) | (with_reducible refine Below.drew ?_) | ((with_reducible refine after_ ?_ (by assumption) ?_); (rotate_left; (focus (first | exact Nat.le_refl _ | (simp; done) | (simp; omega) | omega))))))⟩
theorem takenOut_c (a b c x m : Int) (w : World) (h : isMov a b c x m = true) : Calls Try.prog 38 #[.agg #[.int .i64 a, .int .i64 b, .int .i64 c], .int .i64 x, .int .i64 m] w fun e w' =>
    e = .returned (.tuple #[.agg #[.int .i64 (takeOut a b c x m).1, .int .i64 (takeOut a b c x m).2.1, .int .i64 (takeOut a b c x m).2.2.1], .bool (takeOut a b c x m).2.2.2]) ∧ Below w.heap.size w w' := by
  rcases hk : (isBat a b c && inR x 0 c && inR m 0 10000 && decide (energy x m ≤ b)) with _ | _
  · exact takenOut_no a b c x m w h (takeOut_no hk)
  · simp only [Bool.and_eq_true, decide_eq_true_eq] at hk
    exact takenOut_yes a b c x m w hk.1.1.1 hk.1.1.2 hk.1.2 hk.2
theorem implTakeOut_c (a b c x m : Int) (w : World)  : Calls Try.prog 19 #[.agg #[.int .i64 a, .int .i64 b, .int .i64 c], .int .i64 x, .int .i64 m] w fun e w' =>
    e = .returned (.tuple #[.agg #[.int .i64 (takeOut a b c x m).1, .int .i64 (takeOut a b c x m).2.1, .int .i64 (takeOut a b c x m).2.2.1], .bool (takeOut a b c x m).2.2.2]) ∧ Below w.heap.size w w' := by
  rcases h1 : isMov a b c x m with _ | _
  · have Hr := Lib.hid (takeOut_no (show (isBat a b c && inR x 0 c && inR m 0 10000 && decide (energy x m ≤ b)) = false by
      rcases hb : isBat a b c with _ | _
      · rfl
      have := isBat_true.1 hb
      simp [isMov, hb, inR] at h1
      simp [inR]; omega))
    go_enter Try.func19, Try.ntmps19
    go_wp2_with (first | (go_at_call 35; refine (isMoved_c _ _ _ _ _ _).mono ?_; rintro e w1 ⟨rfl, hb1⟩; obtain ⟨hc1, hf1, hz1⟩ := bcell hb1; try simp [Nat.add_one_le_iff] at hz1))
    exact bodyPost_ret (v := .tuple #[.agg #[.int .i64 0, .int .i64 0, .int .i64 0], .bool false]) (by simp [results, Try.results19, go_sem, *]) rfl ⟨rets' Hr.out, (by repeat (first | (with_reducible exact Below.refl _ _) | ((with_reducible refine alloc_ ?_ ?_); (focus (first | exact Nat.le_refl _ | (simp; done) | (simp; omega) | omega))) | ((with_reducible refine set_ ?_ ?_); (focus (first | exact Nat.le_refl _ | (simp; done) | (simp; omega) | omega))) | (with_reducible refine Below.drew ?_) | ((with_reducible refine after_ ?_ (by assumption) ?_); (rotate_left; (focus (first | exact Nat.le_refl _ | (simp; done) | (simp; omega) | omega))))))⟩
  · go_enter Try.func19, Try.ntmps19
    go_wp2_with fail
    refine (isMoved_c _ _ _ _ _ _).mono ?_
    rintro e w1 ⟨rfl, hb1⟩
    obtain ⟨hc1, hf1, hz1⟩ := bcell hb1
    simp [Nat.add_one_le_iff] at hz1
    go_wp2_with fail
    refine (takenOut_c _ _ _ _ _ _ h1).mono ?_
    rintro e w2 ⟨rfl, hb2⟩
    have c2 := fun o => hb2.cell (p := ⟨w.heap.size + 1, o, none⟩) hz1
    have f2 := fun o => hb2.frozen (p := ⟨w.heap.size + 1, o, none⟩) hz1
    have hz2 := hb2.size
    go_wp2_with fail

    exact bodyPost_ret (v := .tuple #[.agg #[.int .i64 (takeOut a b c x m).1, .int .i64 (takeOut a b c x m).2.1, .int .i64 (takeOut a b c x m).2.2.1], .bool (takeOut a b c x m).2.2.2]) (by simp [results, Try.results19, go_sem, *]) rfl ⟨rfl, (by repeat (first | (with_reducible exact Below.refl _ _) | ((with_reducible refine alloc_ ?_ ?_); (focus (first | exact Nat.le_refl _ | (simp; done) | (simp; omega) | omega))) | ((with_reducible refine set_ ?_ ?_); (focus (first | exact Nat.le_refl _ | (simp; done) | (simp; omega) | omega))) | (with_reducible refine Below.drew ?_) | ((with_reducible refine after_ ?_ (by assumption) ?_); (rotate_left; (focus (first | exact Nat.le_refl _ | (simp; done) | (simp; omega) | omega))))))⟩
end Go.Proofs.Ytjlgembpaalijaa
