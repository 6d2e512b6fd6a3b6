/- PutIn of the program and of the reference return one Lean function for every battery, every power and every time; no conditions. -/
import Derived.Test.YtjlgembpaalijaaMinutes
namespace Go.Proofs.Ytjlgembpaalijaa
open Go.RowKit Go.Joins Go.ChangeShapes Go.WideShapes Go.ChangeAt

theorem l18Minutes_c (m : Int) (w : World) : Calls Try.prog 36 #[.int .i64 m] w fun e w' => e = .returned (.bool (inR m 0 10000)) ∧ w = w' := by
  go_enter Try.func36, Try.ntmps36
  go_wp2_with (go_at_call 33; refine (l1In_c _ _ _ _).mono ?_; rintro e w' ⟨rfl, rfl⟩)
  go_ret
  exact ⟨rfl, rfl⟩

theorem eqBattery_same (a b c : Int) (w : World) : Calls Try.prog 17 #[.agg #[.int .i64 a, .int .i64 b, .int .i64 c], .agg #[.int .i64 a, .int .i64 b, .int .i64 c]] w fun e w' => e = .returned (.bool true) ∧ Below w.heap.size w w' := by
  go_enter Try.func17, Try.ntmps17
  go_wp2
  go_ret
  exact ⟨rfl, (by repeat (first | (with_reducible exact Below.refl _ _) | ((with_reducible refine alloc_ ?_ ?_); (focus (first | exact Nat.le_refl _ | (simp; done) | (simp; omega) | omega))) | ((with_reducible refine set_ ?_ ?_); (focus (first | exact Nat.le_refl _ | (simp; done) | (simp; omega) | omega))) | (with_reducible refine Below.drew ?_) | ((with_reducible refine after_ ?_ (by assumption) ?_); (rotate_left; (focus (first | exact Nat.le_refl _ | (simp; done) | (simp; omega) | omega))))))⟩

/-- The battery behind a call, and whether the call is possible. -/
def putIn (a b c x m : Int) : Int × Int × Int × Bool := if isBat a b c && inR x 0 c && inR m 0 10000 then (a, min (b + x * m / 60) a, c, true) else (0, 0, 0, false)
theorem rets {p : Int × Int × Int × Bool} {a b c : Int} {ok : Bool} (h : p = (a, b, c, ok)) : Ending.returned (.tuple #[.agg #[.int .i64 a, .int .i64 b, .int .i64 c], .bool ok]) = .returned (.tuple #[.agg #[.int .i64 p.1, .int .i64 p.2.1, .int .i64 p.2.2.1], .bool p.2.2.2]) := by rw [h]
theorem mul_bd {x m : Int} (h1 : 0 ≤ x) (h2 : x ≤ 1000000) (h3 : 0 ≤ m) (h4 : m ≤ 10000) : 0 ≤ x * m ∧ x * m ≤ 10000000000 :=
  ⟨Int.mul_nonneg h1 h3, Int.le_trans (Int.mul_le_mul h2 h4 h3 (by omega)) (by omega)⟩

theorem specPutIn_c (a b c x m : Int) (w : World) : Calls Try.prog 15 #[.agg #[.int .i64 a, .int .i64 b, .int .i64 c], .int .i64 x, .int .i64 m] w fun e w' =>
    e = .returned (.tuple #[.agg #[.int .i64 (putIn a b c x m).1, .int .i64 (putIn a b c x m).2.1, .int .i64 (putIn a b c x m).2.2.1], .bool (putIn a b c x m).2.2.2]) ∧ Below w.heap.size w w' := by
  rcases h1 : isBat a b c with _ | _
  · have Hr := Lib.hid (show putIn a b c x m = (0, 0, 0, false) by simp [putIn, h1])
    have h3 : isMov a b c x m = false := by simp [isMov, h1]
    go_enter Try.func15, Try.ntmps15
    go_wp2_with (first | (go_at_call 33; refine (l1In_c _ _ _ _).mono ?_; rintro e w' ⟨rfl, rfl⟩) | (go_at_call 36; refine (l18Minutes_c _ _).mono ?_; rintro e w' ⟨rfl, rfl⟩) | (go_at_call 35; refine (isMoved_c _ _ _ _ _ _).mono ?_; rintro e w1 ⟨rfl, hb1⟩; obtain ⟨hc1, hf1, hz1⟩ := bcell hb1; try simp [Nat.add_one_le_iff] at hz1) | (go_at_call 31; refine (l18Battery_c _ _ _ _).mono ?_; rintro e w1 ⟨rfl, hb1⟩; obtain ⟨hc1, hf1, hz1⟩ := bcell hb1; try simp [Nat.add_one_le_iff] at hz1))
    exact bodyPost_ret (v := .tuple #[.agg #[.int .i64 0, .int .i64 0, .int .i64 0], .bool false]) (by simp [results, Try.results15, go_sem, *]) rfl ⟨rets Hr.out, (by repeat (first | (with_reducible exact Below.refl _ _) | ((with_reducible refine alloc_ ?_ ?_); (focus (first | exact Nat.le_refl _ | (simp; done) | (simp; omega) | omega))) | ((with_reducible refine set_ ?_ ?_); (focus (first | exact Nat.le_refl _ | (simp; done) | (simp; omega) | omega))) | (with_reducible refine Below.drew ?_) | ((with_reducible refine after_ ?_ (by assumption) ?_); (rotate_left; (focus (first | exact Nat.le_refl _ | (simp; done) | (simp; omega) | omega))))))⟩
  · obtain ⟨⟨q1, q2⟩, ⟨q3, q4⟩, ⟨q5, q6⟩⟩ := isBat_true.1 h1
    rcases h2 : inR x 0 c with _ | _
    · have Hr := Lib.hid (show putIn a b c x m = (0, 0, 0, false) by simp [putIn, h2])
      rcases h3 : isMov a b c x m with _ | _
      · go_enter Try.func15, Try.ntmps15
        go_wp2_with (first | (go_at_call 33; refine (l1In_c _ _ _ _).mono ?_; rintro e w' ⟨rfl, rfl⟩) | (go_at_call 36; refine (l18Minutes_c _ _).mono ?_; rintro e w' ⟨rfl, rfl⟩) | (go_at_call 35; refine (isMoved_c _ _ _ _ _ _).mono ?_; rintro e w1 ⟨rfl, hb1⟩; obtain ⟨hc1, hf1, hz1⟩ := bcell hb1; try simp [Nat.add_one_le_iff] at hz1) | (go_at_call 31; refine (l18Battery_c _ _ _ _).mono ?_; rintro e w1 ⟨rfl, hb1⟩; obtain ⟨hc1, hf1, hz1⟩ := bcell hb1; try simp [Nat.add_one_le_iff] at hz1))
        exact bodyPost_ret (v := .tuple #[.agg #[.int .i64 0, .int .i64 0, .int .i64 0], .bool false]) (by simp [results, Try.results15, go_sem, *]) rfl ⟨rets Hr.out, (by repeat (first | (with_reducible exact Below.refl _ _) | ((with_reducible refine alloc_ ?_ ?_); (focus (first | exact Nat.le_refl _ | (simp; done) | (simp; omega) | omega))) | ((with_reducible refine set_ ?_ ?_); (focus (first | exact Nat.le_refl _ | (simp; done) | (simp; omega) | omega))) | (with_reducible refine Below.drew ?_) | ((with_reducible refine after_ ?_ (by assumption) ?_); (rotate_left; (focus (first | exact Nat.le_refl _ | (simp; done) | (simp; omega) | omega))))))⟩
      · have h5 : c < x := by
          have h4 := inR_false.1 h2
          simp [isMov, inR] at h3
          omega
        go_enter Try.func15, Try.ntmps15
        go_wp2_with (first | (go_at_call 33; refine (l1In_c _ _ _ _).mono ?_; rintro e w' ⟨rfl, rfl⟩) | (go_at_call 36; refine (l18Minutes_c _ _).mono ?_; rintro e w' ⟨rfl, rfl⟩) | (go_at_call 35; refine (isMoved_c _ _ _ _ _ _).mono ?_; rintro e w1 ⟨rfl, hb1⟩; obtain ⟨hc1, hf1, hz1⟩ := bcell hb1; try simp [Nat.add_one_le_iff] at hz1) | (go_at_call 31; refine (l18Battery_c _ _ _ _).mono ?_; rintro e w1 ⟨rfl, hb1⟩; obtain ⟨hc1, hf1, hz1⟩ := bcell hb1; try simp [Nat.add_one_le_iff] at hz1))
        exact bodyPost_ret (v := .tuple #[.agg #[.int .i64 0, .int .i64 0, .int .i64 0], .bool false]) (by simp [results, Try.results15, go_sem, *]) rfl ⟨rets Hr.out, (by repeat (first | (with_reducible exact Below.refl _ _) | ((with_reducible refine alloc_ ?_ ?_); (focus (first | exact Nat.le_refl _ | (simp; done) | (simp; omega) | omega))) | ((with_reducible refine set_ ?_ ?_); (focus (first | exact Nat.le_refl _ | (simp; done) | (simp; omega) | omega))) | (with_reducible refine Below.drew ?_) | ((with_reducible refine after_ ?_ (by assumption) ?_); (rotate_left; (focus (first | exact Nat.le_refl _ | (simp; done) | (simp; omega) | omega))))))⟩
    · obtain ⟨h4, h5⟩ := inR_true.1 h2
      rcases h6 : inR m 0 10000 with _ | _
      · have Hr := Lib.hid (show putIn a b c x m = (0, 0, 0, false) by simp [putIn, h6])
        have h3 : isMov a b c x m = false := by simp [isMov, h6]
        go_enter Try.func15, Try.ntmps15
        go_wp2_with (first | (go_at_call 33; refine (l1In_c _ _ _ _).mono ?_; rintro e w' ⟨rfl, rfl⟩) | (go_at_call 36; refine (l18Minutes_c _ _).mono ?_; rintro e w' ⟨rfl, rfl⟩) | (go_at_call 35; refine (isMoved_c _ _ _ _ _ _).mono ?_; rintro e w1 ⟨rfl, hb1⟩; obtain ⟨hc1, hf1, hz1⟩ := bcell hb1; try simp [Nat.add_one_le_iff] at hz1) | (go_at_call 31; refine (l18Battery_c _ _ _ _).mono ?_; rintro e w1 ⟨rfl, hb1⟩; obtain ⟨hc1, hf1, hz1⟩ := bcell hb1; try simp [Nat.add_one_le_iff] at hz1))
        exact bodyPost_ret (v := .tuple #[.agg #[.int .i64 0, .int .i64 0, .int .i64 0], .bool false]) (by simp [results, Try.results15, go_sem, *]) rfl ⟨rets Hr.out, (by repeat (first | (with_reducible exact Below.refl _ _) | ((with_reducible refine alloc_ ?_ ?_); (focus (first | exact Nat.le_refl _ | (simp; done) | (simp; omega) | omega))) | ((with_reducible refine set_ ?_ ?_); (focus (first | exact Nat.le_refl _ | (simp; done) | (simp; omega) | omega))) | (with_reducible refine Below.drew ?_) | ((with_reducible refine after_ ?_ (by assumption) ?_); (rotate_left; (focus (first | exact Nat.le_refl _ | (simp; done) | (simp; omega) | omega))))))⟩
      · obtain ⟨h7, h8⟩ := inR_true.1 h6
        have Hr := Lib.hid (show putIn a b c x m = (a, min a (b + x * m / 60), c, true) by simp [putIn, h1, h2, h6]; try omega)
        have h3 : isMov a b c x m = true := by simp [isMov, h1, inR]; omega
        obtain ⟨b1, b2⟩ := mul_bd h4 (by omega) h7 h8
        go_enter Try.func15, Try.ntmps15
        go_wp2_with (first | (go_at_call 33; refine (l1In_c _ _ _ _).mono ?_; rintro e w' ⟨rfl, rfl⟩) | (go_at_call 34; refine (l1Least_c _ _ _).mono ?_; rintro e w' ⟨rfl, rfl⟩) | (go_at_call 36; refine (l18Minutes_c _ _).mono ?_; rintro e w' ⟨rfl, rfl⟩) | (go_at_call 35; refine (isMoved_c _ _ _ _ _ _).mono ?_; rintro e w1 ⟨rfl, hb1⟩; obtain ⟨hc1, hf1, hz1⟩ := bcell hb1; try simp [Nat.add_one_le_iff] at hz1) | (go_at_call 31; refine (l18Battery_c _ _ _ _).mono ?_; rintro e w1 ⟨rfl, hb1⟩; obtain ⟨hc1, hf1, hz1⟩ := bcell hb1; try simp [Nat.add_one_le_iff] at hz1))

        exact bodyPost_ret (v := .tuple #[.agg #[.int .i64 a, .int .i64 (min a (b + x * m / 60)), .int .i64 c], .bool true]) (by simp [results, Try.results15, go_sem, *]) rfl ⟨rets Hr.out, (by repeat (first | (with_reducible exact Below.refl _ _) | ((with_reducible refine alloc_ ?_ ?_); (focus (first | exact Nat.le_refl _ | (simp; done) | (simp; omega) | omega))) | ((with_reducible refine set_ ?_ ?_); (focus (first | exact Nat.le_refl _ | (simp; done) | (simp; omega) | omega))) | (with_reducible refine Below.drew ?_) | ((with_reducible refine after_ ?_ (by assumption) ?_); (rotate_left; (focus (first | exact Nat.le_refl _ | (simp; done) | (simp; omega) | omega))))))⟩
theorem implPutIn_c (a b c x m : Int) (w : World) : Calls Try.prog 16 #[.agg #[.int .i64 a, .int .i64 b, .int .i64 c], .int .i64 x, .int .i64 m] w fun e w' =>
    e = .returned (.tuple #[.agg #[.int .i64 (putIn a b c x m).1, .int .i64 (putIn a b c x m).2.1, .int .i64 (putIn a b c x m).2.2.1], .bool (putIn a b c x m).2.2.2]) ∧ Below w.heap.size w w' := by
  rcases h1 : isBat a b c with _ | _
  · have Hr := Lib.hid (show putIn a b c x m = (0, 0, 0, false) by simp [putIn, h1])
    have h3 : isMov a b c x m = false := by simp [isMov, h1]
    go_enter Try.func16, Try.ntmps16
    go_wp2_with (first | (go_at_call 33; refine (l1In_c _ _ _ _).mono ?_; rintro e w' ⟨rfl, rfl⟩) | (go_at_call 36; refine (l18Minutes_c _ _).mono ?_; rintro e w' ⟨rfl, rfl⟩) | (go_at_call 35; refine (isMoved_c _ _ _ _ _ _).mono ?_; rintro e w1 ⟨rfl, hb1⟩; obtain ⟨hc1, hf1, hz1⟩ := bcell hb1; try simp [Nat.add_one_le_iff] at hz1) | (go_at_call 31; refine (l18Battery_c _ _ _ _).mono ?_; rintro e w1 ⟨rfl, hb1⟩; obtain ⟨hc1, hf1, hz1⟩ := bcell hb1; try simp [Nat.add_one_le_iff] at hz1))
    exact bodyPost_ret (v := .tuple #[.agg #[.int .i64 0, .int .i64 0, .int .i64 0], .bool false]) (by simp [results, Try.results16, go_sem, *]) rfl ⟨rets Hr.out, (by repeat (first | (with_reducible exact Below.refl _ _) | ((with_reducible refine alloc_ ?_ ?_); (focus (first | exact Nat.le_refl _ | (simp; done) | (simp; omega) | omega))) | ((with_reducible refine set_ ?_ ?_); (focus (first | exact Nat.le_refl _ | (simp; done) | (simp; omega) | omega))) | (with_reducible refine Below.drew ?_) | ((with_reducible refine after_ ?_ (by assumption) ?_); (rotate_left; (focus (first | exact Nat.le_refl _ | (simp; done) | (simp; omega) | omega))))))⟩
  · obtain ⟨⟨q1, q2⟩, ⟨q3, q4⟩, ⟨q5, q6⟩⟩ := isBat_true.1 h1
    rcases h2 : inR x 0 c with _ | _
    · have Hr := Lib.hid (show putIn a b c x m = (0, 0, 0, false) by simp [putIn, h2])
      rcases h3 : isMov a b c x m with _ | _
      · go_enter Try.func16, Try.ntmps16
        go_wp2_with (first | (go_at_call 33; refine (l1In_c _ _ _ _).mono ?_; rintro e w' ⟨rfl, rfl⟩) | (go_at_call 36; refine (l18Minutes_c _ _).mono ?_; rintro e w' ⟨rfl, rfl⟩) | (go_at_call 35; refine (isMoved_c _ _ _ _ _ _).mono ?_; rintro e w1 ⟨rfl, hb1⟩; obtain ⟨hc1, hf1, hz1⟩ := bcell hb1; try simp [Nat.add_one_le_iff] at hz1) | (go_at_call 31; refine (l18Battery_c _ _ _ _).mono ?_; rintro e w1 ⟨rfl, hb1⟩; obtain ⟨hc1, hf1, hz1⟩ := bcell hb1; try simp [Nat.add_one_le_iff] at hz1))
        exact bodyPost_ret (v := .tuple #[.agg #[.int .i64 0, .int .i64 0, .int .i64 0], .bool false]) (by simp [results, Try.results16, go_sem, *]) rfl ⟨rets Hr.out, (by repeat (first | (with_reducible exact Below.refl _ _) | ((with_reducible refine alloc_ ?_ ?_); (focus (first | exact Nat.le_refl _ | (simp; done) | (simp; omega) | omega))) | ((with_reducible refine set_ ?_ ?_); (focus (first | exact Nat.le_refl _ | (simp; done) | (simp; omega) | omega))) | (with_reducible refine Below.drew ?_) | ((with_reducible refine after_ ?_ (by assumption) ?_); (rotate_left; (focus (first | exact Nat.le_refl _ | (simp; done) | (simp; omega) | omega))))))⟩
      · have h5 : c < x := by
          have h4 := inR_false.1 h2
          simp [isMov, inR] at h3
          omega
        go_enter Try.func16, Try.ntmps16
        go_wp2_with (first | (go_at_call 33; refine (l1In_c _ _ _ _).mono ?_; rintro e w' ⟨rfl, rfl⟩) | (go_at_call 36; refine (l18Minutes_c _ _).mono ?_; rintro e w' ⟨rfl, rfl⟩) | (go_at_call 35; refine (isMoved_c _ _ _ _ _ _).mono ?_; rintro e w1 ⟨rfl, hb1⟩; obtain ⟨hc1, hf1, hz1⟩ := bcell hb1; try simp [Nat.add_one_le_iff] at hz1) | (go_at_call 31; refine (l18Battery_c _ _ _ _).mono ?_; rintro e w1 ⟨rfl, hb1⟩; obtain ⟨hc1, hf1, hz1⟩ := bcell hb1; try simp [Nat.add_one_le_iff] at hz1))
        exact bodyPost_ret (v := .tuple #[.agg #[.int .i64 0, .int .i64 0, .int .i64 0], .bool false]) (by simp [results, Try.results16, go_sem, *]) rfl ⟨rets Hr.out, (by repeat (first | (with_reducible exact Below.refl _ _) | ((with_reducible refine alloc_ ?_ ?_); (focus (first | exact Nat.le_refl _ | (simp; done) | (simp; omega) | omega))) | ((with_reducible refine set_ ?_ ?_); (focus (first | exact Nat.le_refl _ | (simp; done) | (simp; omega) | omega))) | (with_reducible refine Below.drew ?_) | ((with_reducible refine after_ ?_ (by assumption) ?_); (rotate_left; (focus (first | exact Nat.le_refl _ | (simp; done) | (simp; omega) | omega))))))⟩
    · obtain ⟨h4, h5⟩ := inR_true.1 h2
      rcases h6 : inR m 0 10000 with _ | _
      · have Hr := Lib.hid (show putIn a b c x m = (0, 0, 0, false) by simp [putIn, h6])
        have h3 : isMov a b c x m = false := by simp [isMov, h6]
        go_enter Try.func16, Try.ntmps16
        go_wp2_with (first | (go_at_call 33; refine (l1In_c _ _ _ _).mono ?_; rintro e w' ⟨rfl, rfl⟩) | (go_at_call 36; refine (l18Minutes_c _ _).mono ?_; rintro e w' ⟨rfl, rfl⟩) | (go_at_call 35; refine (isMoved_c _ _ _ _ _ _).mono ?_; rintro e w1 ⟨rfl, hb1⟩; obtain ⟨hc1, hf1, hz1⟩ := bcell hb1; try simp [Nat.add_one_le_iff] at hz1) | (go_at_call 31; refine (l18Battery_c _ _ _ _).mono ?_; rintro e w1 ⟨rfl, hb1⟩; obtain ⟨hc1, hf1, hz1⟩ := bcell hb1; try simp [Nat.add_one_le_iff] at hz1))
        exact bodyPost_ret (v := .tuple #[.agg #[.int .i64 0, .int .i64 0, .int .i64 0], .bool false]) (by simp [results, Try.results16, go_sem, *]) rfl ⟨rets Hr.out, (by repeat (first | (with_reducible exact Below.refl _ _) | ((with_reducible refine alloc_ ?_ ?_); (focus (first | exact Nat.le_refl _ | (simp; done) | (simp; omega) | omega))) | ((with_reducible refine set_ ?_ ?_); (focus (first | exact Nat.le_refl _ | (simp; done) | (simp; omega) | omega))) | (with_reducible refine Below.drew ?_) | ((with_reducible refine after_ ?_ (by assumption) ?_); (rotate_left; (focus (first | exact Nat.le_refl _ | (simp; done) | (simp; omega) | omega))))))⟩
      · obtain ⟨h7, h8⟩ := inR_true.1 h6
        have Hr := Lib.hid (show putIn a b c x m = (a, min (b + x * m / 60) a, c, true) by simp [putIn, h1, h2, h6]; try omega)
        have h3 : isMov a b c x m = true := by simp [isMov, h1, inR]; omega
        obtain ⟨b1, b2⟩ := mul_bd h4 (by omega) h7 h8
        go_enter Try.func16, Try.ntmps16
        go_wp2_with (first | (go_at_call 33; refine (l1In_c _ _ _ _).mono ?_; rintro e w' ⟨rfl, rfl⟩) | (go_at_call 34; refine (l1Least_c _ _ _).mono ?_; rintro e w' ⟨rfl, rfl⟩) | (go_at_call 36; refine (l18Minutes_c _ _).mono ?_; rintro e w' ⟨rfl, rfl⟩) | (go_at_call 35; refine (isMoved_c _ _ _ _ _ _).mono ?_; rintro e w1 ⟨rfl, hb1⟩; obtain ⟨hc1, hf1, hz1⟩ := bcell hb1; try simp [Nat.add_one_le_iff] at hz1) | (go_at_call 31; refine (l18Battery_c _ _ _ _).mono ?_; rintro e w1 ⟨rfl, hb1⟩; obtain ⟨hc1, hf1, hz1⟩ := bcell hb1; try simp [Nat.add_one_le_iff] at hz1))

        exact bodyPost_ret (v := .tuple #[.agg #[.int .i64 a, .int .i64 (min (b + x * m / 60) a), .int .i64 c], .bool true]) (by simp [results, Try.results16, go_sem, *]) rfl ⟨rets Hr.out, (by repeat (first | (with_reducible exact Below.refl _ _) | ((with_reducible refine alloc_ ?_ ?_); (focus (first | exact Nat.le_refl _ | (simp; done) | (simp; omega) | omega))) | ((with_reducible refine set_ ?_ ?_); (focus (first | exact Nat.le_refl _ | (simp; done) | (simp; omega) | omega))) | (with_reducible refine Below.drew ?_) | ((with_reducible refine after_ ?_ (by assumption) ?_); (rotate_left; (focus (first | exact Nat.le_refl _ | (simp; done) | (simp; omega) | omega))))))⟩

end Go.Proofs.Ytjlgembpaalijaa
