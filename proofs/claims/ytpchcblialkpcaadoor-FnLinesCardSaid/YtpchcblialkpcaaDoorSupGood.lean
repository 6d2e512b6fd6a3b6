/- IsLine of the program and of the reference return one Lean function: a line is good; no conditions but the length. -/
import Derived.Test.YtpchcblialkpcaaDoorSup
namespace Go.Proofs.YtpchcblialkpcaaDoor
open Go.RowKit

theorem goodU_no {l : List Sup} (h : ¬ (2 ≤ l.length ∧ l.length ≤ 8 ∧ (nth l 0).a = 0 ∧ (nth l 0).s = true ∧ (endU l).s = true ∧ ∀ i, i < l.length → (okU (nth l i) && prevU l i) = true)) : goodU l = false := by
  rcases e : goodU l with _ | _
  · rfl
  · refine absurd ?_ h
    simp only [goodU, Bool.and_eq_true, decide_eq_true_eq, allTo_true] at e
    obtain ⟨⟨⟨⟨⟨h1, h2⟩, h3⟩, h4⟩, h5⟩, h6⟩ := e
    exact ⟨h1, h2, h3, h4, h5, fun i hi => by simpa using h6 i hi⟩
theorem goodU_yes {l : List Sup} (h1 : 2 ≤ l.length) (h2 : l.length ≤ 8) (h3 : (nth l 0).a = 0) (h4 : (nth l 0).s = true) (h5 : (endU l).s = true) (h6 : ∀ i, i < l.length → (okU (nth l i) && prevU l i) = true) : goodU l = true := by
  simp only [goodU, Bool.and_eq_true, decide_eq_true_eq, allTo_true]
  exact ⟨⟨⟨⟨⟨h1, h2⟩, h3⟩, h4⟩, h5⟩, fun i hi => by simpa using h6 i hi⟩
set_option maxHeartbeats 2000000 in
theorem IsLine_c (l : List Sup) (A : Option Addr) (cap : Nat) (w : World) (hl : l.length ≤ 1048576) (hr : Rd w w.heap.size 3 Sup.cells A l) :
    Calls Tryd.prog 9 #[.slice A l.length cap] w fun e w' => e = .returned (.bool (goodU l)) ∧ Below w.heap.size w w' := by
  by_cases g1 : 2 ≤ l.length
  case neg =>
    have H := Lib.hid (goodU_no (l := l) (fun q => g1 q.1))
    have n1 : (l.length : Int) < 2 := by omega
    have n2 : inR (l.length : Int) 2 8 = false := by simp only [inR, Bool.and_eq_false_iff, decide_eq_false_iff_not]; omega
    clear g1
    go_enter Tryd.func9, Tryd.ntmps9
    go_wp2_with (go_at_call 22; refine (within_c _ _ _ _).mono ?_; rintro e w' ⟨rfl, rfl⟩)
    go_ret
    exact ⟨retb H.out.symm, Below.refl _ _⟩
  have n1 : ¬ (l.length : Int) < 2 := by omega
  by_cases g2 : l.length ≤ 8
  case neg =>
    have H := Lib.hid (goodU_no (l := l) (fun q => g2 q.2.1))
    have n0 : (8 : Int) < (l.length : Int) := by omega
    have n2 : inR (l.length : Int) 2 8 = false := by simp only [inR, Bool.and_eq_false_iff, decide_eq_false_iff_not]; omega
    clear g1 g2
    go_enter Tryd.func9, Tryd.ntmps9
    go_wp2_with (go_at_call 22; refine (within_c _ _ _ _).mono ?_; rintro e w' ⟨rfl, rfl⟩)
    go_ret
    exact ⟨retb H.out.symm, Below.refl _ _⟩
  have n0 : ¬ (8 : Int) < (l.length : Int) := by omega
  have n2 : inR (l.length : Int) 2 8 = true := inR_true.2 (by omega)
  obtain ⟨b, off, rfl, hb, c0, _, c2⟩ := Sup.rd hr (show 0 < l.length by omega)
  rw [Nat.zero_mul, Nat.add_zero] at c0 c2
  obtain ⟨m, hm⟩ : ∃ m, l.length = m + 1 := ⟨l.length - 1, by omega⟩
  obtain ⟨b', off', he, _, _, _, d2⟩ := Sup.rd hr (show m < l.length by omega)
  simp only [Option.some.injEq, Addr.mk.injEq, and_true] at he
  obtain ⟨rfl, rfl⟩ := he
  have a1 : IntKind.i64.wrap ((l.length : Int) - 1) = (m : Int) := by rw [show (l.length : Int) - 1 = m by omega]; exact IntWalk.i64_in _ (by omega)
  have i1 : (0 : Int) < l.length := by omega
  have i2 : (m : Int) < l.length := by omega
  have i3 : (0 : Int) ≤ (m : Int) := by omega
  have hend : endU l = nth l m := by unfold endU; rw [show l.length - 1 = m by omega]
  have HM := Lib.hid hm
  clear hm
  by_cases g3 : (nth l 0).a = 0
  case neg =>
    have H := Lib.hid (goodU_no (l := l) (fun q => g3 q.2.2.1))
    have g3' : ((nth l 0).a == 0) = false := by rw [beq_eq_false_iff_ne]; exact g3
    have g3'' : (!((nth l 0).a == 0)) = true := by simp [g3]
    have g3b : ((nth l 0).a != 0) = true := by simp [g3]
    clear g3 d2 hend g1 g2
    go_enter Tryd.func9, Tryd.ntmps9
    go_wp2_with (go_at_call 22; refine (within_c _ _ _ _).mono ?_; rintro e w' ⟨rfl, rfl⟩)
    go_ret
    exact ⟨retb H.out.symm, Below.refl _ _⟩
  rcases g4 : (nth l 0).s with _ | _
  · have H := Lib.hid (goodU_no (l := l) (fun q => by have := q.2.2.2.1; rw [g4] at this; cases this))
    rw [g3] at c0
    rw [g4] at c2
    clear g3 g4 d2 hend g1 g2
    go_enter Tryd.func9, Tryd.ntmps9
    go_wp2_with (go_at_call 22; refine (within_c _ _ _ _).mono ?_; rintro e w' ⟨rfl, rfl⟩)
    go_ret
    exact ⟨retb H.out.symm, Below.refl _ _⟩
  rcases g5 : (nth l m).s with _ | _
  · have H := Lib.hid (goodU_no (l := l) (fun q => by have := q.2.2.2.2.1; rw [hend, g5] at this; cases this))
    rw [g3] at c0
    rw [g4] at c2
    rw [g5] at d2
    clear g3 g4 g5 hend g1 g2
    go_enter Tryd.func9, Tryd.ntmps9
    go_wp2_with (go_at_call 22; refine (within_c _ _ _ _).mono ?_; rintro e w' ⟨rfl, rfl⟩)
    go_ret
    exact ⟨retb H.out.symm, Below.refl _ _⟩
  have HY := Lib.hid (goodU_yes (l := l) g1 g2 g3 g4 (by rw [hend]; exact g5))
  rw [g3] at c0
  rw [g4] at c2
  rw [g5] at d2
  clear g3 g4 g5 hend
  go_enter Tryd.func9, Tryd.ntmps9
  go_wp2_with (go_at_call 22; refine (within_c _ _ _ _).mono ?_; rintro e w' ⟨rfl, rfl⟩)
  clear c0 c2 d2
  go_loopw [4, 5, 39] (fun _ _ i wr => ∃ k : Nat, k ≤ l.length ∧ i = .int .i64 k ∧ (∀ j, j < k → (okU (nth l j) && prevU l j) = true) ∧ Below w.heap.size w wr) (fun _ _ i _ => l.length - (intOf i).toNat)
  case atStart => exact ⟨0, Nat.zero_le _, rfl, fun j hj => absurd hj (by omega), Below.refl _ _⟩
  case round =>
    obtain ⟨k, hk, rfl, hall, hbel⟩ := hrel
    have HB := Lib.hid hbel
    have HA := Lib.hid hall
    clear hall
    by_cases hlt : k < l.length
    · obtain ⟨b', off', he, hb1, c0, c1, c2⟩ := Sup.rd (hr.below hbel (Nat.le_refl _)) hlt
      simp only [Option.some.injEq, Addr.mk.injEq, and_true] at he
      obtain ⟨rfl, rfl⟩ := he
      have z1 := hbel.size
      have l1 : b < wr.heap.size := by omega
      have i4 : (0 : Int) ≤ (k : Int) := by omega
      have i5 : (k : Int) < l.length := by omega
      rcases h1 : inR (nth l k).a 0 3000 with _ | _
      · have H := Lib.hid (goodU_no (l := l) (fun q => by have := q.2.2.2.2.2 k hlt; simp [okU, h1] at this))
        have HW1 := Lib.hid (fun W => show Calls Tryd.prog 22 #[.int .i64 (nth l k).a, .int .i64 0, .int .i64 3000] W fun e w' => e = .returned (.bool false) ∧ W = w' from h1 ▸ within_c _ _ _ _)
        clear hbel h1
        go_wp2_with fail
        refine wp_region_mem (by kernel_rfl) (by kernel_rfl) ?_
        repeat (go_big_quiet_step ((go_at_call 22; with_reducible exact mem_same (HW1.out _))))
        refine wpQuiet_nil ?_
        intro _ hw'
        obtain ⟨⟨wq, hbq⟩, hw''⟩ := hw'
        obtain rfl := hw''.symm
        obtain ⟨hcq, hfq, hzq⟩ := bcell hbq
        try simp [Nat.add_one_le_iff] at hzq
        go_wp2_with fail
        go_ret
        exact ⟨retb H.out.symm, (HB.out.trans (Below.mono (B := wr.heap.size) (by repeat (first | (with_reducible exact Below.refl _ _) | ((with_reducible refine alloc_ ?_ ?_); (focus (first | exact Nat.le_refl _ | (simp; done) | (simp; omega) | omega))) | ((with_reducible refine set_ ?_ ?_); (focus (first | exact Nat.le_refl _ | (simp; done) | (simp; omega) | omega))) | (with_reducible refine Below.drew ?_) | ((with_reducible refine after_ ?_ (by assumption) ?_); (rotate_left; (focus (first | exact Nat.le_refl _ | (simp; done) | (simp; omega) | omega)))))) z1))⟩
      have HW1 := Lib.hid (fun W => show Calls Tryd.prog 22 #[.int .i64 (nth l k).a, .int .i64 0, .int .i64 3000] W fun e w' => e = .returned (.bool true) ∧ W = w' from h1 ▸ within_c _ _ _ _)
      rcases h2 : inR (nth l k).h 0 2000 with _ | _
      · have H := Lib.hid (goodU_no (l := l) (fun q => by have := q.2.2.2.2.2 k hlt; simp [okU, h2] at this))
        have HW2 := Lib.hid (fun W => show Calls Tryd.prog 22 #[.int .i64 (nth l k).h, .int .i64 0, .int .i64 2000] W fun e w' => e = .returned (.bool false) ∧ W = w' from h2 ▸ within_c _ _ _ _)
        clear hbel h1 h2
        go_wp2_with fail
        refine wp_region_mem (by kernel_rfl) (by kernel_rfl) ?_
        repeat (go_big_quiet_step ((first | (go_at_call 22; with_reducible exact mem_same (HW1.out _)) | (go_at_call 22; with_reducible exact mem_same (HW2.out _)))))
        refine wpQuiet_nil ?_
        intro _ hw'
        obtain ⟨⟨wq, hbq⟩, hw''⟩ := hw'
        obtain rfl := hw''.symm
        obtain ⟨hcq, hfq, hzq⟩ := bcell hbq
        try simp [Nat.add_one_le_iff] at hzq
        go_wp2_with fail
        go_ret
        exact ⟨retb H.out.symm, (HB.out.trans (Below.mono (B := wr.heap.size) (by repeat (first | (with_reducible exact Below.refl _ _) | ((with_reducible refine alloc_ ?_ ?_); (focus (first | exact Nat.le_refl _ | (simp; done) | (simp; omega) | omega))) | ((with_reducible refine set_ ?_ ?_); (focus (first | exact Nat.le_refl _ | (simp; done) | (simp; omega) | omega))) | (with_reducible refine Below.drew ?_) | ((with_reducible refine after_ ?_ (by assumption) ?_); (rotate_left; (focus (first | exact Nat.le_refl _ | (simp; done) | (simp; omega) | omega)))))) z1))⟩
      have HW2 := Lib.hid (fun W => show Calls Tryd.prog 22 #[.int .i64 (nth l k).h, .int .i64 0, .int .i64 2000] W fun e w' => e = .returned (.bool true) ∧ W = w' from h2 ▸ within_c _ _ _ _)
      by_cases hk0 : k = 0
      · subst hk0
        simp only [Nat.zero_mul, Nat.add_zero] at c0 c1 c2
        have H := Lib.hid (show (okU (nth l 0) && prevU l 0) = true by simp [prevU, okU, h1, h2])
        clear hbel h1 h2
        go_wp2_with fail
        refine wp_region_mem (by kernel_rfl) (by kernel_rfl) ?_
        repeat (go_big_quiet_step ((first | (go_at_call 22; with_reducible exact mem_same (HW1.out _)) | (go_at_call 22; with_reducible exact mem_same (HW2.out _)))))
        refine wpQuiet_nil ?_
        intro _ hw'
        obtain ⟨⟨wq, hbq⟩, hw''⟩ := hw'
        obtain rfl := hw''.symm
        obtain ⟨hcq, hfq, hzq⟩ := bcell hbq
        try simp [Nat.add_one_le_iff] at hzq
        go_wp2_with fail
        go_roundw
        case rel => exact ⟨1, by omega, by first | rfl | go_num, below_add HA.out H.out, (HB.out.trans (Below.mono (B := wr.heap.size) (by repeat (first | (with_reducible exact Below.refl _ _) | ((with_reducible refine alloc_ ?_ ?_); (focus (first | exact Nat.le_refl _ | (simp; done) | (simp; omega) | omega))) | ((with_reducible refine set_ ?_ ?_); (focus (first | exact Nat.le_refl _ | (simp; done) | (simp; omega) | omega))) | (with_reducible refine Below.drew ?_) | ((with_reducible refine after_ ?_ (by assumption) ?_); (rotate_left; (focus (first | exact Nat.le_refl _ | (simp; done) | (simp; omega) | omega)))))) z1))⟩
        case measure => simp [intOf]; omega
      · obtain ⟨j, rfl⟩ : ∃ j, k = j + 1 := ⟨k - 1, by omega⟩
        obtain ⟨b', off', he, hb2, e0, e1, e2⟩ := Sup.rd (hr.below hbel (Nat.le_refl _)) (show j < l.length by omega)
        simp only [Option.some.injEq, Addr.mk.injEq, and_true] at he
        obtain ⟨rfl, rfl⟩ := he
        have i6 : (0 : Int) ≤ (j : Int) := by omega
        have i7 : (j : Int) < l.length := by omega
        have i8 : decide ((0 : Int) < (j : Int) + 1) = true := by first | (simp; done) | (simp; omega)
        have wj : IntKind.i64.wrap (j : Int) = j := IntWalk.i64_in _ (by omega)
        clear hbel hk0
        by_cases hm : (nth l j).a < (nth l (j + 1)).a
        · have H := Lib.hid (show (okU (nth l (j + 1)) && prevU l (j + 1)) = true by simp [prevU, okU, h1, h2, hm])
          clear h1 h2
          go_wp2_with fail
          refine wp_region_mem (by kernel_rfl) (by kernel_rfl) ?_
          repeat (go_big_quiet_step ((first | (go_at_call 22; with_reducible exact mem_same (HW1.out _)) | (go_at_call 22; with_reducible exact mem_same (HW2.out _)))))
          refine wpQuiet_nil ?_
          intro _ hw'
          obtain ⟨⟨wq, hbq⟩, hw''⟩ := hw'
          obtain rfl := hw''.symm
          obtain ⟨hcq, hfq, hzq⟩ := bcell hbq
          try simp [Nat.add_one_le_iff] at hzq
          go_wp2_with fail
          go_roundw
          case rel => exact ⟨j + 1 + 1, by omega, by go_num, below_add HA.out H.out, (HB.out.trans (Below.mono (B := wr.heap.size) (by repeat (first | (with_reducible exact Below.refl _ _) | ((with_reducible refine alloc_ ?_ ?_); (focus (first | exact Nat.le_refl _ | (simp; done) | (simp; omega) | omega))) | ((with_reducible refine set_ ?_ ?_); (focus (first | exact Nat.le_refl _ | (simp; done) | (simp; omega) | omega))) | (with_reducible refine Below.drew ?_) | ((with_reducible refine after_ ?_ (by assumption) ?_); (rotate_left; (focus (first | exact Nat.le_refl _ | (simp; done) | (simp; omega) | omega)))))) z1))⟩
          case measure => simp [intOf]; omega
        · have H := Lib.hid (goodU_no (l := l) (fun q => by have := q.2.2.2.2.2 (j + 1) hlt; simp [prevU, hm] at this))
          clear h1 h2
          go_wp2_with fail
          refine wp_region_mem (by kernel_rfl) (by kernel_rfl) ?_
          repeat (go_big_quiet_step ((first | (go_at_call 22; with_reducible exact mem_same (HW1.out _)) | (go_at_call 22; with_reducible exact mem_same (HW2.out _)))))
          refine wpQuiet_nil ?_
          intro _ hw'
          obtain ⟨⟨wq, hbq⟩, hw''⟩ := hw'
          obtain rfl := hw''.symm
          obtain ⟨hcq, hfq, hzq⟩ := bcell hbq
          try simp [Nat.add_one_le_iff] at hzq
          go_wp2_with fail
          go_ret
          exact ⟨retb H.out.symm, (HB.out.trans (Below.mono (B := wr.heap.size) (by repeat (first | (with_reducible exact Below.refl _ _) | ((with_reducible refine alloc_ ?_ ?_); (focus (first | exact Nat.le_refl _ | (simp; done) | (simp; omega) | omega))) | ((with_reducible refine set_ ?_ ?_); (focus (first | exact Nat.le_refl _ | (simp; done) | (simp; omega) | omega))) | (with_reducible refine Below.drew ?_) | ((with_reducible refine after_ ?_ (by assumption) ?_); (rotate_left; (focus (first | exact Nat.le_refl _ | (simp; done) | (simp; omega) | omega)))))) z1))⟩
    · obtain rfl : k = l.length := by omega
      clear hbel
      have H := Lib.hid (HY.out HA.out)
      go_wp2_with fail
      go_ret
      exact ⟨retb H.out.symm, HB.out⟩
set_option maxHeartbeats 2000000 in
theorem l2Line_c (l : List Sup) (A : Option Addr) (cap : Nat) (w : World) (hl : l.length ≤ 1048576) (hr : Rd w w.heap.size 3 Sup.cells A l) :
    Calls Tryd.prog 21 #[.slice A l.length cap] w fun e w' => e = .returned (.bool (goodU l)) ∧ Below w.heap.size w w' := by
  by_cases g1 : 2 ≤ l.length
  case neg =>
    have H := Lib.hid (goodU_no (l := l) (fun q => g1 q.1))
    have n1 : (l.length : Int) < 2 := by omega
    have n2 : inR (l.length : Int) 2 8 = false := by simp only [inR, Bool.and_eq_false_iff, decide_eq_false_iff_not]; omega
    clear g1
    go_enter Tryd.func21, Tryd.ntmps21
    go_wp2_with (go_at_call 33; refine (l1In_c _ _ _ _).mono ?_; rintro e w' ⟨rfl, rfl⟩)
    go_ret
    exact ⟨retb H.out.symm, Below.refl _ _⟩
  have n1 : ¬ (l.length : Int) < 2 := by omega
  by_cases g2 : l.length ≤ 8
  case neg =>
    have H := Lib.hid (goodU_no (l := l) (fun q => g2 q.2.1))
    have n0 : (8 : Int) < (l.length : Int) := by omega
    have n2 : inR (l.length : Int) 2 8 = false := by simp only [inR, Bool.and_eq_false_iff, decide_eq_false_iff_not]; omega
    clear g1 g2
    go_enter Tryd.func21, Tryd.ntmps21
    go_wp2_with (go_at_call 33; refine (l1In_c _ _ _ _).mono ?_; rintro e w' ⟨rfl, rfl⟩)
    go_ret
    exact ⟨retb H.out.symm, Below.refl _ _⟩
  have n0 : ¬ (8 : Int) < (l.length : Int) := by omega
  have n2 : inR (l.length : Int) 2 8 = true := inR_true.2 (by omega)
  obtain ⟨b, off, rfl, hb, c0, _, c2⟩ := Sup.rd hr (show 0 < l.length by omega)
  rw [Nat.zero_mul, Nat.add_zero] at c0 c2
  obtain ⟨m, hm⟩ : ∃ m, l.length = m + 1 := ⟨l.length - 1, by omega⟩
  obtain ⟨b', off', he, _, _, _, d2⟩ := Sup.rd hr (show m < l.length by omega)
  simp only [Option.some.injEq, Addr.mk.injEq, and_true] at he
  obtain ⟨rfl, rfl⟩ := he
  have a1 : IntKind.i64.wrap ((l.length : Int) - 1) = (m : Int) := by rw [show (l.length : Int) - 1 = m by omega]; exact IntWalk.i64_in _ (by omega)
  have i1 : (0 : Int) < l.length := by omega
  have i2 : (m : Int) < l.length := by omega
  have i3 : (0 : Int) ≤ (m : Int) := by omega
  have hend : endU l = nth l m := by unfold endU; rw [show l.length - 1 = m by omega]
  have HM := Lib.hid hm
  clear hm
  by_cases g3 : (nth l 0).a = 0
  case neg =>
    have H := Lib.hid (goodU_no (l := l) (fun q => g3 q.2.2.1))
    have g3' : ((nth l 0).a == 0) = false := by rw [beq_eq_false_iff_ne]; exact g3
    have g3'' : (!((nth l 0).a == 0)) = true := by simp [g3]
    have g3b : ((nth l 0).a != 0) = true := by simp [g3]
    clear g3 d2 hend g1 g2
    go_enter Tryd.func21, Tryd.ntmps21
    go_wp2_with (go_at_call 33; refine (l1In_c _ _ _ _).mono ?_; rintro e w' ⟨rfl, rfl⟩)
    go_ret
    exact ⟨retb H.out.symm, Below.refl _ _⟩
  rcases g4 : (nth l 0).s with _ | _
  · have H := Lib.hid (goodU_no (l := l) (fun q => by have := q.2.2.2.1; rw [g4] at this; cases this))
    rw [g3] at c0
    rw [g4] at c2
    clear g3 g4 d2 hend g1 g2
    go_enter Tryd.func21, Tryd.ntmps21
    go_wp2_with (go_at_call 33; refine (l1In_c _ _ _ _).mono ?_; rintro e w' ⟨rfl, rfl⟩)
    go_ret
    exact ⟨retb H.out.symm, Below.refl _ _⟩
  rcases g5 : (nth l m).s with _ | _
  · have H := Lib.hid (goodU_no (l := l) (fun q => by have := q.2.2.2.2.1; rw [hend, g5] at this; cases this))
    rw [g3] at c0
    rw [g4] at c2
    rw [g5] at d2
    clear g3 g4 g5 hend g1 g2
    go_enter Tryd.func21, Tryd.ntmps21
    go_wp2_with (go_at_call 33; refine (l1In_c _ _ _ _).mono ?_; rintro e w' ⟨rfl, rfl⟩)
    go_ret
    exact ⟨retb H.out.symm, Below.refl _ _⟩
  have HY := Lib.hid (goodU_yes (l := l) g1 g2 g3 g4 (by rw [hend]; exact g5))
  rw [g3] at c0
  rw [g4] at c2
  rw [g5] at d2
  clear g3 g4 g5 hend
  go_enter Tryd.func21, Tryd.ntmps21
  go_wp2_with (go_at_call 33; refine (l1In_c _ _ _ _).mono ?_; rintro e w' ⟨rfl, rfl⟩)
  clear c0 c2 d2
  go_loopw [4] (fun i wr => ∃ k : Nat, k ≤ l.length ∧ i = .int .i64 k ∧ (∀ j, j < k → (okU (nth l j) && prevU l j) = true) ∧ Below w.heap.size w wr) (fun i _ => l.length - (intOf i).toNat)
  case atStart => exact ⟨0, Nat.zero_le _, rfl, fun j hj => absurd hj (by omega), Below.refl _ _⟩
  case round =>
    obtain ⟨k, hk, rfl, hall, hbel⟩ := hrel
    have HB := Lib.hid hbel
    have HA := Lib.hid hall
    clear hall
    by_cases hlt : k < l.length
    · obtain ⟨b', off', he, hb1, c0, c1, c2⟩ := Sup.rd (hr.below hbel (Nat.le_refl _)) hlt
      simp only [Option.some.injEq, Addr.mk.injEq, and_true] at he
      obtain ⟨rfl, rfl⟩ := he
      have z1 := hbel.size
      have l1 : b < wr.heap.size := by omega
      have i4 : (0 : Int) ≤ (k : Int) := by omega
      have i5 : (k : Int) < l.length := by omega
      rcases h1 : inR (nth l k).a 0 3000 with _ | _
      · have H := Lib.hid (goodU_no (l := l) (fun q => by have := q.2.2.2.2.2 k hlt; simp [okU, h1] at this))
        have HW1 := Lib.hid (fun W => show Calls Tryd.prog 33 #[.int .i64 (nth l k).a, .int .i64 0, .int .i64 3000] W fun e w' => e = .returned (.bool false) ∧ W = w' from h1 ▸ l1In_c _ _ _ _)
        clear hbel h1
        go_wp2_with fail
        refine wp_region_mem (by kernel_rfl) (by kernel_rfl) ?_
        repeat (go_big_quiet_step ((go_at_call 33; with_reducible exact mem_same (HW1.out _))))
        refine wpQuiet_nil ?_
        intro _ hw'
        obtain ⟨⟨wq, hbq⟩, hw''⟩ := hw'
        obtain rfl := hw''.symm
        obtain ⟨hcq, hfq, hzq⟩ := bcell hbq
        try simp [Nat.add_one_le_iff] at hzq
        go_wp2_with fail
        go_ret
        exact ⟨retb H.out.symm, (HB.out.trans (Below.mono (B := wr.heap.size) (by repeat (first | (with_reducible exact Below.refl _ _) | ((with_reducible refine alloc_ ?_ ?_); (focus (first | exact Nat.le_refl _ | (simp; done) | (simp; omega) | omega))) | ((with_reducible refine set_ ?_ ?_); (focus (first | exact Nat.le_refl _ | (simp; done) | (simp; omega) | omega))) | (with_reducible refine Below.drew ?_) | ((with_reducible refine after_ ?_ (by assumption) ?_); (rotate_left; (focus (first | exact Nat.le_refl _ | (simp; done) | (simp; omega) | omega)))))) z1))⟩
      have HW1 := Lib.hid (fun W => show Calls Tryd.prog 33 #[.int .i64 (nth l k).a, .int .i64 0, .int .i64 3000] W fun e w' => e = .returned (.bool true) ∧ W = w' from h1 ▸ l1In_c _ _ _ _)
      rcases h2 : inR (nth l k).h 0 2000 with _ | _
      · have H := Lib.hid (goodU_no (l := l) (fun q => by have := q.2.2.2.2.2 k hlt; simp [okU, h2] at this))
        have HW2 := Lib.hid (fun W => show Calls Tryd.prog 33 #[.int .i64 (nth l k).h, .int .i64 0, .int .i64 2000] W fun e w' => e = .returned (.bool false) ∧ W = w' from h2 ▸ l1In_c _ _ _ _)
        clear hbel h1 h2
        go_wp2_with fail
        refine wp_region_mem (by kernel_rfl) (by kernel_rfl) ?_
        repeat (go_big_quiet_step ((first | (go_at_call 33; with_reducible exact mem_same (HW1.out _)) | (go_at_call 33; with_reducible exact mem_same (HW2.out _)))))
        refine wpQuiet_nil ?_
        intro _ hw'
        obtain ⟨⟨wq, hbq⟩, hw''⟩ := hw'
        obtain rfl := hw''.symm
        obtain ⟨hcq, hfq, hzq⟩ := bcell hbq
        try simp [Nat.add_one_le_iff] at hzq
        go_wp2_with fail
        go_ret
        exact ⟨retb H.out.symm, (HB.out.trans (Below.mono (B := wr.heap.size) (by repeat (first | (with_reducible exact Below.refl _ _) | ((with_reducible refine alloc_ ?_ ?_); (focus (first | exact Nat.le_refl _ | (simp; done) | (simp; omega) | omega))) | ((with_reducible refine set_ ?_ ?_); (focus (first | exact Nat.le_refl _ | (simp; done) | (simp; omega) | omega))) | (with_reducible refine Below.drew ?_) | ((with_reducible refine after_ ?_ (by assumption) ?_); (rotate_left; (focus (first | exact Nat.le_refl _ | (simp; done) | (simp; omega) | omega)))))) z1))⟩
      have HW2 := Lib.hid (fun W => show Calls Tryd.prog 33 #[.int .i64 (nth l k).h, .int .i64 0, .int .i64 2000] W fun e w' => e = .returned (.bool true) ∧ W = w' from h2 ▸ l1In_c _ _ _ _)
      by_cases hk0 : k = 0
      · subst hk0
        simp only [Nat.zero_mul, Nat.add_zero] at c0 c1 c2
        have H := Lib.hid (show (okU (nth l 0) && prevU l 0) = true by simp [prevU, okU, h1, h2])
        clear hbel h1 h2
        go_wp2_with fail
        refine wp_region_mem (by kernel_rfl) (by kernel_rfl) ?_
        repeat (go_big_quiet_step ((first | (go_at_call 33; with_reducible exact mem_same (HW1.out _)) | (go_at_call 33; with_reducible exact mem_same (HW2.out _)))))
        refine wpQuiet_nil ?_
        intro _ hw'
        obtain ⟨⟨wq, hbq⟩, hw''⟩ := hw'
        obtain rfl := hw''.symm
        obtain ⟨hcq, hfq, hzq⟩ := bcell hbq
        try simp [Nat.add_one_le_iff] at hzq
        go_wp2_with fail
        go_roundw
        case rel => exact ⟨1, by omega, by first | rfl | go_num, below_add HA.out H.out, (HB.out.trans (Below.mono (B := wr.heap.size) (by repeat (first | (with_reducible exact Below.refl _ _) | ((with_reducible refine alloc_ ?_ ?_); (focus (first | exact Nat.le_refl _ | (simp; done) | (simp; omega) | omega))) | ((with_reducible refine set_ ?_ ?_); (focus (first | exact Nat.le_refl _ | (simp; done) | (simp; omega) | omega))) | (with_reducible refine Below.drew ?_) | ((with_reducible refine after_ ?_ (by assumption) ?_); (rotate_left; (focus (first | exact Nat.le_refl _ | (simp; done) | (simp; omega) | omega)))))) z1))⟩
        case measure => simp [intOf]; omega
      · obtain ⟨j, rfl⟩ : ∃ j, k = j + 1 := ⟨k - 1, by omega⟩
        obtain ⟨b', off', he, hb2, e0, e1, e2⟩ := Sup.rd (hr.below hbel (Nat.le_refl _)) (show j < l.length by omega)
        simp only [Option.some.injEq, Addr.mk.injEq, and_true] at he
        obtain ⟨rfl, rfl⟩ := he
        have i6 : (0 : Int) ≤ (j : Int) := by omega
        have i7 : (j : Int) < l.length := by omega
        have i8 : decide ((0 : Int) < (j : Int) + 1) = true := by first | (simp; done) | (simp; omega)
        have wj : IntKind.i64.wrap (j : Int) = j := IntWalk.i64_in _ (by omega)
        clear hbel hk0
        by_cases hm : (nth l j).a < (nth l (j + 1)).a
        · have H := Lib.hid (show (okU (nth l (j + 1)) && prevU l (j + 1)) = true by simp [prevU, okU, h1, h2, hm])
          clear h1 h2
          go_wp2_with fail
          refine wp_region_mem (by kernel_rfl) (by kernel_rfl) ?_
          repeat (go_big_quiet_step ((first | (go_at_call 33; with_reducible exact mem_same (HW1.out _)) | (go_at_call 33; with_reducible exact mem_same (HW2.out _)))))
          refine wpQuiet_nil ?_
          intro _ hw'
          obtain ⟨⟨wq, hbq⟩, hw''⟩ := hw'
          obtain rfl := hw''.symm
          obtain ⟨hcq, hfq, hzq⟩ := bcell hbq
          try simp [Nat.add_one_le_iff] at hzq
          go_wp2_with fail
          go_roundw
          case rel => exact ⟨j + 1 + 1, by omega, by go_num, below_add HA.out H.out, (HB.out.trans (Below.mono (B := wr.heap.size) (by repeat (first | (with_reducible exact Below.refl _ _) | ((with_reducible refine alloc_ ?_ ?_); (focus (first | exact Nat.le_refl _ | (simp; done) | (simp; omega) | omega))) | ((with_reducible refine set_ ?_ ?_); (focus (first | exact Nat.le_refl _ | (simp; done) | (simp; omega) | omega))) | (with_reducible refine Below.drew ?_) | ((with_reducible refine after_ ?_ (by assumption) ?_); (rotate_left; (focus (first | exact Nat.le_refl _ | (simp; done) | (simp; omega) | omega)))))) z1))⟩
          case measure => simp [intOf]; omega
        · have H := Lib.hid (goodU_no (l := l) (fun q => by have := q.2.2.2.2.2 (j + 1) hlt; simp [prevU, hm] at this))
          clear h1 h2
          go_wp2_with fail
          refine wp_region_mem (by kernel_rfl) (by kernel_rfl) ?_
          repeat (go_big_quiet_step ((first | (go_at_call 33; with_reducible exact mem_same (HW1.out _)) | (go_at_call 33; with_reducible exact mem_same (HW2.out _)))))
          refine wpQuiet_nil ?_
          intro _ hw'
          obtain ⟨⟨wq, hbq⟩, hw''⟩ := hw'
          obtain rfl := hw''.symm
          obtain ⟨hcq, hfq, hzq⟩ := bcell hbq
          try simp [Nat.add_one_le_iff] at hzq
          go_wp2_with fail
          go_ret
          exact ⟨retb H.out.symm, (HB.out.trans (Below.mono (B := wr.heap.size) (by repeat (first | (with_reducible exact Below.refl _ _) | ((with_reducible refine alloc_ ?_ ?_); (focus (first | exact Nat.le_refl _ | (simp; done) | (simp; omega) | omega))) | ((with_reducible refine set_ ?_ ?_); (focus (first | exact Nat.le_refl _ | (simp; done) | (simp; omega) | omega))) | (with_reducible refine Below.drew ?_) | ((with_reducible refine after_ ?_ (by assumption) ?_); (rotate_left; (focus (first | exact Nat.le_refl _ | (simp; done) | (simp; omega) | omega)))))) z1))⟩
    · obtain rfl : k = l.length := by omega
      clear hbel
      have H := Lib.hid (HY.out HA.out)
      go_wp2_with fail
      go_ret
      exact ⟨retb H.out.symm, HB.out⟩
end Go.Proofs.YtpchcblialkpcaaDoor
