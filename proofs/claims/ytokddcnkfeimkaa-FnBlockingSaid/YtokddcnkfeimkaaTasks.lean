/- Lists of tasks in memory, and the tests on them: the program's and the reference's return one Lean function; no conditions but the length. -/
import Derived.Test.YtokddcnkfeimkaaRange
import Derived.Test.YtokddcnkfeimkaaSlice
import Derived.IntWalk
import Derived.Outline
namespace Go.Proofs.Ytokddcnkfeimkaa
open Go.RowKit
structure Tsk where
  i : Int
  f : Int
  u : Int
  d : Int
instance : Inhabited Tsk := ⟨⟨0, 0, 0, 0⟩⟩
def Tsk.cells (x : Tsk) : List Value := [.int .i64 x.i, .int .i64 x.f, .int .i64 x.u, .int .i64 x.d]
theorem Tsk.rd {w : World} {B : Nat} {A : Option Addr} {l : List Tsk} (h : Rd w B 4 Tsk.cells A l) {i : Nat} (hi : i < l.length) : ∃ b off, A = some ⟨b, off, none⟩ ∧ b < B ∧ w.cell? ⟨b, off + i * 4, none⟩ = some (.int .i64 (nth l i).i) ∧ w.cell? ⟨b, off + i * 4 + 1, none⟩ = some (.int .i64 (nth l i).f) ∧ w.cell? ⟨b, off + i * 4 + 2, none⟩ = some (.int .i64 (nth l i).u) ∧ w.cell? ⟨b, off + i * 4 + 3, none⟩ = some (.int .i64 (nth l i).d) := by
  obtain ⟨b, off, e, hlt, hc⟩ := h i hi
  exact ⟨b, off, e, hlt, by simpa using hc 0 _ rfl, hc 1 _ rfl, hc 2 _ rfl, hc 3 _ rfl⟩
theorem toTask_c (x : Tsk) (w : World) : Calls Try.prog 39 #[.agg #[.int .i64 x.i, .int .i64 x.f, .int .i64 x.u, .int .i64 x.d]] w fun e w' => e = .returned (.agg #[.int .i64 x.i, .int .i64 x.f, .int .i64 x.u, .int .i64 x.d]) ∧ Below w.heap.size w w' := by
  go_enter Try.func39, Try.ntmps39
  go_wp2
  exact bodyPost_ret (v := .agg #[.int .i64 x.i, .int .i64 x.f, .int .i64 x.u, .int .i64 x.d]) (by simp [results, Try.results39, go_sem]) rfl ⟨rfl, (by repeat (first | (with_reducible exact Below.refl _ _) | ((with_reducible refine alloc_ ?_ ?_); (focus (first | exact Nat.le_refl _ | (simp; done) | (simp; omega) | omega))) | ((with_reducible refine set_ ?_ ?_); (focus (first | exact Nat.le_refl _ | (simp; done) | (simp; omega) | omega))) | (with_reducible refine Below.drew ?_) | ((with_reducible refine after_ ?_ (by assumption) ?_); (rotate_left; (focus (first | exact Nat.le_refl _ | (simp; done) | (simp; omega) | omega))))))⟩
theorem eqTask_same (x : Tsk) (w : World) : Calls Try.prog 55 #[.agg #[.int .i64 x.i, .int .i64 x.f, .int .i64 x.u, .int .i64 x.d], .agg #[.int .i64 x.i, .int .i64 x.f, .int .i64 x.u, .int .i64 x.d]] w fun e w' => e = .returned (.bool true) ∧ Below w.heap.size w w' := by
  go_enter Try.func55, Try.ntmps55
  go_wp2
  go_ret
  exact ⟨rfl, (by repeat (first | (with_reducible exact Below.refl _ _) | ((with_reducible refine alloc_ ?_ ?_); (focus (first | exact Nat.le_refl _ | (simp; done) | (simp; omega) | omega))) | ((with_reducible refine set_ ?_ ?_); (focus (first | exact Nat.le_refl _ | (simp; done) | (simp; omega) | omega))) | (with_reducible refine Below.drew ?_) | ((with_reducible refine after_ ?_ (by assumption) ?_); (rotate_left; (focus (first | exact Nat.le_refl _ | (simp; done) | (simp; omega) | omega))))))⟩
theorem info_Task : (Try.prog.info? 50).map (fun i => (i.zero, i.size, i.bytes)) = some (some (.agg #[.int .i64 0, .int .i64 0, .int .i64 0, .int .i64 0]), 4, 32) := by kernel_rfl
set_option maxRecDepth 100000 in
theorem toTaskS_c (l : List Tsk) (A : Option Addr) (cap : Nat) (w : World) (hl : l.length ≤ 1048576) (hr : Rd w w.heap.size 4 Tsk.cells A l) :
    Calls Try.prog 16 #[.slice A l.length cap] w fun e w' => e = .returned (.slice (some ⟨w.heap.size, 0, none⟩) l.length l.length) ∧ Row w' w.heap.size 50 4 Tsk.cells l ∧ Below w.heap.size w w' := by
  have hmk := make_rows (P := Try.prog) 25 50 _ 4 32 Try.underlying25 info_Task l.length (by omega) (by omega)
  go_enter Try.func16, Try.ntmps16
  go_wp2_with fail
  go_loopw [4] (fun i wr => ∃ k : Nat, k ≤ l.length ∧ i = .int .i64 k ∧ Fill w wr 50 4 Tsk.cells l k) (fun i _ => l.length - (intOf i).toNat)
  case atStart => exact ⟨0, Nat.zero_le _, rfl, Fill.start (made_row w _ _ _ (size_madeCells _ _)) (by repeat (first | (with_reducible exact Below.refl _ _) | ((with_reducible refine alloc_ ?_ ?_); (focus (first | exact Nat.le_refl _ | (simp; done) | (simp; omega) | omega))) | ((with_reducible refine set_ ?_ ?_); (focus (first | exact Nat.le_refl _ | (simp; done) | (simp; omega) | omega))) | (with_reducible refine Below.drew ?_) | ((with_reducible refine after_ ?_ (by assumption) ?_); (rotate_left; (focus (first | exact Nat.le_refl _ | (simp; done) | (simp; omega) | omega))))))⟩
  case round =>
    obtain ⟨k, hk, rfl, hfill⟩ := hrel
    have HF := Lib.hid hfill
    have hbel := hfill.2
    by_cases hlt : k < l.length
    · obtain ⟨b, off, rfl, hb, hc0, hc1, hc2, hc3⟩ := Tsk.rd (hr.below hbel (Nat.le_refl _)) hlt
      obtain ⟨u0, hs0⟩ := hfill.cell hlt (show 0 < 4 by omega)
      obtain ⟨u1, hs1⟩ := hfill.cell hlt (show 1 < 4 by omega)
      obtain ⟨u2, hs2⟩ := hfill.cell hlt (show 2 < 4 by omega)
      obtain ⟨u3, hs3⟩ := hfill.cell hlt (show 3 < 4 by omega)
      have hgs := hfill.size
      simp only [Nat.add_zero] at hs0
      clear hbel hfill
      go_wp2_with fail
      refine (toTask_c _ _).mono ?_
      rintro e w1 ⟨rfl, hb1⟩
      have ht0 := (hb1.cell (p := ⟨w.heap.size, k * 4, none⟩) hgs).trans hs0
      have ht1 := (hb1.cell (p := ⟨w.heap.size, k * 4 + 1, none⟩) hgs).trans hs1
      have ht2 := (hb1.cell (p := ⟨w.heap.size, k * 4 + 2, none⟩) hgs).trans hs2
      have ht3 := (hb1.cell (p := ⟨w.heap.size, k * 4 + 3, none⟩) hgs).trans hs3
      have hf0 := (hb1.frozen (p := ⟨w.heap.size, k * 4, none⟩) hgs).trans (HF.out.frozen _)
      have hf1 := (hb1.frozen (p := ⟨w.heap.size, k * 4 + 1, none⟩) hgs).trans (HF.out.frozen _)
      have hf2 := (hb1.frozen (p := ⟨w.heap.size, k * 4 + 2, none⟩) hgs).trans (HF.out.frozen _)
      have hf3 := (hb1.frozen (p := ⟨w.heap.size, k * 4 + 3, none⟩) hgs).trans (HF.out.frozen _)
      have HF1 := Lib.hid hb1
      clear hb1 hs0 hs1 hs2 hs3
      go_wp2_with fail
      go_roundw
      case rel => exact ⟨k + 1, by omega, by go_num, by simpa [puts, Tsk.cells] using HF.out.step HF1.out hlt⟩
      case measure => simp [intOf]; omega
    · clear hbel hfill
      obtain rfl : k = l.length := by omega
      go_wp2_with fail
      go_ret
      exact ⟨rfl, HF.out.row, HF.out.2⟩
theorem eqTaskS_same (l : List Tsk) (A B : Option Addr) (cap cap' : Nat) (w : World) (hl : l.length ≤ 1048576) (hr : Rd w w.heap.size 4 Tsk.cells A l) (hr' : Rd w w.heap.size 4 Tsk.cells B l) :
    Calls Try.prog 18 #[.slice A l.length cap, .slice B l.length cap'] w fun e w' => e = .returned (.bool true) ∧ Below w.heap.size w w' := by
  have hb : ((l.length : Int) != l.length) = false := by simp
  go_enter Try.func18, Try.ntmps18
  go_wp2_with fail
  go_loopw [5] (fun i wr => ∃ k : Nat, k ≤ l.length ∧ i = .int .i64 k ∧ Below w.heap.size w wr) (fun i _ => l.length - (intOf i).toNat)
  case atStart => exact ⟨0, Nat.zero_le _, rfl, Below.refl _ _⟩
  case round =>
    obtain ⟨k, hk, rfl, hbel⟩ := hrel
    have HB := Lib.hid hbel
    by_cases hlt : k < l.length
    · obtain ⟨b, off, rfl, hb1, hc0, hc1, hc2, hc3⟩ := Tsk.rd (hr.below hbel (Nat.le_refl _)) hlt
      obtain ⟨b', off', rfl, hb2, hd0, hd1, hd2, hd3⟩ := Tsk.rd (hr'.below hbel (Nat.le_refl _)) hlt
      have z1 := hbel.size
      have l1 : b < wr.heap.size := by omega
      have l2 : b' < wr.heap.size := by omega
      have i1 : (0 : Int) ≤ (k : Int) := by omega
      have i2 : (k : Int) < l.length := by omega
      clear hbel
      go_wp2_with fail
      refine wp_region_mem (by kernel_rfl) (by kernel_rfl) ?_
      repeat (go_big_quiet_step ((go_at_call 55; exact mem_of (eqTask_same _ _))))
      refine wpQuiet_nil ?_
      intro _ hw'
      obtain ⟨⟨wq, hbq⟩, hw''⟩ := hw'
      obtain rfl := hw''.symm
      obtain ⟨hcq, hfq, hzq⟩ := bcell hbq
      try simp [Nat.add_one_le_iff] at hzq
      go_wp2_with fail
      go_roundw
      case rel => exact ⟨k + 1, by omega, by go_num, HB.out.trans (hbq.mono z1)⟩
      case measure => simp [intOf]; omega
    · clear hbel
      obtain rfl : k = l.length := by omega
      go_wp2_with fail
      go_ret
      exact ⟨rfl, HB.out⟩
theorem szTaskS_yes (l : List Tsk) (A : Option Addr) (cap : Nat) (left : Int) (w : World) (h0 : 0 ≤ left) (h1 : left ≤ 1048576) (hl : l.length ≤ maxLen) (h : (l.length : Int) ≤ left) :
    Calls Try.prog 14 #[.slice A l.length cap, .int .i64 left] w fun e w' => e = .returned (.int .i64 (left - l.length)) ∧ w = w' := by
  unfold maxLen at hl
  go_enter Try.func14, Try.ntmps14
  go_wp2_with fail
  go_ret
  exact ⟨rfl, rfl⟩
theorem szTaskS_no (l : List Tsk) (A : Option Addr) (cap : Nat) (left : Int) (w : World) (h0 : 0 ≤ left) (h1 : left ≤ 1048576) (hl : l.length ≤ maxLen) (h : left < (l.length : Int)) :
    Calls Try.prog 14 #[.slice A l.length cap, .int .i64 left] w fun e w' => e = .returned (.int .i64 (-1)) ∧ w = w' := by
  unfold maxLen at hl
  go_enter Try.func14, Try.ntmps14
  go_wp2_with fail
  go_ret
  exact ⟨rfl, rfl⟩
def okK (x : Tsk) : Bool := inR x.i 1 99 && inR x.d 1 30 && inR x.f 0 400 && inR x.u (x.f + x.d - 1) 400
theorem okK_true {x : Tsk} : okK x = true ↔ (1 ≤ x.i ∧ x.i ≤ 99) ∧ (1 ≤ x.d ∧ x.d ≤ 30) ∧ (0 ≤ x.f ∧ x.f ≤ 400) ∧ (x.f + x.d - 1 ≤ x.u ∧ x.u ≤ 400) := by
  simp only [okK, Bool.and_eq_true, inR_true, and_assoc]
theorem isTask_c (x : Tsk) (w : World) : Calls Try.prog 54 #[.agg #[.int .i64 x.i, .int .i64 x.f, .int .i64 x.u, .int .i64 x.d]] w fun e w' => e = .returned (.bool (okK x)) ∧ Below w.heap.size w w' := by
  rcases h1 : inR x.i 1 99 with _ | _
  · have H := Lib.hid (show okK x = false by simp [okK, h1])
    go_enter Try.func54, Try.ntmps54
    go_wp2_with (go_at_call 65; refine (within_c _ _ _ _).mono ?_; rintro e w' ⟨rfl, rfl⟩)
    go_ret
    exact ⟨retb H.out.symm, (by repeat (first | (with_reducible exact Below.refl _ _) | ((with_reducible refine alloc_ ?_ ?_); (focus (first | exact Nat.le_refl _ | (simp; done) | (simp; omega) | omega))) | ((with_reducible refine set_ ?_ ?_); (focus (first | exact Nat.le_refl _ | (simp; done) | (simp; omega) | omega))) | (with_reducible refine Below.drew ?_) | ((with_reducible refine after_ ?_ (by assumption) ?_); (rotate_left; (focus (first | exact Nat.le_refl _ | (simp; done) | (simp; omega) | omega))))))⟩
  rcases h2 : inR x.d 1 30 with _ | _
  · have H := Lib.hid (show okK x = false by simp [okK, h2])
    go_enter Try.func54, Try.ntmps54
    go_wp2_with (go_at_call 65; refine (within_c _ _ _ _).mono ?_; rintro e w' ⟨rfl, rfl⟩)
    go_ret
    exact ⟨retb H.out.symm, (by repeat (first | (with_reducible exact Below.refl _ _) | ((with_reducible refine alloc_ ?_ ?_); (focus (first | exact Nat.le_refl _ | (simp; done) | (simp; omega) | omega))) | ((with_reducible refine set_ ?_ ?_); (focus (first | exact Nat.le_refl _ | (simp; done) | (simp; omega) | omega))) | (with_reducible refine Below.drew ?_) | ((with_reducible refine after_ ?_ (by assumption) ?_); (rotate_left; (focus (first | exact Nat.le_refl _ | (simp; done) | (simp; omega) | omega))))))⟩
  rcases h3 : inR x.f 0 400 with _ | _
  · have H := Lib.hid (show okK x = false by simp [okK, h3])
    go_enter Try.func54, Try.ntmps54
    go_wp2_with (go_at_call 65; refine (within_c _ _ _ _).mono ?_; rintro e w' ⟨rfl, rfl⟩)
    go_ret
    exact ⟨retb H.out.symm, (by repeat (first | (with_reducible exact Below.refl _ _) | ((with_reducible refine alloc_ ?_ ?_); (focus (first | exact Nat.le_refl _ | (simp; done) | (simp; omega) | omega))) | ((with_reducible refine set_ ?_ ?_); (focus (first | exact Nat.le_refl _ | (simp; done) | (simp; omega) | omega))) | (with_reducible refine Below.drew ?_) | ((with_reducible refine after_ ?_ (by assumption) ?_); (rotate_left; (focus (first | exact Nat.le_refl _ | (simp; done) | (simp; omega) | omega))))))⟩
  obtain ⟨q1, q2⟩ := inR_true.1 h2
  obtain ⟨q3, q4⟩ := inR_true.1 h3
  have H := Lib.hid (show okK x = inR x.u (x.f + x.d - 1) 400 by simp [okK, h1, h2, h3])
  go_enter Try.func54, Try.ntmps54
  go_wp2_with (go_at_call 65; refine (within_c _ _ _ _).mono ?_; rintro e w' ⟨rfl, rfl⟩)
  all_goals (go_ret; exact ⟨retb (by rw [H.out]; try rfl), (by repeat (first | (with_reducible exact Below.refl _ _) | ((with_reducible refine alloc_ ?_ ?_); (focus (first | exact Nat.le_refl _ | (simp; done) | (simp; omega) | omega))) | ((with_reducible refine set_ ?_ ?_); (focus (first | exact Nat.le_refl _ | (simp; done) | (simp; omega) | omega))) | (with_reducible refine Below.drew ?_) | ((with_reducible refine after_ ?_ (by assumption) ?_); (rotate_left; (focus (first | exact Nat.le_refl _ | (simp; done) | (simp; omega) | omega))))))⟩)

def prevK (l : List Tsk) (i : Nat) : Bool := decide (i = 0) || decide ((nth l (i - 1)).i < (nth l i).i)
def goodK (l : List Tsk) : Bool := allTo l.length (fun i => okK (nth l i) && prevK l i) && decide (l.length ≤ 8)
theorem goodK_no {l : List Tsk} {k : Nat} (hk : k < l.length) (h : (okK (nth l k) && prevK l k) = false) : goodK l = false := by
  have := allTo_no (p := fun i => okK (nth l i) && prevK l i) hk h
  simp [goodK, this]
theorem goodK_all {l : List Tsk} (h : ∀ i, i < l.length → (okK (nth l i) && prevK l i) = true) : goodK l = decide (l.length ≤ 8) := by
  simp only [goodK, allTo_true.2 h, Bool.true_and]
theorem goodK_true {l : List Tsk} (h : goodK l = true) : l.length ≤ 8 ∧ ∀ i, i < l.length → okK (nth l i) = true := by
  simp only [goodK, Bool.and_eq_true, decide_eq_true_eq, allTo_true] at h
  exact ⟨h.2, fun i hi => (h.1 i hi).1⟩
theorem wrapNat {n : Nat} (h : n ≤ 9000000) : IntKind.i64.wrap (n : Int) = n := IntWalk.i64_in _ (by omega)
theorem AreTasks_c (l : List Tsk) (A : Option Addr) (cap : Nat) (w : World) (hl : l.length ≤ 1048576) (hr : Rd w w.heap.size 4 Tsk.cells A l) :
    Calls Try.prog 17 #[.slice A l.length cap] w fun e w' => e = .returned (.bool (goodK l)) ∧ Below w.heap.size w w' := by
  go_enter Try.func17, Try.ntmps17
  go_wp2_with fail
  go_loopw [3, 4, 7] (fun _ _ i wr => ∃ k : Nat, k ≤ l.length ∧ i = .int .i64 k ∧ (∀ j, j < k → (okK (nth l j) && prevK l j) = true) ∧ Below w.heap.size w wr) (fun _ _ i _ => l.length - (intOf i).toNat)
  case atStart => exact ⟨0, Nat.zero_le _, rfl, fun j hj => absurd hj (by omega), Below.refl _ _⟩
  case round =>
    obtain ⟨k, hk, rfl, hall, hbel⟩ := hrel
    have HB := Lib.hid hbel
    have HA := Lib.hid hall
    clear hall
    by_cases hlt : k < l.length
    · obtain ⟨b, off, rfl, hb1, hcs⟩ := Tsk.rd (hr.below hbel (Nat.le_refl _)) hlt
      have z1 := hbel.size
      have l1 : b < wr.heap.size := by omega
      have i1 : (0 : Int) ≤ (k : Int) := by omega
      have i2 : (k : Int) < l.length := by omega
      rcases h1 : okK (nth l k) with _ | _
      · have H := Lib.hid (goodK_no hlt (by simp [h1]))
        clear hbel
        go_wp2_with fail
        refine wp_region_mem (by kernel_rfl) (by kernel_rfl) ?_
        repeat (go_big_quiet_step ((go_at_call 54; exact mem_bool (isTask_c _ _) h1)))
        refine wpQuiet_nil ?_
        intro _ hw'
        obtain ⟨⟨wq, hbq⟩, hw''⟩ := hw'
        obtain rfl := hw''.symm
        obtain ⟨hcq, hfq, hzq⟩ := bcell hbq
        try simp [Nat.add_one_le_iff] at hzq
        go_wp2_with fail
        go_ret
        exact ⟨retb H.out.symm, (HB.out.trans (Below.mono (B := wr.heap.size) (by repeat (first | (with_reducible exact Below.refl _ _) | ((with_reducible refine alloc_ ?_ ?_); (focus (first | exact Nat.le_refl _ | (simp; done) | (simp; omega) | omega))) | ((with_reducible refine set_ ?_ ?_); (focus (first | exact Nat.le_refl _ | (simp; done) | (simp; omega) | omega))) | (with_reducible refine Below.drew ?_) | ((with_reducible refine after_ ?_ (by assumption) ?_); (rotate_left; (focus (first | exact Nat.le_refl _ | (simp; done) | (simp; omega) | omega)))))) z1))⟩
      by_cases hk0 : k = 0
      · subst hk0
        simp only [Nat.zero_mul, Nat.add_zero] at hcs
        have H := Lib.hid (show (okK (nth l 0) && prevK l 0) = true by simp [prevK, h1])
        clear hbel
        go_wp2_with fail
        refine wp_region_mem (by kernel_rfl) (by kernel_rfl) ?_
        repeat (go_big_quiet_step ((go_at_call 54; exact mem_bool (isTask_c _ _) h1)))
        refine wpQuiet_nil ?_
        intro _ hw'
        obtain ⟨⟨wq, hbq⟩, hw''⟩ := hw'
        obtain rfl := hw''.symm
        obtain ⟨hcq, hfq, hzq⟩ := bcell hbq
        try simp [Nat.add_one_le_iff] at hzq
        go_wp2_with fail
        go_roundw
        case rel => exact ⟨1, by omega, by first | rfl | go_num, below_add HA.out H.out, (HB.out.trans (Below.mono (B := wr.heap.size) (by repeat (first | (with_reducible exact Below.refl _ _) | ((with_reducible refine alloc_ ?_ ?_); (focus (first | exact Nat.le_refl _ | (simp; done) | (simp; omega) | omega))) | ((with_reducible refine set_ ?_ ?_); (focus (first | exact Nat.le_refl _ | (simp; done) | (simp; omega) | omega))) | (with_reducible refine Below.drew ?_) | ((with_reducible refine after_ ?_ (by assumption) ?_); (rotate_left; (focus (first | exact Nat.le_refl _ | (simp; done) | (simp; omega) | omega)))))) z1))⟩
        case measure => simp [intOf]; omega
      · obtain ⟨j, rfl⟩ : ∃ j, k = j + 1 := ⟨k - 1, by omega⟩
        obtain ⟨b', off', he, hb2, hds⟩ := Tsk.rd (hr.below hbel (Nat.le_refl _)) (show j < l.length by omega)
        simp only [Option.some.injEq, Addr.mk.injEq, and_true] at he
        obtain ⟨rfl, rfl⟩ := he
        have i3 : (0 : Int) ≤ (j : Int) := by omega
        have i4 : (j : Int) < l.length := by omega
        have i5 : decide ((0 : Int) < (j : Int) + 1) = true := by first | (simp; done) | (simp; omega)
        have wj := wrapNat (show j ≤ 9000000 by omega)
        clear hbel hk0
        by_cases hm : (nth l j).i < (nth l (j + 1)).i
        · have H := Lib.hid (show (okK (nth l (j + 1)) && prevK l (j + 1)) = true by simp [prevK, h1, hm])
          go_wp2_with fail
          refine wp_region_mem (by kernel_rfl) (by kernel_rfl) ?_
          repeat (go_big_quiet_step ((go_at_call 54; exact mem_bool (isTask_c _ _) h1)))
          refine wpQuiet_nil ?_
          intro _ hw'
          obtain ⟨⟨wq, hbq⟩, hw''⟩ := hw'
          obtain rfl := hw''.symm
          obtain ⟨hcq, hfq, hzq⟩ := bcell hbq
          try simp [Nat.add_one_le_iff] at hzq
          go_wp2_with fail
          go_roundw
          case rel => exact ⟨j + 1 + 1, by omega, by go_num, below_add HA.out H.out, (HB.out.trans (Below.mono (B := wr.heap.size) (by repeat (first | (with_reducible exact Below.refl _ _) | ((with_reducible refine alloc_ ?_ ?_); (focus (first | exact Nat.le_refl _ | (simp; done) | (simp; omega) | omega))) | ((with_reducible refine set_ ?_ ?_); (focus (first | exact Nat.le_refl _ | (simp; done) | (simp; omega) | omega))) | (with_reducible refine Below.drew ?_) | ((with_reducible refine after_ ?_ (by assumption) ?_); (rotate_left; (focus (first | exact Nat.le_refl _ | (simp; done) | (simp; omega) | omega)))))) z1))⟩
          case measure => simp [intOf]; omega
        · have H := Lib.hid (goodK_no hlt (by simp [prevK, hm]))
          go_wp2_with fail
          refine wp_region_mem (by kernel_rfl) (by kernel_rfl) ?_
          repeat (go_big_quiet_step ((go_at_call 54; exact mem_bool (isTask_c _ _) h1)))
          refine wpQuiet_nil ?_
          intro _ hw'
          obtain ⟨⟨wq, hbq⟩, hw''⟩ := hw'
          obtain rfl := hw''.symm
          obtain ⟨hcq, hfq, hzq⟩ := bcell hbq
          try simp [Nat.add_one_le_iff] at hzq
          go_wp2_with fail
          go_ret
          exact ⟨retb H.out.symm, (HB.out.trans (Below.mono (B := wr.heap.size) (by repeat (first | (with_reducible exact Below.refl _ _) | ((with_reducible refine alloc_ ?_ ?_); (focus (first | exact Nat.le_refl _ | (simp; done) | (simp; omega) | omega))) | ((with_reducible refine set_ ?_ ?_); (focus (first | exact Nat.le_refl _ | (simp; done) | (simp; omega) | omega))) | (with_reducible refine Below.drew ?_) | ((with_reducible refine after_ ?_ (by assumption) ?_); (rotate_left; (focus (first | exact Nat.le_refl _ | (simp; done) | (simp; omega) | omega)))))) z1))⟩
    · obtain rfl : k = l.length := by omega
      clear hbel
      have H := Lib.hid (goodK_all HA.out)
      go_wp2_with fail
      go_ret
      exact ⟨retb (by rw [H.out]; simp; omega), HB.out⟩
theorem l16Good_c (l : List Tsk) (A : Option Addr) (cap : Nat) (w : World) (hl : l.length ≤ 1048576) (hr : Rd w w.heap.size 4 Tsk.cells A l) :
    Calls Try.prog 53 #[.slice A l.length cap] w fun e w' => e = .returned (.bool (goodK l)) ∧ Below w.heap.size w w' := by
  go_enter Try.func53, Try.ntmps53
  go_wp2_with fail
  go_loopw [3, 4] (fun i _ wr => ∃ k : Nat, k ≤ l.length ∧ i = .int .i64 k ∧ (∀ j, j < k → (okK (nth l j) && prevK l j) = true) ∧ Below w.heap.size w wr) (fun i _ _ => l.length - (intOf i).toNat)
  case atStart => exact ⟨0, Nat.zero_le _, rfl, fun j hj => absurd hj (by omega), Below.refl _ _⟩
  case round =>
    obtain ⟨k, hk, rfl, hall, hbel⟩ := hrel
    have HB := Lib.hid hbel
    have HA := Lib.hid hall
    clear hall
    by_cases hlt : k < l.length
    · obtain ⟨b, off, rfl, hb1, hcs⟩ := Tsk.rd (hr.below hbel (Nat.le_refl _)) hlt
      have z1 := hbel.size
      have l1 : b < wr.heap.size := by omega
      have i1 : (0 : Int) ≤ (k : Int) := by omega
      have i2 : (k : Int) < l.length := by omega
      rcases a1 : inR (nth l k).i 1 99 with _ | _
      · have H := Lib.hid (goodK_no hlt (by simp [okK, a1]))
        clear hbel
        go_wp2_with fail
        refine wp_region_mem (by kernel_rfl) (by kernel_rfl) ?_
        repeat (go_big_quiet_step (((go_at_call 62; exact same_bool (l1In_c _ _ _ _) a1))))
        refine wpQuiet_nil ?_
        intro _ hw'
        obtain ⟨⟨wq, hbq⟩, hw''⟩ := hw'
        obtain rfl := hw''.symm
        obtain ⟨hcq, hfq, hzq⟩ := bcell hbq
        try simp [Nat.add_one_le_iff] at hzq
        go_wp2_with fail
        go_ret
        exact ⟨retb H.out.symm, (HB.out.trans (Below.mono (B := wr.heap.size) (by repeat (first | (with_reducible exact Below.refl _ _) | ((with_reducible refine alloc_ ?_ ?_); (focus (first | exact Nat.le_refl _ | (simp; done) | (simp; omega) | omega))) | ((with_reducible refine set_ ?_ ?_); (focus (first | exact Nat.le_refl _ | (simp; done) | (simp; omega) | omega))) | (with_reducible refine Below.drew ?_) | ((with_reducible refine after_ ?_ (by assumption) ?_); (rotate_left; (focus (first | exact Nat.le_refl _ | (simp; done) | (simp; omega) | omega)))))) z1))⟩
      rcases a2 : inR (nth l k).d 1 30 with _ | _
      · have H := Lib.hid (goodK_no hlt (by simp [okK, a2]))
        clear hbel
        go_wp2_with fail
        refine wp_region_mem (by kernel_rfl) (by kernel_rfl) ?_
        repeat (go_big_quiet_step ((first | (go_at_call 62; exact same_bool (l1In_c _ _ _ _) a1) | (go_at_call 62; exact same_bool (l1In_c _ _ _ _) a2))))
        refine wpQuiet_nil ?_
        intro _ hw'
        obtain ⟨⟨wq, hbq⟩, hw''⟩ := hw'
        obtain rfl := hw''.symm
        obtain ⟨hcq, hfq, hzq⟩ := bcell hbq
        try simp [Nat.add_one_le_iff] at hzq
        go_wp2_with fail
        go_ret
        exact ⟨retb H.out.symm, (HB.out.trans (Below.mono (B := wr.heap.size) (by repeat (first | (with_reducible exact Below.refl _ _) | ((with_reducible refine alloc_ ?_ ?_); (focus (first | exact Nat.le_refl _ | (simp; done) | (simp; omega) | omega))) | ((with_reducible refine set_ ?_ ?_); (focus (first | exact Nat.le_refl _ | (simp; done) | (simp; omega) | omega))) | (with_reducible refine Below.drew ?_) | ((with_reducible refine after_ ?_ (by assumption) ?_); (rotate_left; (focus (first | exact Nat.le_refl _ | (simp; done) | (simp; omega) | omega)))))) z1))⟩
      rcases a3 : inR (nth l k).f 0 400 with _ | _
      · have H := Lib.hid (goodK_no hlt (by simp [okK, a3]))
        clear hbel
        go_wp2_with fail
        refine wp_region_mem (by kernel_rfl) (by kernel_rfl) ?_
        repeat (go_big_quiet_step ((first | (go_at_call 62; exact same_bool (l1In_c _ _ _ _) a1) | (go_at_call 62; exact same_bool (l1In_c _ _ _ _) a2) | (go_at_call 62; exact same_bool (l1In_c _ _ _ _) a3))))
        refine wpQuiet_nil ?_
        intro _ hw'
        obtain ⟨⟨wq, hbq⟩, hw''⟩ := hw'
        obtain rfl := hw''.symm
        obtain ⟨hcq, hfq, hzq⟩ := bcell hbq
        try simp [Nat.add_one_le_iff] at hzq
        go_wp2_with fail
        go_ret
        exact ⟨retb H.out.symm, (HB.out.trans (Below.mono (B := wr.heap.size) (by repeat (first | (with_reducible exact Below.refl _ _) | ((with_reducible refine alloc_ ?_ ?_); (focus (first | exact Nat.le_refl _ | (simp; done) | (simp; omega) | omega))) | ((with_reducible refine set_ ?_ ?_); (focus (first | exact Nat.le_refl _ | (simp; done) | (simp; omega) | omega))) | (with_reducible refine Below.drew ?_) | ((with_reducible refine after_ ?_ (by assumption) ?_); (rotate_left; (focus (first | exact Nat.le_refl _ | (simp; done) | (simp; omega) | omega)))))) z1))⟩
      obtain ⟨q1, q2⟩ := inR_true.1 a2
      obtain ⟨q3, q4⟩ := inR_true.1 a3
      rcases a4 : inR (nth l k).u ((nth l k).f + (nth l k).d - 1) 400 with _ | _
      · have H := Lib.hid (goodK_no hlt (by simp [okK, a4]))
        clear hbel
        go_wp2_with fail
        refine wp_region_mem (by kernel_rfl) (by kernel_rfl) ?_
        repeat (go_big_quiet_step ((first | (go_at_call 62; exact same_bool (l1In_c _ _ _ _) a1) | (go_at_call 62; exact same_bool (l1In_c _ _ _ _) a2) | (go_at_call 62; exact same_bool (l1In_c _ _ _ _) a3) | (go_at_call 62; exact same_bool (l1In_c _ _ _ _) a4))))
        refine wpQuiet_nil ?_
        intro _ hw'
        obtain ⟨⟨wq, hbq⟩, hw''⟩ := hw'
        obtain rfl := hw''.symm
        obtain ⟨hcq, hfq, hzq⟩ := bcell hbq
        try simp [Nat.add_one_le_iff] at hzq
        go_wp2_with fail
        go_ret
        exact ⟨retb H.out.symm, (HB.out.trans (Below.mono (B := wr.heap.size) (by repeat (first | (with_reducible exact Below.refl _ _) | ((with_reducible refine alloc_ ?_ ?_); (focus (first | exact Nat.le_refl _ | (simp; done) | (simp; omega) | omega))) | ((with_reducible refine set_ ?_ ?_); (focus (first | exact Nat.le_refl _ | (simp; done) | (simp; omega) | omega))) | (with_reducible refine Below.drew ?_) | ((with_reducible refine after_ ?_ (by assumption) ?_); (rotate_left; (focus (first | exact Nat.le_refl _ | (simp; done) | (simp; omega) | omega)))))) z1))⟩
      have h1 : okK (nth l k) = true := by simp [okK, a1, a2, a3, a4]
      by_cases hk0 : k = 0
      · subst hk0
        simp only [Nat.zero_mul, Nat.add_zero] at hcs
        have H := Lib.hid (show (okK (nth l 0) && prevK l 0) = true by simp [prevK, h1])
        clear hbel
        go_wp2_with fail
        refine wp_region_mem (by kernel_rfl) (by kernel_rfl) ?_
        repeat (go_big_quiet_step ((first | (go_at_call 62; exact same_bool (l1In_c _ _ _ _) a1) | (go_at_call 62; exact same_bool (l1In_c _ _ _ _) a2) | (go_at_call 62; exact same_bool (l1In_c _ _ _ _) a3) | (go_at_call 62; exact same_bool (l1In_c _ _ _ _) a4))))
        refine wpQuiet_nil ?_
        intro _ hw'
        obtain ⟨⟨wq, hbq⟩, hw''⟩ := hw'
        obtain rfl := hw''.symm
        obtain ⟨hcq, hfq, hzq⟩ := bcell hbq
        try simp [Nat.add_one_le_iff] at hzq
        go_wp2_with fail
        go_roundw
        case rel => exact ⟨1, by omega, by first | rfl | go_num, below_add HA.out H.out, (HB.out.trans (Below.mono (B := wr.heap.size) (by repeat (first | (with_reducible exact Below.refl _ _) | ((with_reducible refine alloc_ ?_ ?_); (focus (first | exact Nat.le_refl _ | (simp; done) | (simp; omega) | omega))) | ((with_reducible refine set_ ?_ ?_); (focus (first | exact Nat.le_refl _ | (simp; done) | (simp; omega) | omega))) | (with_reducible refine Below.drew ?_) | ((with_reducible refine after_ ?_ (by assumption) ?_); (rotate_left; (focus (first | exact Nat.le_refl _ | (simp; done) | (simp; omega) | omega)))))) z1))⟩
        case measure => simp [intOf]; omega
      · obtain ⟨j, rfl⟩ : ∃ j, k = j + 1 := ⟨k - 1, by omega⟩
        obtain ⟨b', off', he, hb2, hds⟩ := Tsk.rd (hr.below hbel (Nat.le_refl _)) (show j < l.length by omega)
        simp only [Option.some.injEq, Addr.mk.injEq, and_true] at he
        obtain ⟨rfl, rfl⟩ := he
        have i3 : (0 : Int) ≤ (j : Int) := by omega
        have i4 : (j : Int) < l.length := by omega
        have i5 : decide ((0 : Int) < (j : Int) + 1) = true := by first | (simp; done) | (simp; omega)
        have wj := wrapNat (show j ≤ 9000000 by omega)
        clear hbel hk0
        by_cases hm : (nth l j).i < (nth l (j + 1)).i
        · have H := Lib.hid (show (okK (nth l (j + 1)) && prevK l (j + 1)) = true by simp [prevK, h1, hm])
          go_wp2_with fail
          refine wp_region_mem (by kernel_rfl) (by kernel_rfl) ?_
          repeat (go_big_quiet_step ((first | (go_at_call 62; exact same_bool (l1In_c _ _ _ _) a1) | (go_at_call 62; exact same_bool (l1In_c _ _ _ _) a2) | (go_at_call 62; exact same_bool (l1In_c _ _ _ _) a3) | (go_at_call 62; exact same_bool (l1In_c _ _ _ _) a4))))
          refine wpQuiet_nil ?_
          intro _ hw'
          obtain ⟨⟨wq, hbq⟩, hw''⟩ := hw'
          obtain rfl := hw''.symm
          obtain ⟨hcq, hfq, hzq⟩ := bcell hbq
          try simp [Nat.add_one_le_iff] at hzq
          go_wp2_with fail
          go_roundw
          case rel => exact ⟨j + 1 + 1, by omega, by go_num, below_add HA.out H.out, (HB.out.trans (Below.mono (B := wr.heap.size) (by repeat (first | (with_reducible exact Below.refl _ _) | ((with_reducible refine alloc_ ?_ ?_); (focus (first | exact Nat.le_refl _ | (simp; done) | (simp; omega) | omega))) | ((with_reducible refine set_ ?_ ?_); (focus (first | exact Nat.le_refl _ | (simp; done) | (simp; omega) | omega))) | (with_reducible refine Below.drew ?_) | ((with_reducible refine after_ ?_ (by assumption) ?_); (rotate_left; (focus (first | exact Nat.le_refl _ | (simp; done) | (simp; omega) | omega)))))) z1))⟩
          case measure => simp [intOf]; omega
        · have H := Lib.hid (goodK_no hlt (by simp [prevK, hm]))
          go_wp2_with fail
          refine wp_region_mem (by kernel_rfl) (by kernel_rfl) ?_
          repeat (go_big_quiet_step ((first | (go_at_call 62; exact same_bool (l1In_c _ _ _ _) a1) | (go_at_call 62; exact same_bool (l1In_c _ _ _ _) a2) | (go_at_call 62; exact same_bool (l1In_c _ _ _ _) a3) | (go_at_call 62; exact same_bool (l1In_c _ _ _ _) a4))))
          refine wpQuiet_nil ?_
          intro _ hw'
          obtain ⟨⟨wq, hbq⟩, hw''⟩ := hw'
          obtain rfl := hw''.symm
          obtain ⟨hcq, hfq, hzq⟩ := bcell hbq
          try simp [Nat.add_one_le_iff] at hzq
          go_wp2_with fail
          go_ret
          exact ⟨retb H.out.symm, (HB.out.trans (Below.mono (B := wr.heap.size) (by repeat (first | (with_reducible exact Below.refl _ _) | ((with_reducible refine alloc_ ?_ ?_); (focus (first | exact Nat.le_refl _ | (simp; done) | (simp; omega) | omega))) | ((with_reducible refine set_ ?_ ?_); (focus (first | exact Nat.le_refl _ | (simp; done) | (simp; omega) | omega))) | (with_reducible refine Below.drew ?_) | ((with_reducible refine after_ ?_ (by assumption) ?_); (rotate_left; (focus (first | exact Nat.le_refl _ | (simp; done) | (simp; omega) | omega)))))) z1))⟩
    · obtain rfl : k = l.length := by omega
      clear hbel
      have H := Lib.hid (goodK_all HA.out)
      go_wp2_with fail
      go_ret
      exact ⟨retb (by rw [H.out]; simp; omega), HB.out⟩
theorem specAreTasks_c (l : List Tsk) (A : Option Addr) (cap : Nat) (w : World) (hl : l.length ≤ 1048576) (hr : Rd w w.heap.size 4 Tsk.cells A l) :
    Calls Try.prog 15 #[.slice A l.length cap] w fun e w' => e = .returned (.bool (goodK l)) ∧ Below w.heap.size w w' := by
  go_enter Try.func15, Try.ntmps15
  go_wp2_with fail
  refine (l16Good_c l _ _ _ hl hr).mono ?_
  rintro e w1 ⟨rfl, hb1⟩
  go_wp2_with fail
  go_ret
  exact ⟨rfl, hb1⟩
end Go.Proofs.Ytokddcnkfeimkaa
