/- Lists of rides in memory, and the tests on timetables: the program's and the reference's return one Lean function; no conditions beyond the length that the statements ask for. -/
import Derived.Test.YtddnemmdlijgiaaRange
import Derived.Test.YtddnemmdlijgiaaSlice
import Derived.Outline
namespace Go.Proofs.Ytddnemmdlijgiaa
open Go.RowKit
structure Rid where
  f : Int
  t : Int
  d : Int
  a : Int
  s : Int
instance : Inhabited Rid := ⟨⟨0, 0, 0, 0, 0⟩⟩
def Rid.cells (x : Rid) : List Value := [.int .i64 x.f, .int .i64 x.t, .int .i64 x.d, .int .i64 x.a, .int .i64 x.s]
theorem Rid.rd {w : World} {B : Nat} {A : Option Addr} {l : List Rid} (h : Rd w B 5 Rid.cells A l) {i : Nat} (hi : i < l.length) : ∃ b off, A = some ⟨b, off, none⟩ ∧ b < B ∧ w.cell? ⟨b, off + i * 5, none⟩ = some (.int .i64 (nth l i).f) ∧ w.cell? ⟨b, off + i * 5 + 1, none⟩ = some (.int .i64 (nth l i).t) ∧ w.cell? ⟨b, off + i * 5 + 2, none⟩ = some (.int .i64 (nth l i).d) ∧ w.cell? ⟨b, off + i * 5 + 3, none⟩ = some (.int .i64 (nth l i).a) ∧ w.cell? ⟨b, off + i * 5 + 4, none⟩ = some (.int .i64 (nth l i).s) := by
  obtain ⟨b, off, e, hlt, hc⟩ := h i hi
  exact ⟨b, off, e, hlt, by simpa using hc 0 _ rfl, hc 1 _ rfl, hc 2 _ rfl, hc 3 _ rfl, hc 4 _ rfl⟩
theorem toRide_c (x : Rid) (w : World) : Calls Try.prog 50 #[.agg #[.int .i64 x.f, .int .i64 x.t, .int .i64 x.d, .int .i64 x.a, .int .i64 x.s]] w fun e w' => e = .returned (.agg #[.int .i64 x.f, .int .i64 x.t, .int .i64 x.d, .int .i64 x.a, .int .i64 x.s]) ∧ Below w.heap.size w w' := by
  go_enter Try.func50, Try.ntmps50
  go_wp2
  exact bodyPost_ret (v := .agg #[.int .i64 x.f, .int .i64 x.t, .int .i64 x.d, .int .i64 x.a, .int .i64 x.s]) (by simp [results, Try.results50, go_sem]) rfl ⟨rfl, (by repeat (first | (with_reducible exact Below.refl _ _) | ((with_reducible refine alloc_ ?_ ?_); (focus (first | exact Nat.le_refl _ | (simp; done) | (simp; omega) | omega))) | ((with_reducible refine set_ ?_ ?_); (focus (first | exact Nat.le_refl _ | (simp; done) | (simp; omega) | omega))) | (with_reducible refine Below.drew ?_) | ((with_reducible refine after_ ?_ (by assumption) ?_); (rotate_left; (focus (first | exact Nat.le_refl _ | (simp; done) | (simp; omega) | omega))))))⟩
theorem eqRide_same (x : Rid) (w : World) : Calls Try.prog 56 #[.agg #[.int .i64 x.f, .int .i64 x.t, .int .i64 x.d, .int .i64 x.a, .int .i64 x.s], .agg #[.int .i64 x.f, .int .i64 x.t, .int .i64 x.d, .int .i64 x.a, .int .i64 x.s]] w fun e w' => e = .returned (.bool true) ∧ Below w.heap.size w w' := by
  go_enter Try.func56, Try.ntmps56
  go_wp2
  go_ret
  exact ⟨rfl, (by repeat (first | (with_reducible exact Below.refl _ _) | ((with_reducible refine alloc_ ?_ ?_); (focus (first | exact Nat.le_refl _ | (simp; done) | (simp; omega) | omega))) | ((with_reducible refine set_ ?_ ?_); (focus (first | exact Nat.le_refl _ | (simp; done) | (simp; omega) | omega))) | (with_reducible refine Below.drew ?_) | ((with_reducible refine after_ ?_ (by assumption) ?_); (rotate_left; (focus (first | exact Nat.le_refl _ | (simp; done) | (simp; omega) | omega))))))⟩
theorem info_Ride : (Try.prog.info? 52).map (fun i => (i.zero, i.size, i.bytes)) = some (some (.agg #[.int .i64 0, .int .i64 0, .int .i64 0, .int .i64 0, .int .i64 0]), 5, 40) := by kernel_rfl
set_option maxRecDepth 100000 in
theorem toRideS_c (l : List Rid) (A : Option Addr) (cap : Nat) (w : World) (hl : l.length ≤ 1048576) (hr : Rd w w.heap.size 5 Rid.cells A l) :
    Calls Try.prog 16 #[.slice A l.length cap] w fun e w' => e = .returned (.slice (some ⟨w.heap.size, 0, none⟩) l.length l.length) ∧ Row w' w.heap.size 52 5 Rid.cells l ∧ Below w.heap.size w w' := by
  have hmk := make_rows (P := Try.prog) 25 52 _ 5 40 Try.underlying25 info_Ride l.length (by omega) (by omega)
  go_enter Try.func16, Try.ntmps16
  go_wp2_with fail
  go_loopw [4] (fun i wr => ∃ k : Nat, k ≤ l.length ∧ i = .int .i64 k ∧ Fill w wr 52 5 Rid.cells l k) (fun i _ => l.length - (intOf i).toNat)
  case atStart => exact ⟨0, Nat.zero_le _, rfl, Fill.start (made_row w _ _ _ (size_madeCells _ _)) (by repeat (first | (with_reducible exact Below.refl _ _) | ((with_reducible refine alloc_ ?_ ?_); (focus (first | exact Nat.le_refl _ | (simp; done) | (simp; omega) | omega))) | ((with_reducible refine set_ ?_ ?_); (focus (first | exact Nat.le_refl _ | (simp; done) | (simp; omega) | omega))) | (with_reducible refine Below.drew ?_) | ((with_reducible refine after_ ?_ (by assumption) ?_); (rotate_left; (focus (first | exact Nat.le_refl _ | (simp; done) | (simp; omega) | omega))))))⟩
  case round =>
    obtain ⟨k, hk, rfl, hfill⟩ := hrel
    have HF := Lib.hid hfill
    have hbel := hfill.2
    by_cases hlt : k < l.length
    · obtain ⟨b, off, rfl, hb, hc0, hc1, hc2, hc3, hc4⟩ := Rid.rd (hr.below hbel (Nat.le_refl _)) hlt
      obtain ⟨u0, hs0⟩ := hfill.cell hlt (show 0 < 5 by omega)
      obtain ⟨u1, hs1⟩ := hfill.cell hlt (show 1 < 5 by omega)
      obtain ⟨u2, hs2⟩ := hfill.cell hlt (show 2 < 5 by omega)
      obtain ⟨u3, hs3⟩ := hfill.cell hlt (show 3 < 5 by omega)
      obtain ⟨u4, hs4⟩ := hfill.cell hlt (show 4 < 5 by omega)
      have hgs := hfill.size
      simp only [Nat.add_zero] at hs0
      clear hbel hfill
      go_wp2_with fail
      refine (toRide_c _ _).mono ?_
      rintro e w1 ⟨rfl, hb1⟩
      have ht0 := (hb1.cell (p := ⟨w.heap.size, k * 5, none⟩) hgs).trans hs0
      have ht1 := (hb1.cell (p := ⟨w.heap.size, k * 5 + 1, none⟩) hgs).trans hs1
      have ht2 := (hb1.cell (p := ⟨w.heap.size, k * 5 + 2, none⟩) hgs).trans hs2
      have ht3 := (hb1.cell (p := ⟨w.heap.size, k * 5 + 3, none⟩) hgs).trans hs3
      have ht4 := (hb1.cell (p := ⟨w.heap.size, k * 5 + 4, none⟩) hgs).trans hs4
      have hf0 := (hb1.frozen (p := ⟨w.heap.size, k * 5, none⟩) hgs).trans (HF.out.frozen _)
      have hf1 := (hb1.frozen (p := ⟨w.heap.size, k * 5 + 1, none⟩) hgs).trans (HF.out.frozen _)
      have hf2 := (hb1.frozen (p := ⟨w.heap.size, k * 5 + 2, none⟩) hgs).trans (HF.out.frozen _)
      have hf3 := (hb1.frozen (p := ⟨w.heap.size, k * 5 + 3, none⟩) hgs).trans (HF.out.frozen _)
      have hf4 := (hb1.frozen (p := ⟨w.heap.size, k * 5 + 4, none⟩) hgs).trans (HF.out.frozen _)
      have HF1 := Lib.hid hb1
      clear hb1 hs0 hs1 hs2 hs3 hs4
      go_wp2_with fail
      go_roundw
      case rel => exact ⟨k + 1, by omega, by go_num, by simpa [puts, Rid.cells] using HF.out.step HF1.out hlt⟩
      case measure => simp [intOf]; omega
    · clear hbel hfill
      obtain rfl : k = l.length := by omega
      go_wp2_with fail
      go_ret
      exact ⟨rfl, HF.out.row, HF.out.2⟩
theorem eqRideS_same (l : List Rid) (A B : Option Addr) (cap cap' : Nat) (w : World) (hl : l.length ≤ 1048576) (hr : Rd w w.heap.size 5 Rid.cells A l) (hr' : Rd w w.heap.size 5 Rid.cells B l) :
    Calls Try.prog 18 #[.slice A l.length cap, .slice B l.length cap'] w fun e w' => e = .returned (.bool true) ∧ Below w.heap.size w w' := by
  have hb : ((l.length : Int) != l.length) = false := by simp
  go_enter Try.func18, Try.ntmps18
  go_wp2_with fail
  go_loopw [5] (fun i wr => ∃ k : Nat, k ≤ l.length ∧ i = .int .i64 k ∧ Below w.heap.size w wr) (fun i _ => l.length - (intOf i).toNat)
  case atStart => exact ⟨0, Nat.zero_le _, rfl, Below.refl _ _⟩
  case round =>
    obtain ⟨k, hk, rfl, hbel⟩ := hrel
    have HB := Lib.hid hbel
    by_cases hlt : k < l.length
    · obtain ⟨b, off, rfl, hb1, hc0, hc1, hc2, hc3, hc4⟩ := Rid.rd (hr.below hbel (Nat.le_refl _)) hlt
      obtain ⟨b', off', rfl, hb2, hd0, hd1, hd2, hd3, hd4⟩ := Rid.rd (hr'.below hbel (Nat.le_refl _)) hlt
      have z1 := hbel.size
      have l1 : b < wr.heap.size := by omega
      have l2 : b' < wr.heap.size := by omega
      have i1 : (0 : Int) ≤ (k : Int) := by omega
      have i2 : (k : Int) < l.length := by omega
      clear hbel
      go_wp2_with fail
      refine wp_region_mem (by kernel_rfl) (by kernel_rfl) ?_
      repeat (go_big_quiet_step ((go_at_call 56; exact mem_of (eqRide_same _ _))))
      refine wpQuiet_nil ?_
      intro _ hw'
      obtain ⟨⟨wq, hbq⟩, hw''⟩ := hw'
      obtain rfl := hw''.symm
      obtain ⟨hcq, hfq, hzq⟩ := bcell hbq
      try simp [Nat.add_one_le_iff] at hzq
      go_wp2_with fail
      go_roundw
      case rel => exact ⟨k + 1, by omega, by go_num, HB.out.trans (hbq.mono z1)⟩
      case measure => simp [intOf]; omega
    · clear hbel
      obtain rfl : k = l.length := by omega
      go_wp2_with fail
      go_ret
      exact ⟨rfl, HB.out⟩
theorem szRideS_yes (l : List Rid) (A : Option Addr) (cap : Nat) (left : Int) (w : World) (h0 : 0 ≤ left) (h1 : left ≤ 1048576) (hl : l.length ≤ maxLen) (h : (l.length : Int) ≤ left) :
    Calls Try.prog 14 #[.slice A l.length cap, .int .i64 left] w fun e w' => e = .returned (.int .i64 (left - l.length)) ∧ w = w' := by
  unfold maxLen at hl
  go_enter Try.func14, Try.ntmps14
  go_wp2_with fail
  go_ret
  exact ⟨rfl, rfl⟩
theorem szRideS_no (l : List Rid) (A : Option Addr) (cap : Nat) (left : Int) (w : World) (h0 : 0 ≤ left) (h1 : left ≤ 1048576) (hl : l.length ≤ maxLen) (h : left < (l.length : Int)) :
    Calls Try.prog 14 #[.slice A l.length cap, .int .i64 left] w fun e w' => e = .returned (.int .i64 (-1)) ∧ w = w' := by
  unfold maxLen at hl
  go_enter Try.func14, Try.ntmps14
  go_wp2_with fail
  go_ret
  exact ⟨rfl, rfl⟩
def okR (x : Rid) : Bool := inR x.f 0 5 && inR x.t 0 5 && !(x.f == x.t) && inR x.d 0 1439 && inR x.a (x.d + 1) 1439 && inR x.s 0 500
def goodR (l : List Rid) : Bool := decide (l.length ≤ 12) && !anyTo l.length (fun i => !okR (nth l i))
theorem okR_true {x : Rid} : okR x = true ↔ (0 ≤ x.f ∧ x.f ≤ 5) ∧ (0 ≤ x.t ∧ x.t ≤ 5) ∧ x.f ≠ x.t ∧ (0 ≤ x.d ∧ x.d ≤ 1439) ∧ (x.d + 1 ≤ x.a ∧ x.a ≤ 1439) ∧ (0 ≤ x.s ∧ x.s ≤ 500) := by
  simp only [okR, Bool.and_eq_true, inR_true, Bool.not_eq_true', beq_eq_false_iff_ne, ne_eq, and_assoc]
theorem goodR_true {l : List Rid} (h : goodR l = true) : l.length ≤ 12 ∧ ∀ i, i < l.length → okR (nth l i) = true := by
  simp only [goodR, Bool.and_eq_true, decide_eq_true_eq, Bool.not_eq_true'] at h
  exact ⟨h.1, fun i hi => by simpa using anyTo_false h.2 i hi⟩
theorem goodR_no {l : List Rid} {k : Nat} (hk : k < l.length) (h : okR (nth l k) = false) : goodR l = false := by
  have := anyTo_yes (p := fun i => !okR (nth l i)) hk (by simp [h])
  simp [goodR, this]
theorem goodR_all {l : List Rid} (h : ∀ i, i < l.length → okR (nth l i) = true) : goodR l = decide (l.length ≤ 12) := by
  have := anyTo_none (n := l.length) (p := fun i => !okR (nth l i)) (fun i hi => by simp [h i hi])
  simp [goodR, this]
theorem isStop_c (n : Int) (w : World) : Calls Try.prog 53 #[.int .i64 n] w fun e w' => e = .returned (.bool (inR n 0 5)) ∧ w = w' := by
  go_enter Try.func53, Try.ntmps53
  go_wp2_with (go_at_call 55; refine (within_c _ _ _ _).mono ?_; rintro e w' ⟨rfl, rfl⟩)
  go_ret
  exact ⟨rfl, rfl⟩
theorem isMinute_c (n : Int) (w : World) : Calls Try.prog 54 #[.int .i64 n] w fun e w' => e = .returned (.bool (inR n 0 1439)) ∧ w = w' := by
  go_enter Try.func54, Try.ntmps54
  go_wp2_with (go_at_call 55; refine (within_c _ _ _ _).mono ?_; rintro e w' ⟨rfl, rfl⟩)
  go_ret
  exact ⟨rfl, rfl⟩
theorem l15Stop_c (n : Int) (w : World) : Calls Try.prog 58 #[.int .i64 n] w fun e w' => e = .returned (.bool (inR n 0 5)) ∧ w = w' := by
  go_enter Try.func58, Try.ntmps58
  go_wp2_with (go_at_call 59; refine (l1In_c _ _ _ _).mono ?_; rintro e w' ⟨rfl, rfl⟩)
  go_ret
  exact ⟨rfl, rfl⟩
theorem l15Minute_c (n : Int) (w : World) : Calls Try.prog 57 #[.int .i64 n] w fun e w' => e = .returned (.bool (inR n 0 1439)) ∧ w = w' := by
  go_enter Try.func57, Try.ntmps57
  go_wp2_with (go_at_call 59; refine (l1In_c _ _ _ _).mono ?_; rintro e w' ⟨rfl, rfl⟩)
  go_ret
  exact ⟨rfl, rfl⟩
theorem rideClo_c (x : Rid) (w : World) : Calls Try.prog 52 #[.agg #[.int .i64 x.f, .int .i64 x.t, .int .i64 x.d, .int .i64 x.a, .int .i64 x.s]] w fun e w' => e = .returned (.bool (!okR x)) ∧ Below w.heap.size w w' := by
  rcases hd : inR x.d 0 1439 with _ | _
  · go_enter Try.func52, Try.ntmps52
    go_wp2_with (first | (go_at_call 55; refine (within_c _ _ _ _).mono ?_; rintro e w' ⟨rfl, rfl⟩) | (go_at_call 53; refine (isStop_c _ _).mono ?_; rintro e w' ⟨rfl, rfl⟩) | (go_at_call 54; refine (isMinute_c _ _).mono ?_; rintro e w' ⟨rfl, rfl⟩))
    all_goals (go_ret; exact ⟨retb (by simp [okR, *]), (by repeat (first | (with_reducible exact Below.refl _ _) | ((with_reducible refine alloc_ ?_ ?_); (focus (first | exact Nat.le_refl _ | (simp; done) | (simp; omega) | omega))) | ((with_reducible refine set_ ?_ ?_); (focus (first | exact Nat.le_refl _ | (simp; done) | (simp; omega) | omega))) | (with_reducible refine Below.drew ?_) | ((with_reducible refine after_ ?_ (by assumption) ?_); (rotate_left; (focus (first | exact Nat.le_refl _ | (simp; done) | (simp; omega) | omega))))))⟩)
  · obtain ⟨d1, d2⟩ := inR_true.1 hd
    go_enter Try.func52, Try.ntmps52
    go_wp2_with (first | (go_at_call 55; refine (within_c _ _ _ _).mono ?_; rintro e w' ⟨rfl, rfl⟩) | (go_at_call 53; refine (isStop_c _ _).mono ?_; rintro e w' ⟨rfl, rfl⟩) | (go_at_call 54; refine (isMinute_c _ _).mono ?_; rintro e w' ⟨rfl, rfl⟩))
    all_goals (go_ret; exact ⟨retb (by simp [okR, *]), (by repeat (first | (with_reducible exact Below.refl _ _) | ((with_reducible refine alloc_ ?_ ?_); (focus (first | exact Nat.le_refl _ | (simp; done) | (simp; omega) | omega))) | ((with_reducible refine set_ ?_ ?_); (focus (first | exact Nat.le_refl _ | (simp; done) | (simp; omega) | omega))) | (with_reducible refine Below.drew ?_) | ((with_reducible refine after_ ?_ (by assumption) ?_); (rotate_left; (focus (first | exact Nat.le_refl _ | (simp; done) | (simp; omega) | omega))))))⟩)
def Foundride (l : List Rid) (p : Rid → Bool) (w : World) (e : Ending) (w' : World) : Prop := ∃ r : Int, e = .returned (.int .i64 r) ∧ decide (0 ≤ r) = anyTo l.length (fun j => p (nth l j)) ∧ Below w.heap.size w w'
theorem rideIndex_c (l : List Rid) (A : Option Addr) (n cap : Nat) (w : World) (hn : n = l.length) (hl : l.length ≤ maxLen) (hr : Rd w w.heap.size 5 Rid.cells A l)  (p : Rid → Bool)
    (hclo : ∀ (x : Rid) (w' : World), Below w.heap.size w w' → Calls Try.prog 52 #[.agg #[.int .i64 x.f, .int .i64 x.t, .int .i64 x.d, .int .i64 x.a, .int .i64 x.s]] w' fun e w'' => e = .returned (.bool (p x)) ∧ Below w'.heap.size w' w'') :
    Calls Try.prog 73 #[.slice A n cap, .func (.func 52) #[] #[]] w (Foundride l p w) := by
  subst hn
  have HC := Lib.hid hclo
  clear hclo
  unfold maxLen at hl
  go_enter Try.func73, Try.ntmps73
  go_wp2_with fail
  go_loopw [5, 8] (fun _ i wr => ∃ k : Nat, k ≤ l.length ∧ i = .int .i64 k ∧ (∀ j, j < k → p (nth l j) = false) ∧ Below w.heap.size w wr) (fun _ i _ => l.length - (intOf i).toNat)
  case atStart => exact ⟨0, Nat.zero_le _, rfl, fun j hj => absurd hj (by omega), Below.refl _ _⟩
  case round =>
    obtain ⟨k, hk, rfl, hall, hbel⟩ := hrel
    have HB := Lib.hid hbel
    have HA := Lib.hid hall
    clear hall
    by_cases hlt : k < l.length
    · obtain ⟨b, off, rfl, hb1, hcs⟩ := Rid.rd (hr.below hbel (Nat.le_refl _)) hlt
      have z1 := hbel.size
      clear hbel
      go_wp2_with fail
      refine (HC.out (nth l k) _ HB.out).mono ?_
      rintro e w1 ⟨rfl, hb2⟩
      have HB2 := Lib.hid (HB.out.trans (hb2.mono z1))
      clear hb2
      rcases hp : p (nth l k) with _ | _
      · go_wp2_with fail
        go_roundw
        case rel => exact ⟨k + 1, by omega, by go_num, below_add HA.out hp, HB2.out⟩
        case measure => simp [intOf]; omega
      · go_wp2_with fail
        go_ret
        exact ⟨k, rfl, by rw [anyTo_yes hlt hp]; simp, HB2.out⟩
    · clear hbel
      obtain rfl : k = l.length := by omega
      go_wp2_with fail
      go_ret
      exact ⟨-1, rfl, by rw [anyTo_none HA.out]; rfl, HB.out⟩
theorem rideContains_c (l : List Rid) (A : Option Addr) (n cap : Nat) (w : World) (hn : n = l.length) (hl : l.length ≤ maxLen) (hr : Rd w w.heap.size 5 Rid.cells A l)  (p : Rid → Bool)
    (hclo : ∀ (x : Rid) (w' : World), Below w.heap.size w w' → Calls Try.prog 52 #[.agg #[.int .i64 x.f, .int .i64 x.t, .int .i64 x.d, .int .i64 x.a, .int .i64 x.s]] w' fun e w'' => e = .returned (.bool (p x)) ∧ Below w'.heap.size w' w'') :
    Calls Try.prog 51 #[.slice A n cap, .func (.func 52) #[] #[]] w fun e w' => e = .returned (.bool (anyTo l.length fun j => p (nth l j))) ∧ Below w.heap.size w w' := by
  subst hn
  have HC := Lib.hid hclo
  clear hclo
  go_enter Try.func51, Try.ntmps51
  go_wp2_with fail
  refine (rideIndex_c l _ _ _ _ rfl hl hr  p HC.out).mono ?_
  rintro e w1 ⟨r, rfl, hd, hb1⟩
  have HD := Lib.hid hd
  clear hd
  go_wp2_with fail
  go_ret
  exact ⟨retb HD.out, hb1⟩
theorem IsTimetable_c (l : List Rid) (A : Option Addr) (cap : Nat) (w : World) (hl : l.length ≤ 1048576) (hr : Rd w w.heap.size 5 Rid.cells A l) :
    Calls Try.prog 17 #[.slice A l.length cap] w fun e w' => e = .returned (.bool (goodR l)) ∧ Below w.heap.size w w' := by
  by_cases hn : l.length ≤ 12
  · go_enter Try.func17, Try.ntmps17
    go_wp2_with fail
    refine (rideContains_c l _ _ _ _ rfl (by unfold maxLen; omega) hr (fun x => !okR x) (fun x w' _ => rideClo_c x w')).mono ?_
    rintro e w1 ⟨rfl, hb1⟩
    go_wp2_with fail
    go_ret
    exact ⟨retb (by simp [goodR, hn]), hb1⟩
  · go_enter Try.func17, Try.ntmps17
    go_wp2_with fail
    go_ret
    exact ⟨retb (by simp [goodR, hn]), Below.refl _ _⟩
theorem l15Good_c (l : List Rid) (A : Option Addr) (cap : Nat) (w : World) (hl : l.length ≤ 1048576) (hr : Rd w w.heap.size 5 Rid.cells A l) :
    Calls Try.prog 49 #[.slice A l.length cap] w fun e w' => e = .returned (.bool (goodR l)) ∧ Below w.heap.size w w' := by
  go_enter Try.func49, Try.ntmps49
  go_wp2_with fail
  go_loopw [3, 4] (fun i _ wr => ∃ k : Nat, k ≤ l.length ∧ i = .int .i64 k ∧ (∀ j, j < k → okR (nth l j) = true) ∧ Below w.heap.size w wr) (fun i _ _ => l.length - (intOf i).toNat)
  case atStart => exact ⟨0, Nat.zero_le _, rfl, fun j hj => absurd hj (by omega), Below.refl _ _⟩
  case round =>
    obtain ⟨k, hk, rfl, hall, hbel⟩ := hrel
    have HB := Lib.hid hbel
    have HA := Lib.hid hall
    clear hall
    by_cases hlt : k < l.length
    · obtain ⟨b, off, rfl, hb1, hcs⟩ := Rid.rd (hr.below hbel (Nat.le_refl _)) hlt
      have z1 := hbel.size
      clear hbel
      rcases h1 : okR (nth l k) with _ | _
      · have H := Lib.hid (goodR_no hlt h1)
        have H1 := Lib.hid h1
        clear h1
        rcases ha : inR (nth l k).a 0 1439 with _ | _
        · go_wp2_with (first | (go_at_call 59; refine (l1In_c _ _ _ _).mono ?_; rintro e w' ⟨rfl, rfl⟩) | (go_at_call 58; refine (l15Stop_c _ _).mono ?_; rintro e w' ⟨rfl, rfl⟩) | (go_at_call 57; refine (l15Minute_c _ _).mono ?_; rintro e w' ⟨rfl, rfl⟩))
          all_goals (go_ret; exact ⟨retb H.out.symm, (HB.out.trans (Below.mono (B := wr.heap.size) (by repeat (first | (with_reducible exact Below.refl _ _) | ((with_reducible refine alloc_ ?_ ?_); (focus (first | exact Nat.le_refl _ | (simp; done) | (simp; omega) | omega))) | ((with_reducible refine set_ ?_ ?_); (focus (first | exact Nat.le_refl _ | (simp; done) | (simp; omega) | omega))) | (with_reducible refine Below.drew ?_) | ((with_reducible refine after_ ?_ (by assumption) ?_); (rotate_left; (focus (first | exact Nat.le_refl _ | (simp; done) | (simp; omega) | omega)))))) z1))⟩)
        · obtain ⟨a1, a2⟩ := inR_true.1 ha
          go_wp2_with (first | (go_at_call 59; refine (l1In_c _ _ _ _).mono ?_; rintro e w' ⟨rfl, rfl⟩) | (go_at_call 58; refine (l15Stop_c _ _).mono ?_; rintro e w' ⟨rfl, rfl⟩) | (go_at_call 57; refine (l15Minute_c _ _).mono ?_; rintro e w' ⟨rfl, rfl⟩))
          all_goals first
            | (go_ret; exact ⟨retb H.out.symm, (HB.out.trans (Below.mono (B := wr.heap.size) (by repeat (first | (with_reducible exact Below.refl _ _) | ((with_reducible refine alloc_ ?_ ?_); (focus (first | exact Nat.le_refl _ | (simp; done) | (simp; omega) | omega))) | ((with_reducible refine set_ ?_ ?_); (focus (first | exact Nat.le_refl _ | (simp; done) | (simp; omega) | omega))) | (with_reducible refine Below.drew ?_) | ((with_reducible refine after_ ?_ (by assumption) ?_); (rotate_left; (focus (first | exact Nat.le_refl _ | (simp; done) | (simp; omega) | omega)))))) z1))⟩)
            | (exfalso; have h := H1.out; simp [okR, inR, *] at *; omega)
      · have H1 := Lib.hid h1
        obtain ⟨⟨a1, a2⟩, ⟨a3, a4⟩, a5, ⟨a6, a7⟩, ⟨a8, a9⟩, a10, a11⟩ := okR_true.1 h1
        have e1 : inR (nth l k).f 0 5 = true := inR_true.2 ⟨a1, a2⟩
        have e2 : inR (nth l k).t 0 5 = true := inR_true.2 ⟨a3, a4⟩
        have e3 : ((nth l k).f == (nth l k).t) = false := by rw [beq_eq_false_iff_ne]; exact a5
        have e4 : inR (nth l k).d 0 ((nth l k).a - 1) = true := inR_true.2 ⟨a6, by omega⟩
        have e5 : inR (nth l k).a 0 1439 = true := inR_true.2 ⟨by omega, a9⟩
        have e6 : inR (nth l k).s 0 500 = true := inR_true.2 ⟨a10, a11⟩
        have a12 : 0 ≤ (nth l k).a := by omega
        clear h1 a5
        go_wp2_with (first | (go_at_call 59; refine (l1In_c _ _ _ _).mono ?_; rintro e w' ⟨rfl, rfl⟩) | (go_at_call 58; refine (l15Stop_c _ _).mono ?_; rintro e w' ⟨rfl, rfl⟩) | (go_at_call 57; refine (l15Minute_c _ _).mono ?_; rintro e w' ⟨rfl, rfl⟩))
        go_roundw
        case rel => exact ⟨k + 1, by omega, by go_num, below_add HA.out H1.out, (HB.out.trans (Below.mono (B := wr.heap.size) (by repeat (first | (with_reducible exact Below.refl _ _) | ((with_reducible refine alloc_ ?_ ?_); (focus (first | exact Nat.le_refl _ | (simp; done) | (simp; omega) | omega))) | ((with_reducible refine set_ ?_ ?_); (focus (first | exact Nat.le_refl _ | (simp; done) | (simp; omega) | omega))) | (with_reducible refine Below.drew ?_) | ((with_reducible refine after_ ?_ (by assumption) ?_); (rotate_left; (focus (first | exact Nat.le_refl _ | (simp; done) | (simp; omega) | omega)))))) z1))⟩
        case measure => simp [intOf]; omega
    · obtain rfl : k = l.length := by omega
      clear hbel
      have H := Lib.hid (goodR_all HA.out)
      go_wp2_with fail
      go_ret
      exact ⟨retb (by rw [H.out]; simp; omega), HB.out⟩
theorem specIsTimetable_c (l : List Rid) (A : Option Addr) (cap : Nat) (w : World) (hl : l.length ≤ 1048576) (hr : Rd w w.heap.size 5 Rid.cells A l) :
    Calls Try.prog 15 #[.slice A l.length cap] w fun e w' => e = .returned (.bool (goodR l)) ∧ Below w.heap.size w w' := by
  go_enter Try.func15, Try.ntmps15
  go_wp2_with fail
  refine (l15Good_c l _ _ _ hl hr).mono ?_
  rintro e w1 ⟨rfl, hb1⟩
  go_wp2_with fail
  go_ret
  exact ⟨rfl, hb1⟩
end Go.Proofs.Ytddnemmdlijgiaa
