/- BusyDays of the program and of the reference return one Lean function; no conditions but the lengths. -/
import Derived.Test.YtokddcnkfeimkaaPlan
import Derived.Test.YtokddcnkfeimkaaSlack
namespace Go.Proofs.Ytokddcnkfeimkaa
open Go.RowKit

theorem l1Least_c (a b : Int) (w : World) : Calls Try.prog 64 #[.int .i64 a, .int .i64 b] w fun e w' => e = .returned (.int .i64 (min a b)) ∧ w = w' := by
  by_cases h : a < b
  all_goals
    go_enter Try.func64, Try.ntmps64
    go_wp2_with fail
    go_ret
    exact ⟨reti (by omega), rfl⟩
theorem l1Most_c (a b : Int) (w : World) : Calls Try.prog 63 #[.int .i64 a, .int .i64 b] w fun e w' => e = .returned (.int .i64 (max a b)) ∧ w = w' := by
  by_cases h : b < a
  all_goals
    go_enter Try.func63, Try.ntmps63
    go_wp2_with fail
    go_ret
    exact ⟨reti (by omega), rfl⟩
/-- How many days of a span a task has. -/
def busyOne (x : Tsk) (p f t : Int) : Int := max (min (p + x.d - 1) t - max p f + 1) 0
def busyTo (l : List Tsk) (p : List Int) (f t : Int) : Nat → Int
  | 0 => 0
  | k + 1 => busyTo l p f t k + busyOne (nth l k) (nth p k) f t
def busy (l : List Tsk) (p : List Int) (f t : Int) : Int × Bool := if goodK l && planB l p && inR f 0 t && decide (t ≤ 400) then (busyTo l p f t l.length, true) else (0, false)
theorem busyOne_bd {x : Tsk} {p f t : Int} (_h1 : 0 ≤ p) (_h2 : p ≤ 400) (h3 : 1 ≤ x.d) (h4 : x.d ≤ 30) : 0 ≤ busyOne x p f t ∧ busyOne x p f t ≤ 30 := by unfold busyOne; omega
theorem planB_in {l : List Tsk} {p : List Int} (h : planB l p = true) : p.length = l.length ∧ ∀ i, i < l.length → (nth l i).f ≤ nth p i ∧ nth p i ≤ lastS (nth l i) := by
  simp only [planB, Bool.and_eq_true, decide_eq_true_eq, allTo_true] at h
  exact ⟨h.1, fun i hi => okP_in (h.2 i hi)⟩
theorem busyTo_bd {l : List Tsk} {p : List Int} {f t : Int} (h : ∀ i, i < l.length → okK (nth l i) = true) (hp : planB l p = true) : ∀ k, k ≤ l.length → 0 ≤ busyTo l p f t k ∧ busyTo l p f t k ≤ 30 * k
  | 0, _ => by simp [busyTo]
  | k + 1, hk => by
    have ih := busyTo_bd (f := f) (t := t) h hp k (by omega)
    obtain ⟨⟨_, _⟩, ⟨e3, e4⟩, ⟨e5, e6⟩, ⟨e7, e8⟩⟩ := okK_true.1 (h k (by omega))
    obtain ⟨g1, g2⟩ := (planB_in hp).2 k (by omega)
    unfold lastS at g2
    have := busyOne_bd (x := nth l k) (p := nth p k) (f := f) (t := t) (by omega) (by omega) e3 e4
    rw [busyTo]; omega
theorem busy_no {l : List Tsk} {p : List Int} {f t : Int} (h : (goodK l && planB l p && inR f 0 t && decide (t ≤ 400)) = false) : busy l p f t = (0, false) := by rw [busy, if_neg (by simp [h])]
theorem busy_yes {l : List Tsk} {p : List Int} {f t : Int} (h : (goodK l && planB l p && inR f 0 t && decide (t ≤ 400)) = true) : busy l p f t = (busyTo l p f t l.length, true) := by rw [busy, if_pos h]
theorem implBusyDays_c (l : List Tsk) (p : List Int) (A B : Option Addr) (cap cap' : Nat) (f t : Int) (w : World) (hl : l.length ≤ 1048576) (hp : p.length ≤ 1048576) (hr : Rd w w.heap.size 4 Tsk.cells A l) (hs : Rd w w.heap.size 1 intCells B p) :
    Calls Try.prog 30 #[.slice A l.length cap, .slice B p.length cap', .int .i64 f, .int .i64 t] w fun e w' => e = .returned (.tuple #[.int .i64 (busy l p f t).1, .bool (busy l p f t).2]) ∧ Below w.heap.size w w' := by
  rcases hg : goodK l with _ | _
  · have H := Lib.hid (busy_no (l := l) (p := p) (f := f) (t := t) (by simp [hg]))
    go_enter Try.func30, Try.ntmps30
    go_wp2_with fail
    refine (AreTasks_c l _ _ _ hl hr).mono ?_
    rintro e w1 ⟨rfl, hb1⟩
    go_wp2_with fail
    go_ret2
    exact ⟨rett2 H.out rfl rfl, hb1⟩
  have HG := Lib.hid (goodK_true hg)
  rcases hq : planB l p with _ | _
  · have H := Lib.hid (busy_no (l := l) (p := p) (f := f) (t := t) (by simp [hq]))
    go_enter Try.func30, Try.ntmps30
    go_wp2_with fail
    refine (AreTasks_c l _ _ _ hl hr).mono ?_
    rintro e w1 ⟨rfl, hb1⟩
    have hr1 := hr.carry hb1
    have hs1 := hs.carry hb1
    have HB1 := Lib.hid hb1
    clear hb1
    go_wp2_with fail
    refine (isTaskPlan_c l p _ _ _ _ _ hr1 hs1 hp HG.out).mono ?_
    rintro e w2 ⟨rfl, hb2⟩
    go_wp2_with fail
    go_ret2
    exact ⟨rett2 H.out rfl rfl, HB1.out.trans (hb2.mono HB1.out.size)⟩
  rcases hx : inR f 0 t with _ | _
  · have H := Lib.hid (busy_no (l := l) (p := p) (f := f) (t := t) (by simp [hx]))
    go_enter Try.func30, Try.ntmps30
    go_wp2_with fail
    refine (AreTasks_c l _ _ _ hl hr).mono ?_
    rintro e w1 ⟨rfl, hb1⟩
    have hr1 := hr.carry hb1
    have hs1 := hs.carry hb1
    have HB1 := Lib.hid hb1
    clear hb1
    go_wp2_with fail
    refine (isTaskPlan_c l p _ _ _ _ _ hr1 hs1 hp HG.out).mono ?_
    rintro e w2 ⟨rfl, hb2⟩
    go_wp2_with (go_at_call 65; refine (within_c _ _ _ _).mono ?_; rintro e w' ⟨rfl, rfl⟩)
    go_ret2
    exact ⟨rett2 H.out rfl rfl, HB1.out.trans (hb2.mono HB1.out.size)⟩
  by_cases ht : t ≤ 400
  case neg =>
    have H := Lib.hid (busy_no (l := l) (p := p) (f := f) (t := t) (by simp [ht]))
    go_enter Try.func30, Try.ntmps30
    go_wp2_with fail
    refine (AreTasks_c l _ _ _ hl hr).mono ?_
    rintro e w1 ⟨rfl, hb1⟩
    have hr1 := hr.carry hb1
    have hs1 := hs.carry hb1
    have HB1 := Lib.hid hb1
    clear hb1
    go_wp2_with fail
    refine (isTaskPlan_c l p _ _ _ _ _ hr1 hs1 hp HG.out).mono ?_
    rintro e w2 ⟨rfl, hb2⟩
    go_wp2_with (go_at_call 65; refine (within_c _ _ _ _).mono ?_; rintro e w' ⟨rfl, rfl⟩)
    go_ret2
    exact ⟨rett2 H.out rfl rfl, HB1.out.trans (hb2.mono HB1.out.size)⟩
  have H := Lib.hid (busy_yes (l := l) (p := p) (f := f) (t := t) (by simp [hg, hq, hx, ht]))
  have HP := Lib.hid (planB_in hq)
  have HT := Lib.hid (busyTo_bd (f := f) (t := t) HG.out.2 hq)
  obtain ⟨x1, x2⟩ := inR_true.1 hx
  have hl8 := HG.out.1
  go_enter Try.func30, Try.ntmps30
  go_wp2_with fail
  refine (AreTasks_c l _ _ _ hl hr).mono ?_
  rintro e w1 ⟨rfl, hb1⟩
  have hr1 := hr.carry hb1
  have hs1 := hs.carry hb1
  have HB1 := Lib.hid hb1
  clear hb1
  go_wp2_with fail
  refine (isTaskPlan_c l p _ _ _ _ _ hr1 hs1 hp HG.out).mono ?_
  rintro e w2 ⟨rfl, hb2⟩
  have hr2 := hr1.carry hb2
  have hs2 := hs1.carry hb2
  have HB2 := Lib.hid (HB1.out.trans (hb2.mono HB1.out.size))
  clear hb2 hr1 hs1
  go_wp2_with (go_at_call 65; refine (within_c _ _ _ _).mono ?_; rintro e w' ⟨rfl, rfl⟩)
  clear hg hq hx
  go_loopw [10, 11, 12, 34] (fun s _ _ i wr => ∃ k : Nat, k ≤ l.length ∧ i = .int .i64 k ∧ s = .int .i64 (busyTo l p f t k) ∧ Below w2.heap.size w2 wr) (fun _ _ _ i _ => l.length - (intOf i).toNat)
  case atStart => exact ⟨0, Nat.zero_le _, rfl, rfl, Below.refl _ _⟩
  case round =>
    obtain ⟨k, hk, rfl, rfl, hbel⟩ := hrel
    have HB := Lib.hid hbel
    have z1 := hbel.size
    obtain ⟨y1, y2⟩ := HT.out k hk
    by_cases hlt : k < l.length
    · have hlp : k < p.length := by have := HP.out.1; omega
      obtain ⟨b, off, rfl, hb1, hc0, hc1, hc2, hc3⟩ := Tsk.rd (hr2.below hbel (Nat.le_refl _)) hlt
      obtain ⟨b', off', rfl, hb2, hd⟩ := (hs2.below hbel (Nat.le_refl _)).int hlp
      have l1 : b < wr.heap.size := by omega
      have l2 : b' < wr.heap.size := by omega
      have i1 : (0 : Int) ≤ (k : Int) := by omega
      have i2 : (k : Int) < p.length := by omega
      obtain ⟨⟨e1, e2⟩, ⟨e3, e4⟩, ⟨e5, e6⟩, ⟨e7, e8⟩⟩ := okK_true.1 (HG.out.2 k hlt)
      obtain ⟨g1, g2⟩ := HP.out.2 k hlt
      unfold lastS at g2
      have bd := busyOne_bd (x := nth l k) (p := nth p k) (f := f) (t := t) (by omega) (by omega) e3 e4
      clear hbel
      have s1 : IntKind.i64.wrap (nth p k + (nth l k).d) = nth p k + (nth l k).d := IntWalk.i64_in _ (by omega)
      have s2 : IntKind.i64.wrap (nth p k + (nth l k).d - 1) = nth p k + (nth l k).d - 1 := IntWalk.i64_in _ (by omega)
      go_wp2_with fail
      refine wp_region_mem (by kernel_rfl) (by kernel_rfl) ?_
      repeat (go_big_quiet_step (fail))
      refine wpQuiet_nil ?_
      intro _ hw'
      obtain ⟨⟨wq, hbq⟩, hw''⟩ := hw'
      obtain rfl := hw''.symm
      obtain ⟨hcq, hfq, hzq⟩ := bcell hbq
      try simp [Nat.add_one_le_iff] at hzq
      clear s1 s2
      go_wp2_with fail
      go_roundw
      case rel => exact ⟨k + 1, by omega, by go_num, by rw [busyTo, busyOne], HB.out.trans (Below.mono (by repeat (first | (with_reducible exact Below.refl _ _) | ((with_reducible refine alloc_ ?_ ?_); (focus (first | exact Nat.le_refl _ | (simp; done) | (simp; omega) | omega))) | ((with_reducible refine set_ ?_ ?_); (focus (first | exact Nat.le_refl _ | (simp; done) | (simp; omega) | omega))) | (with_reducible refine Below.drew ?_) | ((with_reducible refine after_ ?_ (by assumption) ?_); (rotate_left; (focus (first | exact Nat.le_refl _ | (simp; done) | (simp; omega) | omega)))))) z1)⟩
      case measure => simp [intOf]; omega
    · obtain rfl : k = l.length := by omega
      clear hbel
      go_wp2_with fail
      go_ret2
      exact ⟨rett2 H.out rfl rfl, HB2.out.trans (HB.out.mono HB2.out.size)⟩
theorem specBusyDays_c (l : List Tsk) (p : List Int) (A B : Option Addr) (cap cap' : Nat) (f t : Int) (w : World) (hl : l.length ≤ 1048576) (hp : p.length ≤ 1048576) (hr : Rd w w.heap.size 4 Tsk.cells A l) (hs : Rd w w.heap.size 1 intCells B p) :
    Calls Try.prog 29 #[.slice A l.length cap, .slice B p.length cap', .int .i64 f, .int .i64 t] w fun e w' => e = .returned (.tuple #[.int .i64 (busy l p f t).1, .bool (busy l p f t).2]) ∧ Below w.heap.size w w' := by
  rcases hg : goodK l with _ | _
  · have H := Lib.hid (busy_no (l := l) (p := p) (f := f) (t := t) (by simp [hg]))
    go_enter Try.func29, Try.ntmps29
    go_wp2_with fail
    refine (l16Good_c l _ _ _ hl hr).mono ?_
    rintro e w1 ⟨rfl, hb1⟩
    go_wp2_with fail
    go_ret2
    exact ⟨rett2 H.out rfl rfl, hb1⟩
  have HG := Lib.hid (goodK_true hg)
  rcases hq : planB l p with _ | _
  · have H := Lib.hid (busy_no (l := l) (p := p) (f := f) (t := t) (by simp [hq]))
    go_enter Try.func29, Try.ntmps29
    go_wp2_with fail
    refine (l16Good_c l _ _ _ hl hr).mono ?_
    rintro e w1 ⟨rfl, hb1⟩
    have hr1 := hr.carry hb1
    have hs1 := hs.carry hb1
    have HB1 := Lib.hid hb1
    clear hb1
    go_wp2_with fail
    refine (l16Plan_c l p _ _ _ _ _ hr1 hs1 hp HG.out).mono ?_
    rintro e w2 ⟨rfl, hb2⟩
    go_wp2_with fail
    go_ret2
    exact ⟨rett2 H.out rfl rfl, HB1.out.trans (hb2.mono HB1.out.size)⟩
  rcases hx : inR f 0 400 with _ | _
  · have H := Lib.hid (busy_no (l := l) (p := p) (f := f) (t := t) (by
      rcases inR_false.1 hx with h | h
      · simp [show inR f 0 t = false from inR_false.2 (.inl h)]
      · by_cases h2 : t ≤ 400
        · simp [show inR f 0 t = false from inR_false.2 (.inr (by omega))]
        · simp [h2]))
    go_enter Try.func29, Try.ntmps29
    go_wp2_with fail
    refine (l16Good_c l _ _ _ hl hr).mono ?_
    rintro e w1 ⟨rfl, hb1⟩
    have hr1 := hr.carry hb1
    have hs1 := hs.carry hb1
    have HB1 := Lib.hid hb1
    clear hb1
    go_wp2_with fail
    refine (l16Plan_c l p _ _ _ _ _ hr1 hs1 hp HG.out).mono ?_
    rintro e w2 ⟨rfl, hb2⟩
    go_wp2_with (go_at_call 62; refine (l1In_c _ _ _ _).mono ?_; rintro e w' ⟨rfl, rfl⟩)
    go_ret2
    exact ⟨rett2 H.out rfl rfl, HB1.out.trans (hb2.mono HB1.out.size)⟩
  rcases hy : inR t f 400 with _ | _
  · have H := Lib.hid (busy_no (l := l) (p := p) (f := f) (t := t) (by
      rcases inR_false.1 hy with h | h
      · simp [show inR f 0 t = false from inR_false.2 (.inr h)]
      · simp; omega))
    go_enter Try.func29, Try.ntmps29
    go_wp2_with fail
    refine (l16Good_c l _ _ _ hl hr).mono ?_
    rintro e w1 ⟨rfl, hb1⟩
    have hr1 := hr.carry hb1
    have hs1 := hs.carry hb1
    have HB1 := Lib.hid hb1
    clear hb1
    go_wp2_with fail
    refine (l16Plan_c l p _ _ _ _ _ hr1 hs1 hp HG.out).mono ?_
    rintro e w2 ⟨rfl, hb2⟩
    go_wp2_with (go_at_call 62; refine (l1In_c _ _ _ _).mono ?_; rintro e w' ⟨rfl, rfl⟩)
    go_ret2
    exact ⟨rett2 H.out rfl rfl, HB1.out.trans (hb2.mono HB1.out.size)⟩
  obtain ⟨ht0, ht⟩ := inR_true.1 hy
  have H := Lib.hid (busy_yes (l := l) (p := p) (f := f) (t := t) (by
    have h1 : inR f 0 t = true := inR_true.2 ⟨(inR_true.1 hx).1, ht0⟩
    simp [hg, hq, h1, ht]))
  have HP := Lib.hid (planB_in hq)
  have HT := Lib.hid (busyTo_bd (f := f) (t := t) HG.out.2 hq)
  obtain ⟨x1, x2⟩ := inR_true.1 hx
  have hl8 := HG.out.1
  go_enter Try.func29, Try.ntmps29
  go_wp2_with fail
  refine (l16Good_c l _ _ _ hl hr).mono ?_
  rintro e w1 ⟨rfl, hb1⟩
  have hr1 := hr.carry hb1
  have hs1 := hs.carry hb1
  have HB1 := Lib.hid hb1
  clear hb1
  go_wp2_with fail
  refine (l16Plan_c l p _ _ _ _ _ hr1 hs1 hp HG.out).mono ?_
  rintro e w2 ⟨rfl, hb2⟩
  have hr2 := hr1.carry hb2
  have hs2 := hs1.carry hb2
  have HB2 := Lib.hid (HB1.out.trans (hb2.mono HB1.out.size))
  clear hb2 hr1 hs1
  go_wp2_with (go_at_call 62; refine (l1In_c _ _ _ _).mono ?_; rintro e w' ⟨rfl, rfl⟩)
  clear hg hq hx hy
  go_loopw [10, 11] (fun s i wr => ∃ k : Nat, k ≤ l.length ∧ i = .int .i64 k ∧ s = .int .i64 (busyTo l p f t k) ∧ Below w2.heap.size w2 wr) (fun _ i _ => l.length - (intOf i).toNat)
  case atStart => exact ⟨0, Nat.zero_le _, rfl, rfl, Below.refl _ _⟩
  case round =>
    obtain ⟨k, hk, rfl, rfl, hbel⟩ := hrel
    have HB := Lib.hid hbel
    have z1 := hbel.size
    obtain ⟨y1, y2⟩ := HT.out k hk
    by_cases hlt : k < l.length
    · have hlp : k < p.length := by have := HP.out.1; omega
      obtain ⟨b, off, rfl, hb1, hc0, hc1, hc2, hc3⟩ := Tsk.rd (hr2.below hbel (Nat.le_refl _)) hlt
      obtain ⟨b', off', rfl, hb2, hd⟩ := (hs2.below hbel (Nat.le_refl _)).int hlp
      have l1 : b < wr.heap.size := by omega
      have l2 : b' < wr.heap.size := by omega
      have i1 : (0 : Int) ≤ (k : Int) := by omega
      have i2 : (k : Int) < p.length := by omega
      obtain ⟨⟨e1, e2⟩, ⟨e3, e4⟩, ⟨e5, e6⟩, ⟨e7, e8⟩⟩ := okK_true.1 (HG.out.2 k hlt)
      obtain ⟨g1, g2⟩ := HP.out.2 k hlt
      unfold lastS at g2
      have bd := busyOne_bd (x := nth l k) (p := nth p k) (f := f) (t := t) (by omega) (by omega) e3 e4
      clear hbel
      have s1 : IntKind.i64.wrap (nth p k + (nth l k).d) = nth p k + (nth l k).d := IntWalk.i64_in _ (by omega)
      have s2 : IntKind.i64.wrap (nth p k + (nth l k).d - 1) = nth p k + (nth l k).d - 1 := IntWalk.i64_in _ (by omega)
      have s3 : IntKind.i64.wrap (min t (nth p k + (nth l k).d - 1) - max f (nth p k)) = min t (nth p k + (nth l k).d - 1) - max f (nth p k) := IntWalk.i64_in _ (by omega)
      have s4 : IntKind.i64.wrap (min t (nth p k + (nth l k).d - 1) - max f (nth p k) + 1) = min t (nth p k + (nth l k).d - 1) - max f (nth p k) + 1 := IntWalk.i64_in _ (by omega)
      go_wp2_with fail
      refine wp_region_mem (by kernel_rfl) (by kernel_rfl) ?_
      repeat (go_big_quiet_step (first | (go_at_call 64; exact mem_same (l1Least_c _ _ _)) | (go_at_call 63; exact mem_same (l1Most_c _ _ _))))
      refine wpQuiet_nil ?_
      intro _ hw'
      obtain ⟨⟨wq, hbq⟩, hw''⟩ := hw'
      obtain rfl := hw''.symm
      obtain ⟨hcq, hfq, hzq⟩ := bcell hbq
      try simp [Nat.add_one_le_iff] at hzq
      clear s1 s2 s3 s4
      go_wp2_with fail
      go_roundw
      case rel => exact ⟨k + 1, by omega, by go_num, by rw [busyTo, busyOne]; go_num, HB.out.trans (Below.mono (by repeat (first | (with_reducible exact Below.refl _ _) | ((with_reducible refine alloc_ ?_ ?_); (focus (first | exact Nat.le_refl _ | (simp; done) | (simp; omega) | omega))) | ((with_reducible refine set_ ?_ ?_); (focus (first | exact Nat.le_refl _ | (simp; done) | (simp; omega) | omega))) | (with_reducible refine Below.drew ?_) | ((with_reducible refine after_ ?_ (by assumption) ?_); (rotate_left; (focus (first | exact Nat.le_refl _ | (simp; done) | (simp; omega) | omega)))))) z1)⟩
      case measure => simp [intOf]; omega
    · obtain rfl : k = l.length := by omega
      clear hbel
      have hx : ¬ l.length < p.length := by have := HP.out.1; omega
      go_wp2_with fail
      go_ret2
      exact ⟨rett2 H.out rfl rfl, HB2.out.trans (HB.out.mono HB2.out.size)⟩
end Go.Proofs.Ytokddcnkfeimkaa
