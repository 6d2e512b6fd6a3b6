/- SlackOf of the program and of the reference return one Lean function; no conditions but the length. -/
import Derived.Test.YtokddcnkfeimkaaTasks
namespace Go.Proofs.Ytokddcnkfeimkaa
open Go.RowKit

theorem rett2 {p : Int × Bool} {a b : Int} {c d : Bool} (h : p = (b, d)) (h1 : a = b) (h2 : c = d) : Ending.returned (.tuple #[.int .i64 a, .bool c]) = .returned (.tuple #[.int .i64 p.1, .bool p.2]) := by rw [h, h1, h2]
/-- The first index below n that answers yes. -/
def firstOf (n : Nat) (p : Nat → Bool) : Option Nat := (List.range n).find? p
theorem firstOf_none {n : Nat} {p : Nat → Bool} (h : ∀ j, j < n → p j = false) : firstOf n p = none := by
  simp [firstOf, List.find?_eq_none]; exact h
theorem firstOf_some {n k : Nat} {p : Nat → Bool} (hk : k < n) (hp : p k = true) (h : ∀ j, j < k → p j = false) : firstOf n p = some k := by
  unfold firstOf
  rw [List.find?_eq_some_iff_getElem]
  exact ⟨hp, k, by simpa using hk, by simp, fun j hj => by simp [h j hj]⟩
def hasId (l : List Tsk) (id : Int) (i : Nat) : Bool := decide ((nth l i).i = id)
def findK (l : List Tsk) (id : Int) : Int := match firstOf l.length (hasId l id) with | some k => (k : Int) | none => -1
def slackK (x : Tsk) : Int := x.u - x.f - x.d + 1
def slack (l : List Tsk) (id : Int) : Int × Bool := if goodK l then (match firstOf l.length (hasId l id) with | some k => (slackK (nth l k), true) | none => (0, false)) else (0, false)
theorem l16Find_c (l : List Tsk) (A : Option Addr) (cap : Nat) (id : Int) (w : World) (hl : l.length ≤ 1048576) (hr : Rd w w.heap.size 4 Tsk.cells A l) :
    Calls Try.prog 56 #[.slice A l.length cap, .int .i64 id] w fun e w' => e = .returned (.int .i64 (findK l id)) ∧ w = w' := by
  go_enter Try.func56, Try.ntmps56
  go_wp2_with fail
  go_loop [5] (fun i => ∃ k : Nat, k ≤ l.length ∧ i = .int .i64 k ∧ ∀ j, j < k → hasId l id j = false) (fun i => l.length - (intOf i).toNat)
  case atStart => exact ⟨0, Nat.zero_le _, rfl, fun j hj => absurd hj (by omega)⟩
  case round =>
    obtain ⟨k, hk, rfl, hall⟩ := hrel
    have HA := Lib.hid hall
    clear hall
    by_cases hlt : k < l.length
    · obtain ⟨b, off, rfl, hb1, hcs⟩ := Tsk.rd hr hlt
      by_cases hq : (nth l k).i = id
      · have H := Lib.hid (show findK l id = k by rw [findK, firstOf_some hlt (by simp [hasId, hq]) HA.out])
        go_wp2_with fail
        go_ret
        exact ⟨reti H.out.symm, rfl⟩
      · have H := Lib.hid (show hasId l id k = false by simp [hasId, hq])
        have hq' : ((nth l k).i == id) = false := by simp [hq]
        go_wp2_with fail
        go_round
        case rel => exact ⟨k + 1, by omega, by go_num, below_add HA.out H.out⟩
        case measure => simp [intOf]; omega
    · obtain rfl : k = l.length := by omega
      have H := Lib.hid (show findK l id = -1 by rw [findK, firstOf_none HA.out])
      go_wp2_with fail
      go_ret
      exact ⟨reti H.out.symm, rfl⟩
theorem implSlackOf_c (l : List Tsk) (A : Option Addr) (cap : Nat) (id : Int) (w : World) (hl : l.length ≤ 1048576) (hr : Rd w w.heap.size 4 Tsk.cells A l) :
    Calls Try.prog 20 #[.slice A l.length cap, .int .i64 id] w fun e w' => e = .returned (.tuple #[.int .i64 (slack l id).1, .bool (slack l id).2]) ∧ Below w.heap.size w w' := by
  rcases hg : goodK l with _ | _
  · have H := Lib.hid (show slack l id = (0, false) by simp [slack, hg])
    go_enter Try.func20, Try.ntmps20
    go_wp2_with fail
    refine (AreTasks_c l _ _ _ hl hr).mono ?_
    rintro e w1 ⟨rfl, hb1⟩
    go_wp2_with fail
    go_ret2
    exact ⟨rett2 H.out rfl rfl, hb1⟩
  have HG := Lib.hid (goodK_true hg)
  have HS := Lib.hid (show slack l id = (match firstOf l.length (hasId l id) with | some k => (slackK (nth l k), true) | none => (0, false)) by simp [slack, hg])
  go_enter Try.func20, Try.ntmps20
  go_wp2_with fail
  refine (AreTasks_c l _ _ _ hl hr).mono ?_
  rintro e w1 ⟨rfl, hb1⟩
  have hr1 := hr.carry hb1
  have HB1 := Lib.hid hb1
  clear hb1
  go_wp2_with fail
  clear hg
  go_loopw [7, 13] (fun _ i wr => ∃ k : Nat, k ≤ l.length ∧ i = .int .i64 k ∧ (∀ j, j < k → hasId l id j = false) ∧ Below w1.heap.size w1 wr) (fun _ i _ => l.length - (intOf i).toNat)
  case atStart => exact ⟨0, Nat.zero_le _, rfl, fun j hj => absurd hj (by omega), Below.refl _ _⟩
  case round =>
    obtain ⟨k, hk, rfl, hall, hbel⟩ := hrel
    have HB := Lib.hid hbel
    have HA := Lib.hid hall
    clear hall
    by_cases hlt : k < l.length
    · obtain ⟨b, off, rfl, hb1, hcs⟩ := Tsk.rd (hr1.below hbel (Nat.le_refl _)) hlt
      have z1 := hbel.size
      obtain ⟨⟨e1, e2⟩, ⟨e3, e4⟩, ⟨e5, e6⟩, ⟨e7, e8⟩⟩ := okK_true.1 (HG.out.2 k hlt)
      clear hbel
      by_cases hq : (nth l k).i = id
      · have H := Lib.hid (show slack l id = (slackK (nth l k), true) by rw [HS.out, firstOf_some hlt (by simp [hasId, hq]) HA.out])
        go_wp2_with fail
        go_ret2
        exact ⟨rett2 H.out (by simp [slackK]) rfl, HB1.out.trans (Below.mono (HB.out.trans (Below.mono (B := wr.heap.size) (by repeat (first | (with_reducible exact Below.refl _ _) | ((with_reducible refine alloc_ ?_ ?_); (focus (first | exact Nat.le_refl _ | (simp; done) | (simp; omega) | omega))) | ((with_reducible refine set_ ?_ ?_); (focus (first | exact Nat.le_refl _ | (simp; done) | (simp; omega) | omega))) | (with_reducible refine Below.drew ?_) | ((with_reducible refine after_ ?_ (by assumption) ?_); (rotate_left; (focus (first | exact Nat.le_refl _ | (simp; done) | (simp; omega) | omega)))))) z1)) HB1.out.size)⟩
      · have H := Lib.hid (show hasId l id k = false by simp [hasId, hq])
        have hq' : ((nth l k).i == id) = false := by simp [hq]
        go_wp2_with fail
        go_roundw
        case rel => exact ⟨k + 1, by omega, by go_num, below_add HA.out H.out, (HB.out.trans (Below.mono (B := wr.heap.size) (by repeat (first | (with_reducible exact Below.refl _ _) | ((with_reducible refine alloc_ ?_ ?_); (focus (first | exact Nat.le_refl _ | (simp; done) | (simp; omega) | omega))) | ((with_reducible refine set_ ?_ ?_); (focus (first | exact Nat.le_refl _ | (simp; done) | (simp; omega) | omega))) | (with_reducible refine Below.drew ?_) | ((with_reducible refine after_ ?_ (by assumption) ?_); (rotate_left; (focus (first | exact Nat.le_refl _ | (simp; done) | (simp; omega) | omega)))))) z1))⟩
        case measure => simp [intOf]; omega
    · obtain rfl : k = l.length := by omega
      have H := Lib.hid (show slack l id = (0, false) by rw [HS.out, firstOf_none HA.out])
      have HE := Lib.hid (HB1.out.trans (HB.out.mono HB1.out.size))
      clear hbel
      go_wp2_with fail
      go_ret2
      exact ⟨rett2 H.out rfl rfl, HE.out⟩
theorem firstOf_lt {n k : Nat} {p : Nat → Bool} (h : firstOf n p = some k) : k < n := by
  have := List.mem_of_find?_eq_some h
  simpa using this
theorem specSlackOf_c (l : List Tsk) (A : Option Addr) (cap : Nat) (id : Int) (w : World) (hl : l.length ≤ 1048576) (hr : Rd w w.heap.size 4 Tsk.cells A l) :
    Calls Try.prog 19 #[.slice A l.length cap, .int .i64 id] w fun e w' => e = .returned (.tuple #[.int .i64 (slack l id).1, .bool (slack l id).2]) ∧ Below w.heap.size w w' := by
  rcases hg : goodK l with _ | _
  · have H := Lib.hid (show slack l id = (0, false) by simp [slack, hg])
    go_enter Try.func19, Try.ntmps19
    go_wp2_with fail
    refine (l16Find_c l _ _ id _ hl hr).mono ?_
    rintro e w' ⟨rfl, rfl⟩
    go_wp2_with fail
    refine (l16Good_c l _ _ _ hl hr).mono ?_
    rintro e w1 ⟨rfl, hb1⟩
    go_wp2_with fail
    go_ret2
    exact ⟨rett2 H.out rfl rfl, hb1⟩
  have HG := Lib.hid (goodK_true hg)
  rcases hf : firstOf l.length (hasId l id) with _ | k
  · have H := Lib.hid (show slack l id = (0, false) by simp [slack, hg, hf])
    have hk : findK l id = -1 := by rw [findK, hf]
    go_enter Try.func19, Try.ntmps19
    go_wp2_with fail
    refine (l16Find_c l _ _ id _ hl hr).mono ?_
    rintro e w' ⟨rfl, rfl⟩
    go_wp2_with fail
    refine (l16Good_c l _ _ _ hl hr).mono ?_
    rintro e w1 ⟨rfl, hb1⟩
    go_wp2_with fail
    go_ret2
    exact ⟨rett2 H.out rfl rfl, hb1⟩
  · have hlt := firstOf_lt hf
    have H := Lib.hid (show slack l id = (slackK (nth l k), true) by simp [slack, hg, hf])
    have hk : findK l id = k := by rw [findK, hf]
    obtain ⟨⟨e1, e2⟩, ⟨e3, e4⟩, ⟨e5, e6⟩, ⟨e7, e8⟩⟩ := okK_true.1 (HG.out.2 k hlt)
    go_enter Try.func19, Try.ntmps19
    go_wp2_with fail
    refine (l16Find_c l _ _ id _ hl hr).mono ?_
    rintro e w' ⟨rfl, rfl⟩
    go_wp2_with fail
    refine (l16Good_c l _ _ _ hl hr).mono ?_
    rintro e w1 ⟨rfl, hb1⟩
    have HB := Lib.hid hb1
    have z1 := hb1.size
    obtain ⟨b, off, rfl, hb2, hcs⟩ := Tsk.rd (hr.below hb1 (Nat.le_refl _)) hlt
    have l1 : b < w1.heap.size := by omega
    have i1 : (0 : Int) ≤ (k : Int) := by omega
    have i2 : (k : Int) < l.length := by omega
    have i3 : decide ((k : Int) < 0) = false := decide_eq_false (by omega)
    have i4 : ¬ ((k : Int) < 0) := by omega
    clear hb1 hf
    go_wp2_with fail
    refine wp_region_mem (by kernel_rfl) (by kernel_rfl) ?_
    repeat (go_big_quiet_step (fail))
    refine wpQuiet_nil ?_
    intro _ hw'
    obtain ⟨⟨wq, hbq⟩, hw''⟩ := hw'
    obtain rfl := hw''.symm
    obtain ⟨hcq, hfq, hzq⟩ := bcell hbq
    try simp [Nat.add_one_le_iff] at hzq
    go_wp2_with fail
    go_ret2
    exact ⟨rett2 H.out (by simp [slackK]) rfl, HB.out.trans (hbq.mono z1)⟩
end Go.Proofs.Ytokddcnkfeimkaa
