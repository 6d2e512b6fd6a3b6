/- HasTaskPlan and EarliestEnd of the program and of the reference return one Lean function each; no conditions but the length. -/
import Derived.Test.YtokddcnkfeimkaaEnd
namespace Go.Proofs.Ytokddcnkfeimkaa
open Go.RowKit

theorem full_wrap : ∀ k : Fin 9, wrap64 (wrap64 (2 ^ k.val) - 1) = ((2 ^ k.val - 1 : Nat) : Int) := by decide +kernel
def full (l : List Tsk) : Nat := 2 ^ l.length - 1
def has (l : List Tsk) : Bool := decide (0 ≤ eOf l (full l))
def lastD (l : List Tsk) : Int := if eOf l (full l) < 0 then -1 else max 0 (eOf l (full l) - 1)
theorem full_lt {l : List Tsk} : full l < 2 ^ l.length := by have := two_pos l.length; unfold full; omega
theorem full_256 {l : List Tsk} (h : l.length ≤ 8) : full l < 256 := by
  have := Nat.pow_le_pow_right (show 0 < 2 by omega) h
  have := full_lt (l := l); omega
theorem rOf_full {l : List Tsk} (hg : l.length ≤ 8 ∧ ∀ i, i < l.length → okK (nth l i) = true) : rOf l (full l) (full l) 0 = lastD l := by
  unfold rOf lastD eOf
  exact endR_endE hg.1 (fun i hi => by
    obtain ⟨_, ⟨e3, e4⟩, ⟨e5, e6⟩, _⟩ := okK_true.1 (hg.2 i hi)
    exact ⟨e5, e3⟩) (Nat.le_refl _) full_lt
theorem lastD_has {l : List Tsk} : decide (0 ≤ lastD l) = has l := by
  unfold lastD has
  by_cases h : eOf l (full l) < 0
  · rw [if_pos h]; simp; omega
  · rw [if_neg h, decide_eq_true (by omega), decide_eq_true (by omega)]
theorem l16Last_c (l : List Tsk) (A : Option Addr) (cap : Nat) (w : World) (hr : Rd w w.heap.size 4 Tsk.cells A l) (hg : l.length ≤ 8 ∧ ∀ i, i < l.length → okK (nth l i) = true) :
    Calls Try.prog 59 #[.slice A l.length cap, .int .i64 (full l : Nat), .int .i64 0] w fun e w' => e = .returned (.int .i64 (lastD l)) ∧ Below w.heap.size w w' := by
  have := l16End_c l A cap hg (full l) (full l) 0 w hr (Nat.le_refl _) (full_256 hg.1) (Int.le_refl _) (by omega)
  rwa [rOf_full hg] at this
theorem l16Has_c (l : List Tsk) (A : Option Addr) (cap : Nat) (w : World) (hr : Rd w w.heap.size 4 Tsk.cells A l) (hg : l.length ≤ 8 ∧ ∀ i, i < l.length → okK (nth l i) = true) :
    Calls Try.prog 57 #[.slice A l.length cap] w fun e w' => e = .returned (.bool (has l)) ∧ Below w.heap.size w w' := by
  have hf := full_wrap ⟨l.length, by omega⟩
  simp only at hf
  have hff : ((2 ^ l.length - 1 : Nat) : Int) = (full l : Nat) := rfl
  rw [hff] at hf
  have HG := Lib.hid hg
  have hl8 := hg.1
  clear hg hff
  go_enter Try.func57, Try.ntmps57
  go_wp2_with fail
  refine (l16Last_c l _ _ _ hr HG.out).mono ?_
  rintro e w1 ⟨rfl, hb1⟩
  clear hf
  go_wp2_with fail
  go_ret
  exact ⟨retb lastD_has, hb1⟩
def hasP (l : List Tsk) : Bool × Bool := if goodK l then (has l, true) else (false, false)
def endP (l : List Tsk) : Int × Bool := if goodK l && has l then (max 0 (eOf l (full l) - 1), true) else (0, false)
theorem retp3 {p : Bool × Bool} {a b c d : Bool} (h : p = (b, d)) (h1 : a = b) (h2 : c = d) : Ending.returned (.tuple #[.bool a, .bool c]) = .returned (.tuple #[.bool p.1, .bool p.2]) := by rw [h, h1, h2]
theorem specHasTaskPlan_c (l : List Tsk) (A : Option Addr) (cap : Nat) (w : World) (hl : l.length ≤ 1048576) (hr : Rd w w.heap.size 4 Tsk.cells A l) :
    Calls Try.prog 21 #[.slice A l.length cap] w fun e w' => e = .returned (.tuple #[.bool (hasP l).1, .bool (hasP l).2]) ∧ Below w.heap.size w w' := by
  rcases hg : goodK l with _ | _
  · have H := Lib.hid (show hasP l = (false, false) by simp [hasP, hg])
    go_enter Try.func21, Try.ntmps21
    go_wp2_with fail
    refine (l16Good_c l _ _ _ hl hr).mono ?_
    rintro e w1 ⟨rfl, hb1⟩
    go_wp2_with fail
    go_ret2
    exact ⟨retp3 H.out rfl rfl, hb1⟩
  have HG := Lib.hid (goodK_true hg)
  have H := Lib.hid (show hasP l = (has l, true) by simp [hasP, hg])
  go_enter Try.func21, Try.ntmps21
  go_wp2_with fail
  refine (l16Good_c l _ _ _ hl hr).mono ?_
  rintro e w1 ⟨rfl, hb1⟩
  have hr1 := hr.carry hb1
  have HB1 := Lib.hid hb1
  clear hb1
  go_wp2_with fail
  refine (l16Has_c l _ _ _ hr1 HG.out).mono ?_
  rintro e w2 ⟨rfl, hb2⟩
  have HB2 := Lib.hid (HB1.out.trans (hb2.mono HB1.out.size))
  clear hb2 hg
  go_wp2_with fail
  go_ret2
  exact ⟨retp3 H.out rfl rfl, HB2.out⟩
theorem implHasTaskPlan_c (l : List Tsk) (A : Option Addr) (cap : Nat) (w : World) (hl : l.length ≤ 1048576) (hr : Rd w w.heap.size 4 Tsk.cells A l) :
    Calls Try.prog 22 #[.slice A l.length cap] w fun e w' => e = .returned (.tuple #[.bool (hasP l).1, .bool (hasP l).2]) ∧ Below w.heap.size w w' := by
  rcases hg : goodK l with _ | _
  · have H := Lib.hid (show hasP l = (false, false) by simp [hasP, hg])
    go_enter Try.func22, Try.ntmps22
    go_wp2_with fail
    refine (AreTasks_c l _ _ _ hl hr).mono ?_
    rintro e w1 ⟨rfl, hb1⟩
    go_wp2_with fail
    go_ret2
    exact ⟨retp3 H.out rfl rfl, hb1⟩
  have HG := Lib.hid (goodK_true hg)
  have H := Lib.hid (show hasP l = (has l, true) by simp [hasP, hg])
  go_enter Try.func22, Try.ntmps22
  go_wp2_with fail
  refine (AreTasks_c l _ _ _ hl hr).mono ?_
  rintro e w1 ⟨rfl, hb1⟩
  have hr1 := hr.carry hb1
  have HB1 := Lib.hid hb1
  clear hb1
  go_wp2_with fail
  refine (earliestEnd_c l _ _ _ hr1 HG.out).mono ?_
  rintro e w2 ⟨rfl, hb2⟩
  have HB2 := Lib.hid (HB1.out.trans (hb2.mono HB1.out.size))
  clear hb2 hg
  go_wp2_with fail
  go_ret2
  exact ⟨retp3 H.out rfl rfl, HB2.out⟩
theorem implEarliestEnd_c (l : List Tsk) (A : Option Addr) (cap : Nat) (w : World) (hl : l.length ≤ 1048576) (hr : Rd w w.heap.size 4 Tsk.cells A l) :
    Calls Try.prog 24 #[.slice A l.length cap] w fun e w' => e = .returned (.tuple #[.int .i64 (endP l).1, .bool (endP l).2]) ∧ Below w.heap.size w w' := by
  rcases hg : goodK l with _ | _
  · have H := Lib.hid (show endP l = (0, false) by simp [endP, hg])
    go_enter Try.func24, Try.ntmps24
    go_wp2_with fail
    refine (AreTasks_c l _ _ _ hl hr).mono ?_
    rintro e w1 ⟨rfl, hb1⟩
    go_wp2_with fail
    go_ret2
    exact ⟨rett2 H.out rfl rfl, hb1⟩
  have HG := Lib.hid (goodK_true hg)
  have HE := Lib.hid (eOf_bd HG.out.2 (full l))
  have H := Lib.hid (show endP l = if has l = true then (max 0 (eOf l (full l) - 1), true) else (0, false) by simp [endP, hg])
  have hfl : 2 ^ l.length - 1 = full l := rfl
  have HF := Lib.hid hfl
  clear hfl
  go_enter Try.func24, Try.ntmps24
  go_wp2_with fail
  refine (AreTasks_c l _ _ _ hl hr).mono ?_
  rintro e w1 ⟨rfl, hb1⟩
  have hr1 := hr.carry hb1
  have HB1 := Lib.hid hb1
  clear hb1
  go_wp2_with fail
  refine (earliestEnd_c l _ _ _ hr1 HG.out).mono ?_
  rintro e w2 ⟨rfl, hb2⟩
  rw [HF.out]
  have HB2 := Lib.hid (HB1.out.trans (hb2.mono HB1.out.size))
  obtain ⟨E, hE⟩ : ∃ E, eOf l (full l) = E := ⟨_, rfl⟩
  rw [hE] at HE H ⊢
  obtain ⟨b1, b2⟩ := HE.out
  have HEE := Lib.hid hE
  clear hb2 hg hE
  by_cases h0 : 0 ≤ E
  · have HH := Lib.hid (H.out.trans (if_pos (by unfold has; rw [HEE.out]; exact decide_eq_true h0)))
    go_wp2_with fail
    go_ret2
    exact ⟨rett2 HH.out (by omega) rfl, HB2.out⟩
  · have HH := Lib.hid (H.out.trans (if_neg (by unfold has; rw [HEE.out]; simp [h0])))
    have h0' : decide (0 ≤ E) = false := decide_eq_false h0
    go_wp2_with fail
    go_ret2
    exact ⟨rett2 HH.out rfl rfl, HB2.out⟩
theorem specEarliestEnd_c (l : List Tsk) (A : Option Addr) (cap : Nat) (w : World) (hl : l.length ≤ 1048576) (hr : Rd w w.heap.size 4 Tsk.cells A l) :
    Calls Try.prog 23 #[.slice A l.length cap] w fun e w' => e = .returned (.tuple #[.int .i64 (endP l).1, .bool (endP l).2]) ∧ Below w.heap.size w w' := by
  rcases hg : goodK l with _ | _
  · have H := Lib.hid (show endP l = (0, false) by simp [endP, hg])
    go_enter Try.func23, Try.ntmps23
    go_wp2_with fail
    refine (l16Good_c l _ _ _ hl hr).mono ?_
    rintro e w1 ⟨rfl, hb1⟩
    go_wp2_with fail
    go_ret2
    exact ⟨rett2 H.out rfl rfl, hb1⟩
  have HG := Lib.hid (goodK_true hg)
  rcases hh : has l with _ | _
  · have H := Lib.hid (show endP l = (0, false) by simp [endP, hh])
    go_enter Try.func23, Try.ntmps23
    go_wp2_with fail
    refine (l16Good_c l _ _ _ hl hr).mono ?_
    rintro e w1 ⟨rfl, hb1⟩
    have hr1 := hr.carry hb1
    have HB1 := Lib.hid hb1
    clear hb1
    go_wp2_with fail
    refine (l16Has_c l _ _ _ hr1 HG.out).mono ?_
    rintro e w2 ⟨rfl, hb2⟩
    have HB2 := Lib.hid (HB1.out.trans (hb2.mono HB1.out.size))
    clear hb2
    go_wp2_with fail
    go_ret2
    exact ⟨rett2 H.out rfl rfl, HB2.out⟩
  have H := Lib.hid (show endP l = (max 0 (eOf l (full l) - 1), true) by simp [endP, hg, hh])
  have HL := Lib.hid (show lastD l = max 0 (eOf l (full l) - 1) by
    unfold has at hh; have := of_decide_eq_true hh; unfold lastD; rw [if_neg (by omega)])
  have hf := full_wrap ⟨l.length, by have := HG.out.1; omega⟩
  simp only at hf
  have hff : ((2 ^ l.length - 1 : Nat) : Int) = (full l : Nat) := rfl
  rw [hff] at hf
  have hl8 := HG.out.1
  clear hff
  go_enter Try.func23, Try.ntmps23
  go_wp2_with fail
  refine (l16Good_c l _ _ _ hl hr).mono ?_
  rintro e w1 ⟨rfl, hb1⟩
  have hr1 := hr.carry hb1
  have HB1 := Lib.hid hb1
  clear hb1
  go_wp2_with fail
  refine (l16Has_c l _ _ _ hr1 HG.out).mono ?_
  rintro e w2 ⟨rfl, hb2⟩
  have hr2 := hr1.carry hb2
  have HB2 := Lib.hid (HB1.out.trans (hb2.mono HB1.out.size))
  clear hb2
  go_wp2_with fail
  refine (l16Last_c l _ _ _ hr2 HG.out).mono ?_
  rintro e w3 ⟨rfl, hb3⟩
  have HB3 := Lib.hid (HB2.out.trans (hb3.mono HB2.out.size))
  clear hb3 hf hg hh
  go_wp2_with fail
  go_ret2
  exact ⟨rett2 H.out HL.out rfl, HB3.out⟩
end Go.Proofs.Ytokddcnkfeimkaa
