/- A task is put into its place among others: the search for the place; no conditions but that the tasks are valid. -/
import Derived.Test.YtokddcnkfeimkaaInsRoom
import Derived.Test.YtokddcnkfeimkaaHas
namespace Go.Proofs.Ytokddcnkfeimkaa
open Go.RowKit

def scan (l : List Tsk) (x : Tsk) : Nat := (l.takeWhile fun y => decide (y.i < x.i)).length
theorem scan_eq {x : Tsk} : ∀ {l : List Tsk} {k : Nat}, k ≤ l.length → (∀ j, j < k → (nth l j).i < x.i) → (k < l.length → ¬ (nth l k).i < x.i) → scan l x = k
  | [], k, h, _, _ => by simp at h; subst h; rfl
  | y :: l, 0, _, _, h2 => by
    have h := h2 (by simp)
    have h' : ¬ y.i < x.i := by simpa [nth] using h
    simp [scan, h']
  | y :: l, k + 1, h, h1, h2 => by
    have hy : y.i < x.i := by have h := h1 0 (by omega); simpa [nth] using h
    have ih := scan_eq (l := l) (k := k) (by simpa using h) (fun j hj => by have h := h1 (j + 1) (by omega); simpa [nth] using h) (fun hk => by have h := h2 (by simpa using hk); simpa [nth] using h)
    unfold scan at ih ⊢
    rw [List.takeWhile_cons, if_pos (decide_eq_true hy), List.length_cons, ih]
theorem scan_le (l : List Tsk) (x : Tsk) : scan l x ≤ l.length := (List.takeWhile_sublist _).length_le
def ins (l : List Tsk) (x : Tsk) : List Tsk := l.take (scan l x) ++ x :: l.drop (scan l x)
theorem ins_len (l : List Tsk) (x : Tsk) : (ins l x).length = l.length + 1 := by
  have := scan_le l x
  simp only [ins, List.length_append, List.length_take, List.length_cons, List.length_drop]; omega
def addP (l : List Tsk) (x : Tsk) : List Tsk × Bool := if goodK l && goodK (ins l x) && has (ins l x) then (ins l x, true) else ([], false)
theorem good_step {l : List Tsk} (h : goodK l = true) {i : Nat} (hi : i + 1 < l.length) : (nth l i).i < (nth l (i + 1)).i := by
  simp only [goodK, Bool.and_eq_true, decide_eq_true_eq, allTo_true] at h
  have := (h.1 (i + 1) hi).2
  simp only [prevK, Bool.or_eq_true, decide_eq_true_eq, Nat.add_sub_cancel] at this
  omega
theorem good_mono {l : List Tsk} (h : goodK l = true) : ∀ {i j : Nat}, i ≤ j → j < l.length → (nth l i).i ≤ (nth l j).i := fun {i j} hij hj => by
  induction j with
  | zero =>
    obtain rfl : i = 0 := by omega
    exact Int.le_refl _
  | succ j ih =>
    by_cases e : i = j + 1
    · subst e; exact Int.le_refl _
    · have h1 := ih (by omega) (by omega)
      have h2 := good_step h hj
      omega
def cmpI (x y : Int) : Int := if x < y then -1 else if y < x then 1 else 0
theorem isNaN_c (x : Int) (w : World) : Calls Try.prog 84 #[.int .i64 x] w fun e w' => e = .returned (.bool false) ∧ w = w' := by
  have h : (x != x) = false := by simp
  go_enter Try.func84, Try.ntmps84
  go_wp2_with fail
  go_ret
  exact ⟨rfl, rfl⟩
theorem compare_c (x y : Int) (w : World) : Calls Try.prog 80 #[.int .i64 x, .int .i64 y] w fun e w' => e = .returned (.int .i64 (cmpI x y)) ∧ w = w' := by
  by_cases h1 : x < y
  · have H := Lib.hid (show cmpI x y = -1 by unfold cmpI; rw [if_pos h1])
    go_enter Try.func80, Try.ntmps80
    go_wp2_with (go_at_call 84; refine (isNaN_c _ _).mono ?_; rintro e w' ⟨rfl, rfl⟩)
    go_ret
    exact ⟨reti H.out.symm, rfl⟩
  · by_cases h2 : y < x
    · have H := Lib.hid (show cmpI x y = 1 by unfold cmpI; rw [if_neg h1, if_pos h2])
      go_enter Try.func80, Try.ntmps80
      go_wp2_with (go_at_call 84; refine (isNaN_c _ _).mono ?_; rintro e w' ⟨rfl, rfl⟩)
      go_ret
      exact ⟨reti H.out.symm, rfl⟩
    · have H := Lib.hid (show cmpI x y = 0 by unfold cmpI; rw [if_neg h1, if_neg h2])
      go_enter Try.func80, Try.ntmps80
      go_wp2_with (go_at_call 84; refine (isNaN_c _ _).mono ?_; rintro e w' ⟨rfl, rfl⟩)
      go_ret
      exact ⟨reti H.out.symm, rfl⟩
theorem compareIds_c (x y : Tsk) (w : World) : Calls Try.prog 69 #[.agg #[.int .i64 x.i, .int .i64 x.f, .int .i64 x.u, .int .i64 x.d], .agg #[.int .i64 y.i, .int .i64 y.f, .int .i64 y.u, .int .i64 y.d]] w fun e w' => e = .returned (.int .i64 (cmpI x.i y.i)) ∧ Below w.heap.size w w' := by
  go_enter Try.func69, Try.ntmps69
  go_wp2_with (go_at_call 80; refine (compare_c _ _ _).mono ?_; rintro e w' ⟨rfl, rfl⟩)
  go_ret
  exact ⟨rfl, (by repeat (first | (with_reducible exact Below.refl _ _) | ((with_reducible refine alloc_ ?_ ?_); (focus (first | exact Nat.le_refl _ | (simp; done) | (simp; omega) | omega))) | ((with_reducible refine set_ ?_ ?_); (focus (first | exact Nat.le_refl _ | (simp; done) | (simp; omega) | omega))) | (with_reducible refine Below.drew ?_) | ((with_reducible refine after_ ?_ (by assumption) ?_); (rotate_left; (focus (first | exact Nat.le_refl _ | (simp; done) | (simp; omega) | omega))))))⟩
def Found (l : List Tsk) (x : Tsk) (w : World) (e : Ending) (w' : World) : Prop := ∃ b : Bool, e = .returned (.tuple #[.int .i64 (scan l x), .bool b]) ∧ Below w.heap.size w w'
theorem search_c (l : List Tsk) (x : Tsk) (A : Option Addr) (cap : Nat) (w : World) (hg : goodK l = true) (hr : Rd w w.heap.size 4 Tsk.cells A l) :
    Calls Try.prog 68 #[.slice A l.length cap, .agg #[.int .i64 x.i, .int .i64 x.f, .int .i64 x.u, .int .i64 x.d], .func (.func 69) #[] #[]] w (Found l x w) := by
  have hl8 := (goodK_true hg).1
  have HG := Lib.hid hg
  have hX := Box.new w x.cells 50
  have HX := Lib.hid hX
  clear hg hX
  go_enter Try.func68, Try.ntmps68
  go_wp2_with fail
  go_loopw [9, 10, 11] (fun i j _ wr => ∃ a b : Nat, a ≤ b ∧ b ≤ l.length ∧ i = .int .i64 a ∧ j = .int .i64 b ∧ (∀ k, k < a → (nth l k).i < x.i) ∧ (∀ k, b ≤ k → k < l.length → x.i ≤ (nth l k).i) ∧ Below w.heap.size w wr ∧ Box wr w.heap.size 50 4 x.cells) (fun i j _ _ => (intOf j).toNat - (intOf i).toNat)
  case atStart => exact ⟨0, l.length, Nat.zero_le _, Nat.le_refl _, rfl, rfl, fun k hk => absurd hk (by omega), fun k h1 h2 => absurd h1 (by omega), (by repeat (first | (with_reducible exact Below.refl _ _) | ((with_reducible refine alloc_ ?_ ?_); (focus (first | exact Nat.le_refl _ | (simp; done) | (simp; omega) | omega))) | ((with_reducible refine set_ ?_ ?_); (focus (first | exact Nat.le_refl _ | (simp; done) | (simp; omega) | omega))) | (with_reducible refine Below.drew ?_) | ((with_reducible refine after_ ?_ (by assumption) ?_); (rotate_left; (focus (first | exact Nat.le_refl _ | (simp; done) | (simp; omega) | omega)))))), HX.out⟩
  case round =>
    obtain ⟨a, b, hab, hbl, rfl, rfl, hlo, hhi, hbel, hbx⟩ := hrel
    have HB := Lib.hid hbel
    have HLo := Lib.hid hlo
    have HHi := Lib.hid hhi
    have HBx := Lib.hid hbx
    have z1 := hbel.size
    clear hlo hhi
    by_cases hlt : a < b
    · obtain ⟨h, hh⟩ : ∃ h, (a + b) / 2 = h := ⟨_, rfl⟩
      have hah : a ≤ h := by omega
      have hhb : h < b := by omega
      have he : ((a : Int) + (b : Int)) / 2 = (h : Int) := by omega
      obtain ⟨bk, off, rfl, hb1, hc0, hc1, hc2, hc3⟩ := Tsk.rd (hr.below hbel (Nat.le_refl _)) (show h < l.length by omega)
      have x0 := hbx.cell (j := 0) rfl
      have x1 := hbx.cell (j := 1) rfl
      have x2 := hbx.cell (j := 2) rfl
      have x3 := hbx.cell (j := 3) rfl
      have l1 : bk < wr.heap.size := by omega
      have l2 := hbx.lt
      have i1 : (0 : Int) ≤ (h : Int) := by omega
      have i2 : (h : Int) < l.length := by omega
      clear hbel hbx hh
      by_cases hlx : (nth l h).i < x.i
      · have hc : decide (cmpI (nth l h).i x.i < 0) = true := by unfold cmpI; rw [if_pos hlx]; rfl
        have H1 := Lib.hid (show ∀ k, k < h + 1 → (nth l k).i < x.i from fun k hk => by
          have := good_mono HG.out (show k ≤ h by omega) (by omega); omega)
        go_wp2_with fail
        refine wp_region_mem (by kernel_rfl) (by kernel_rfl) ?_
        repeat (go_big_quiet_step (((go_at_call 69); exact mem_of (compareIds_c (nth l h) x _))))
        refine wpQuiet_nil ?_
        intro _ hw'
        obtain ⟨⟨wq, hbq⟩, hw''⟩ := hw'
        obtain rfl := hw''.symm
        obtain ⟨hcq, hfq, hzq⟩ := bcell hbq
        try simp [Nat.add_one_le_iff] at hzq
        go_wp2_with fail
        go_roundw
        case rel => exact ⟨h + 1, b, by omega, hbl, by go_num, rfl, H1.out, HHi.out, HB.out.trans (hbq.mono z1), HBx.out.carry hbq⟩
        case measure => simp [intOf]; omega
      · have hc : decide (cmpI (nth l h).i x.i < 0) = false := by unfold cmpI; rw [if_neg hlx]; split <;> rfl
        have H1 := Lib.hid (show ∀ k, h ≤ k → k < l.length → x.i ≤ (nth l k).i from fun k h1 h2 => by
          have := good_mono HG.out h1 h2; omega)
        go_wp2_with fail
        refine wp_region_mem (by kernel_rfl) (by kernel_rfl) ?_
        repeat (go_big_quiet_step (((go_at_call 69); exact mem_of (compareIds_c (nth l h) x _))))
        refine wpQuiet_nil ?_
        intro _ hw'
        obtain ⟨⟨wq, hbq⟩, hw''⟩ := hw'
        obtain rfl := hw''.symm
        obtain ⟨hcq, hfq, hzq⟩ := bcell hbq
        try simp [Nat.add_one_le_iff] at hzq
        go_wp2_with fail
        go_roundw
        case rel => exact ⟨a, h, by omega, by omega, rfl, by go_num, HLo.out, H1.out, HB.out.trans (hbq.mono z1), HBx.out.carry hbq⟩
        case measure => simp [intOf]; omega
    · obtain rfl : a = b := by omega
      have HS := Lib.hid (scan_eq (l := l) (x := x) (k := a) hbl HLo.out fun h => by have := HHi.out a (Nat.le_refl _) h; omega)
      by_cases hal : a < l.length
      · obtain ⟨bk, off, rfl, hb1, hc0, hc1, hc2, hc3⟩ := Tsk.rd (hr.below hbel (Nat.le_refl _)) hal
        have x0 := hbx.cell (j := 0) rfl
        have x1 := hbx.cell (j := 1) rfl
        have x2 := hbx.cell (j := 2) rfl
        have x3 := hbx.cell (j := 3) rfl
        have l1 : bk < wr.heap.size := by omega
        have l2 := hbx.lt
        have i1 : (0 : Int) ≤ (a : Int) := by omega
        have i2 : (a : Int) < l.length := by omega
        clear hbel hbx
        go_wp2_with fail
        refine wp_region_mem (by kernel_rfl) (by kernel_rfl) ?_
        repeat (go_big_quiet_step (((go_at_call 69); exact mem_of (compareIds_c (nth l a) x _))))
        refine wpQuiet_nil ?_
        intro _ hw'
        obtain ⟨⟨wq, hbq⟩, hw''⟩ := hw'
        obtain rfl := hw''.symm
        obtain ⟨hcq, hfq, hzq⟩ := bcell hbq
        try simp [Nat.add_one_le_iff] at hzq
        go_wp2_with fail
        go_ret2
        exact ⟨_, by rw [HS.out]; rfl, HB.out.trans (hbq.mono z1)⟩
      · clear hbel hbx
        go_wp2_with fail
        refine wp_region_mem (by kernel_rfl) (by kernel_rfl) ?_
        repeat (go_big_quiet_step (fail))
        refine wpQuiet_nil ?_
        intro _ hw'
        obtain ⟨⟨wq, hbq⟩, hw''⟩ := hw'
        obtain rfl := hw''.symm
        obtain ⟨hcq, hfq, hzq⟩ := bcell hbq
        try simp [Nat.add_one_le_iff] at hzq
        go_wp2_with fail
        go_ret2
        exact ⟨_, by rw [HS.out]; rfl, HB.out.trans (hbq.mono z1)⟩
end Go.Proofs.Ytokddcnkfeimkaa
