/- FnExactIsTaskPlan returns true for all arguments; no conditions. -/
import Derived.Test.YtokddcnkfeimkaaPlan
import Derived.Test.YtokddcnkfeimkaaInts
import Derived.Test.YtokddcnkfeimkaaTasksIn
namespace Go.Proofs.Ytokddcnkfeimkaa
open Go.RowKit Go.Joins Go.ChangeShapes Go.WideShapes Go.ChangeAt

theorem retp2 {p : Bool × Bool} {a b c d : Bool} (h : p = (b, d)) (h1 : a = b) (h2 : c = d) : Ending.returned (.tuple #[.bool a, .bool c]) = .returned (.tuple #[.bool p.1, .bool p.2]) := by rw [h, h1, h2]
def isPlan (l : List Tsk) (p : List Int) : Bool × Bool := if goodK l then (planB l p, true) else (false, false)
theorem implIsTaskPlan_c (l : List Tsk) (p : List Int) (A B : Option Addr) (cap cap' : Nat) (w : World) (hl : l.length ≤ 1048576) (hp : p.length ≤ 1048576) (hr : Rd w w.heap.size 4 Tsk.cells A l) (hs : Rd w w.heap.size 1 intCells B p) :
    Calls Try.prog 27 #[.slice A l.length cap, .slice B p.length cap'] w fun e w' => e = .returned (.tuple #[.bool (isPlan l p).1, .bool (isPlan l p).2]) ∧ Below w.heap.size w w' := by
  rcases hg : goodK l with _ | _
  · have H := Lib.hid (show isPlan l p = (false, false) by simp [isPlan, hg])
    go_enter Try.func27, Try.ntmps27
    go_wp2_with fail
    refine (AreTasks_c l _ _ _ hl hr).mono ?_
    rintro e w1 ⟨rfl, hb1⟩
    go_wp2_with fail
    go_ret2
    exact ⟨retp2 H.out rfl rfl, hb1⟩
  have HG := goodK_true hg
  have H := Lib.hid (show isPlan l p = (planB l p, true) by simp [isPlan, hg])
  go_enter Try.func27, Try.ntmps27
  go_wp2_with fail
  refine (AreTasks_c l _ _ _ hl hr).mono ?_
  rintro e w1 ⟨rfl, hb1⟩
  have hr1 := hr.carry hb1
  have hs1 := hs.carry hb1
  have HB1 := Lib.hid hb1
  clear hb1
  go_wp2_with fail
  refine (isTaskPlan_c l p _ _ _ _ _ hr1 hs1 hp HG).mono ?_
  rintro e w2 ⟨rfl, hb2⟩
  clear HG
  go_wp2_with fail
  go_ret2
  exact ⟨retp2 H.out rfl rfl, HB1.out.trans (hb2.mono HB1.out.size)⟩
theorem specIsTaskPlan_c (l : List Tsk) (p : List Int) (A B : Option Addr) (cap cap' : Nat) (w : World) (hl : l.length ≤ 1048576) (hp : p.length ≤ 1048576) (hr : Rd w w.heap.size 4 Tsk.cells A l) (hs : Rd w w.heap.size 1 intCells B p) :
    Calls Try.prog 25 #[.slice A l.length cap, .slice B p.length cap'] w fun e w' => e = .returned (.tuple #[.bool (isPlan l p).1, .bool (isPlan l p).2]) ∧ Below w.heap.size w w' := by
  rcases hg : goodK l with _ | _
  · have H := Lib.hid (show isPlan l p = (false, false) by simp [isPlan, hg])
    go_enter Try.func25, Try.ntmps25
    go_wp2_with fail
    refine (l16Good_c l _ _ _ hl hr).mono ?_
    rintro e w1 ⟨rfl, hb1⟩
    go_wp2_with fail
    go_ret2
    exact ⟨retp2 H.out rfl rfl, hb1⟩
  have HG := goodK_true hg
  have H := Lib.hid (show isPlan l p = (planB l p, true) by simp [isPlan, hg])
  go_enter Try.func25, Try.ntmps25
  go_wp2_with fail
  refine (l16Good_c l _ _ _ hl hr).mono ?_
  rintro e w1 ⟨rfl, hb1⟩
  have hr1 := hr.carry hb1
  have hs1 := hs.carry hb1
  have HB1 := Lib.hid hb1
  clear hb1
  go_wp2_with fail
  refine (l16Plan_c l p _ _ _ _ _ hr1 hs1 hp HG).mono ?_
  rintro e w2 ⟨rfl, hb2⟩
  clear HG
  go_wp2_with fail
  go_ret2
  exact ⟨retp2 H.out rfl rfl, HB1.out.trans (hb2.mono HB1.out.size)⟩
theorem lawIsTaskPlan (l : List Tsk) (A : Option Addr) (n cap : Nat) (js : List Int) (B : Option Addr) (n' cap' : Nat) (w : World) (hr : InTsk w A n l) (hs : InInts w B n' js) :
    Calls Try.prog 7 #[.slice A n cap, .slice B n' cap'] w fun e w' => e = .returned (.bool true) ∧ Below w.heap.size w w' := by
  obtain ⟨rfl, hlm, ra0, _⟩ := hr
  obtain ⟨rfl, hjm, rb0⟩ := hs
  by_cases h2 : js.length ≤ 1048576
  case neg =>
    go_enter Try.func7, Try.ntmps7
    go_wp2_with fail
    go_ret
    exact ⟨rfl, Below.refl _ _⟩
  by_cases h1 : l.length ≤ 1048576
  case neg =>
    go_enter Try.func7, Try.ntmps7
    go_wp2_with fail
    refine (szTaskS_no l _ _ _ _ (by omega) (by omega) hlm (by omega)).mono ?_
    rintro e w' ⟨rfl, rfl⟩
    go_wp2_with fail
    go_ret
    exact ⟨rfl, Below.refl _ _⟩
  go_enter Try.func7, Try.ntmps7
  go_wp2_with fail
  refine (szTaskS_yes l _ _ _ _ (by omega) (by omega) hlm (by omega)).mono ?_
  rintro e w' ⟨rfl, rfl⟩
  go_wp2_with fail
  refine (toTaskS_c l _ _ _ h1 ra0).mono ?_
  rintro e w1 ⟨rfl, x1, hb1⟩
  have hz1 := hb1.size
  try simp only [World.size_alloc] at x1
  have hB1 : Below w.heap.size w w1 := (by repeat (first | (with_reducible exact Below.refl _ _) | ((with_reducible refine alloc_ ?_ ?_); (focus (first | exact Nat.le_refl _ | (simp; done) | (simp; omega) | omega))) | ((with_reducible refine set_ ?_ ?_); (focus (first | exact Nat.le_refl _ | (simp; done) | (simp; omega) | omega))) | (with_reducible refine Below.drew ?_) | ((with_reducible refine after_ ?_ (by assumption) ?_); (rotate_left; (focus (first | exact Nat.le_refl _ | (simp; done) | (simp; omega) | omega))))))
  have hs1 := hB1.size
  have ra1 := ra0.carry hB1
  have rb1 := rb0.carry hB1
  go_wp2_with fail
  refine (toIntS_c js _ _ _ h2 rb1).mono ?_
  rintro e w2 ⟨rfl, y2, hb2⟩
  have hz2 := hb2.size
  try simp only [World.size_alloc] at y2
  have hB2 : Below w1.heap.size w1 w2 := (by repeat (first | (with_reducible exact Below.refl _ _) | ((with_reducible refine alloc_ ?_ ?_); (focus (first | exact Nat.le_refl _ | (simp; done) | (simp; omega) | omega))) | ((with_reducible refine set_ ?_ ?_); (focus (first | exact Nat.le_refl _ | (simp; done) | (simp; omega) | omega))) | (with_reducible refine Below.drew ?_) | ((with_reducible refine after_ ?_ (by assumption) ?_); (rotate_left; (focus (first | exact Nat.le_refl _ | (simp; done) | (simp; omega) | omega))))))
  have hs2 := hB2.size
  have ra2 := ra1.carry hB2
  have rb2 := rb1.carry hB2
  have x2 := x1.carry hB2
  go_wp2_with fail
  refine (specIsTaskPlan_c l js _ _ _ _ _ h1 h2 (x2.rd fun _ => rfl) (y2.rd fun _ => rfl)).mono ?_
  rintro e w3 ⟨rfl, hb3⟩
  have hz3 := hb3.size
  have hB3 : Below w2.heap.size w2 w3 := (by repeat (first | (with_reducible exact Below.refl _ _) | ((with_reducible refine alloc_ ?_ ?_); (focus (first | exact Nat.le_refl _ | (simp; done) | (simp; omega) | omega))) | ((with_reducible refine set_ ?_ ?_); (focus (first | exact Nat.le_refl _ | (simp; done) | (simp; omega) | omega))) | (with_reducible refine Below.drew ?_) | ((with_reducible refine after_ ?_ (by assumption) ?_); (rotate_left; (focus (first | exact Nat.le_refl _ | (simp; done) | (simp; omega) | omega))))))
  have hs3 := hB3.size
  have ra3 := ra2.carry hB3
  have rb3 := rb2.carry hB3
  have x3 := x2.carry hB3
  have y3 := y2.carry hB3
  go_wp2_with fail
  refine (toTaskS_c l _ _ _ h1 ra3).mono ?_
  rintro e w4 ⟨rfl, p4, hb4⟩
  have hz4 := hb4.size
  try simp only [World.size_alloc] at p4
  have hB4 : Below w3.heap.size w3 w4 := (by repeat (first | (with_reducible exact Below.refl _ _) | ((with_reducible refine alloc_ ?_ ?_); (focus (first | exact Nat.le_refl _ | (simp; done) | (simp; omega) | omega))) | ((with_reducible refine set_ ?_ ?_); (focus (first | exact Nat.le_refl _ | (simp; done) | (simp; omega) | omega))) | (with_reducible refine Below.drew ?_) | ((with_reducible refine after_ ?_ (by assumption) ?_); (rotate_left; (focus (first | exact Nat.le_refl _ | (simp; done) | (simp; omega) | omega))))))
  have hs4 := hB4.size
  have ra4 := ra3.carry hB4
  have rb4 := rb3.carry hB4
  have x4 := x3.carry hB4
  have y4 := y3.carry hB4
  go_wp2_with fail
  refine (toIntS_c js _ _ _ h2 rb4).mono ?_
  rintro e w5 ⟨rfl, q5, hb5⟩
  have hz5 := hb5.size
  try simp only [World.size_alloc] at q5
  have hB5 : Below w4.heap.size w4 w5 := (by repeat (first | (with_reducible exact Below.refl _ _) | ((with_reducible refine alloc_ ?_ ?_); (focus (first | exact Nat.le_refl _ | (simp; done) | (simp; omega) | omega))) | ((with_reducible refine set_ ?_ ?_); (focus (first | exact Nat.le_refl _ | (simp; done) | (simp; omega) | omega))) | (with_reducible refine Below.drew ?_) | ((with_reducible refine after_ ?_ (by assumption) ?_); (rotate_left; (focus (first | exact Nat.le_refl _ | (simp; done) | (simp; omega) | omega))))))
  have hs5 := hB5.size
  have ra5 := ra4.carry hB5
  have rb5 := rb4.carry hB5
  have x5 := x4.carry hB5
  have y5 := y4.carry hB5
  have p5 := p4.carry hB5
  go_wp2_with fail
  refine (implIsTaskPlan_c l js _ _ _ _ _ h1 h2 (p5.rd fun _ => rfl) (q5.rd fun _ => rfl)).mono ?_
  rintro e w6 ⟨rfl, hb6⟩
  have hz6 := hb6.size
  have hB6 : Below w5.heap.size w5 w6 := (by repeat (first | (with_reducible exact Below.refl _ _) | ((with_reducible refine alloc_ ?_ ?_); (focus (first | exact Nat.le_refl _ | (simp; done) | (simp; omega) | omega))) | ((with_reducible refine set_ ?_ ?_); (focus (first | exact Nat.le_refl _ | (simp; done) | (simp; omega) | omega))) | (with_reducible refine Below.drew ?_) | ((with_reducible refine after_ ?_ (by assumption) ?_); (rotate_left; (focus (first | exact Nat.le_refl _ | (simp; done) | (simp; omega) | omega))))))
  have hs6 := hB6.size
  have ra6 := ra5.carry hB6
  have rb6 := rb5.carry hB6
  have x6 := x5.carry hB6
  have y6 := y5.carry hB6
  have p6 := p5.carry hB6
  have q6 := q5.carry hB6
  go_wp2_with fail
  refine (toTaskS_c l _ _ _ h1 ra6).mono ?_
  rintro e w7 ⟨rfl, s7, hb7⟩
  have hz7 := hb7.size
  try simp only [World.size_alloc] at s7
  have hB7 : Below w6.heap.size w6 w7 := (by repeat (first | (with_reducible exact Below.refl _ _) | ((with_reducible refine alloc_ ?_ ?_); (focus (first | exact Nat.le_refl _ | (simp; done) | (simp; omega) | omega))) | ((with_reducible refine set_ ?_ ?_); (focus (first | exact Nat.le_refl _ | (simp; done) | (simp; omega) | omega))) | (with_reducible refine Below.drew ?_) | ((with_reducible refine after_ ?_ (by assumption) ?_); (rotate_left; (focus (first | exact Nat.le_refl _ | (simp; done) | (simp; omega) | omega))))))
  have hs7 := hB7.size
  have ra7 := ra6.carry hB7
  have rb7 := rb6.carry hB7
  have x7 := x6.carry hB7
  have y7 := y6.carry hB7
  have p7 := p6.carry hB7
  have q7 := q6.carry hB7
  go_wp2_with fail
  refine (eqTaskS_same l _ _ _ _ _ h1 (p7.rd fun _ => rfl) (s7.rd fun _ => rfl)).mono ?_
  rintro e w8 ⟨rfl, hb8⟩
  have hz8 := hb8.size
  have hB8 : Below w7.heap.size w7 w8 := (by repeat (first | (with_reducible exact Below.refl _ _) | ((with_reducible refine alloc_ ?_ ?_); (focus (first | exact Nat.le_refl _ | (simp; done) | (simp; omega) | omega))) | ((with_reducible refine set_ ?_ ?_); (focus (first | exact Nat.le_refl _ | (simp; done) | (simp; omega) | omega))) | (with_reducible refine Below.drew ?_) | ((with_reducible refine after_ ?_ (by assumption) ?_); (rotate_left; (focus (first | exact Nat.le_refl _ | (simp; done) | (simp; omega) | omega))))))
  have hs8 := hB8.size
  have ra8 := ra7.carry hB8
  have rb8 := rb7.carry hB8
  have x8 := x7.carry hB8
  have y8 := y7.carry hB8
  have p8 := p7.carry hB8
  have q8 := q7.carry hB8
  have s8 := s7.carry hB8
  go_wp2_with fail
  refine (toIntS_c js _ _ _ h2 rb8).mono ?_
  rintro e w9 ⟨rfl, t9, hb9⟩
  have hz9 := hb9.size
  try simp only [World.size_alloc] at t9
  have hB9 : Below w8.heap.size w8 w9 := (by repeat (first | (with_reducible exact Below.refl _ _) | ((with_reducible refine alloc_ ?_ ?_); (focus (first | exact Nat.le_refl _ | (simp; done) | (simp; omega) | omega))) | ((with_reducible refine set_ ?_ ?_); (focus (first | exact Nat.le_refl _ | (simp; done) | (simp; omega) | omega))) | (with_reducible refine Below.drew ?_) | ((with_reducible refine after_ ?_ (by assumption) ?_); (rotate_left; (focus (first | exact Nat.le_refl _ | (simp; done) | (simp; omega) | omega))))))
  have hs9 := hB9.size
  have ra9 := ra8.carry hB9
  have rb9 := rb8.carry hB9
  have x9 := x8.carry hB9
  have y9 := y8.carry hB9
  have p9 := p8.carry hB9
  have q9 := q8.carry hB9
  have s9 := s8.carry hB9
  go_wp2_with fail
  refine (eqIntS_same js _ _ _ _ _ h2 (q9.rd fun _ => rfl) (t9.rd fun _ => rfl)).mono ?_
  rintro e w10 ⟨rfl, hb10⟩
  have hz10 := hb10.size
  have hB10 : Below w9.heap.size w9 w10 := (by repeat (first | (with_reducible exact Below.refl _ _) | ((with_reducible refine alloc_ ?_ ?_); (focus (first | exact Nat.le_refl _ | (simp; done) | (simp; omega) | omega))) | ((with_reducible refine set_ ?_ ?_); (focus (first | exact Nat.le_refl _ | (simp; done) | (simp; omega) | omega))) | (with_reducible refine Below.drew ?_) | ((with_reducible refine after_ ?_ (by assumption) ?_); (rotate_left; (focus (first | exact Nat.le_refl _ | (simp; done) | (simp; omega) | omega))))))
  have hs10 := hB10.size
  have ra10 := ra9.carry hB10
  have rb10 := rb9.carry hB10
  have x10 := x9.carry hB10
  have y10 := y9.carry hB10
  have p10 := p9.carry hB10
  have q10 := q9.carry hB10
  have s10 := s9.carry hB10
  have t10 := t9.carry hB10
  go_wp2_with fail
  go_ret
  exact ⟨rfl, (by repeat (first | (with_reducible exact Below.refl _ _) | ((with_reducible refine alloc_ ?_ ?_); (focus (first | exact Nat.le_refl _ | (simp; done) | (simp; omega) | omega))) | ((with_reducible refine set_ ?_ ?_); (focus (first | exact Nat.le_refl _ | (simp; done) | (simp; omega) | omega))) | (with_reducible refine Below.drew ?_) | ((with_reducible refine after_ ?_ (by assumption) ?_); (rotate_left; (focus (first | exact Nat.le_refl _ | (simp; done) | (simp; omega) | omega))))))⟩
namespace fnExactIsTaskPlan
set_option linter.unusedVariables false
theorem own : ownKnob Try.prog.godebug = none := by kernel_rfl
theorem laidOut : laidOutB Try.prog = true := by kernel_rfl
set_option maxRecDepth 100000 in
theorem lifted (os : Os) (started : os.Started) (H : Type) (enc : TypeId × Value → H) :
    ReturnsInHanded {} Try.checked os 7 .any (Rows.fnExactIsTaskPlanSpec.pre6 enc Try.prog Try.f7 Rows.fnExactIsTaskPlanRow.domain false) (Rows.fnExactIsTaskPlanSpec.post enc Try.prog Try.f7 false true false false) := by
  refine returnsInHanded_of_change (C := Try.checked) own started (by kernel_rfl) Try.func7
    (ChangeSpec.witness6 (enc := enc) (C := Try.checked) false ⟨#[], #[.slice none 0 0, .slice none 0 0], []⟩ 8 (by kernel_rfl) (by kernel_rfl) (by kernel_rfl) (by kernel_rfl)) ?_
  intro W base args ds gs before hval0 hW hcnd _
  have hval : ∀ (j : Nat) t v, Try.f7.params[j]? = some t → args[j]? = some v → Value.okWide Try.prog W .any base t v := hval0
  have hW' := hW
  obtain ⟨p, q, hA0, hV, rfl, hfz, hnd⟩ := hW
  have hA : DataW.TrodAll enc Try.prog W 0 (fun _ => true) true Try.f7.params.toList args.toList ds p := hA0
  rw [Try.params7] at hA hval
  obtain ⟨v0, vs0, d0, ds0, p0, q0, hargs, rfl, rfl, h0, r0⟩ := trodAll_cons hA
  obtain ⟨v1, vs1, d1, ds1, p1, q1, rfl, rfl, rfl, h1, r1⟩ := trodAll_cons r0
  obtain ⟨rfl, rfl, rfl⟩ := trodAll_nil r1
  obtain rfl : args = #[v0, v1] := by cases args; simp_all
  obtain ⟨rfl, rfl⟩ := trodVars_none hV
  have k0 := h0
  have lt0 : ∀ x ∈ p0, x.block < W.heap.size := by obtain ⟨m, hm⟩ := k0; exact DataW.trod_lt m _ _ _ hm
  have k1 := h1
  have lt1 : ∀ x ∈ p1, x.block < W.heap.size := by obtain ⟨m, hm⟩ := k1; exact DataW.trod_lt m _ _ _ hm
  obtain ⟨a0, len0, cap0, rfl⟩ := okWide_slice Try.underlying22 (hval 0 22 v0 rfl rfl)
  obtain ⟨l, w0⟩ := open_laws_Task h0
  obtain ⟨a1, len1, cap1, rfl⟩ := okWide_slice Try.underlying35 (hval 1 35 v1 rfl rfl)
  obtain ⟨js, w1⟩ := open_nums Try.underlying35 Try.underlying3 (by kernel_rfl) h1
  clear hA0 hval0
  refine (lawIsTaskPlan l a0 len0 cap0 js a1 len1 cap1 W w0 w1).mono fun e W' ⟨he, bel⟩ => ?_
  subst he
  exact ⟨_, rfl, _, _, _, [], _, [], hW', trodAll_mk1 (shut_bool Try.underlying4 _), (trodAll_cons_mk (Below.trod laidOut (by kernel_rfl) (of_decide_eq_true (by kernel_rfl)) k0 bel lt0) (trodAll_cons_mk (Below.trod laidOut (by kernel_rfl) (of_decide_eq_true (by kernel_rfl)) k1 bel lt1) trodAll_mk0)), rfl, bel.frame _, fun h => by cases h⟩
theorem over : Rows.fnExactIsTaskPlanRow.holds Try.pinned (OpenSpec.ofChange Rows.fnExactIsTaskPlanSpec) :=
  OpenClaim.holds_of_wide 7 Try.f7 rfl rfl rfl rfl rfl rfl rfl ⟨rfl, rfl, rfl, rfl, rfl⟩ rfl rfl rfl rfl rfl (by kernel_rfl) Try.func7 (by kernel_rfl)
    (of_decide_eq_true (by kernel_rfl)) (by unfold Func.isWrapper; first | (rw [if_pos (by decide +kernel)]; kernel_rfl) | (rw [if_neg (by decide +kernel)]; exact ⟨rfl, rfl⟩))
    (fun os started H enc _ => lifted os started H enc)
/-- The given statement. -/
theorem proved : Rows.FnExactIsTaskPlanSaid := over
#print axioms proved
end fnExactIsTaskPlan
end Go.Proofs.Ytokddcnkfeimkaa
