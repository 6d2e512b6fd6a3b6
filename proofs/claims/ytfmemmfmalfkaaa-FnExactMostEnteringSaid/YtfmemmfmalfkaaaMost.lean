/- FnExactMostEntering returns true for every platform; no conditions. -/
import Derived.Test.YtfmemmfmalfkaaaPlat
import Derived.Laws.Cover1
import Derived.Test.YtfmemmfmalfkaaaLaw
namespace Go.Proofs.Ytfmemmfmalfkaaa
open Go.RowKit Go.Joins Go.ChangeShapes Go.WideShapes Go.ChangeAt
def mostOf (x : Pla) : Int := if x.d = 0 then 0 else if x.l then min 1 (min x.w (x.s - x.n)) else min x.w (x.s - x.n)
def most (x : Pla) : Int × Bool := if okP x then (mostOf x, true) else (0, false)
theorem rett2 {p : Int × Bool} {a b : Int} {c d : Bool} (h : p = (b, d)) (h1 : a = b) (h2 : c = d) : Ending.returned (.tuple #[.int .i64 a, .bool c]) = .returned (.tuple #[.int .i64 p.1, .bool p.2]) := by rw [h, h1, h2]
theorem l1Least_c (x y : Int) (w : World) : Calls Try.prog 15 #[.int .i64 x, .int .i64 y] w fun e w' => e = .returned (.int .i64 (min x y)) ∧ w = w' := by
  go_enter Try.func15, Try.ntmps15
  go_wp2
  all_goals (go_ret; exact ⟨reti (by omega), rfl⟩)
theorem mostEntering_c (d s n q : Int) (l : Bool) (g : Int) (w : World) (hd : 0 ≤ d ∧ d ≤ 1) (hs : 0 ≤ s ∧ s ≤ 16) (hn : 0 ≤ n ∧ n ≤ s) : Calls Try.prog 13 #[.agg #[.int .i64 d, .int .i64 s, .int .i64 n, .int .i64 q, .bool l, .int .i64 g]] w fun e w' => e = .returned (.int .i64 (mostOf ⟨d, s, n, q, l, g⟩)) ∧ Below w.heap.size w w' := by
  obtain ⟨a1, a2⟩ := hs
  obtain ⟨a3, a4⟩ := hn
  rcases (show d = 0 ∨ d = 1 by omega) with rfl | rfl
  · have H := Lib.hid (show mostOf ⟨0, s, n, q, l, g⟩ = 0 by simp [mostOf])
    go_enter Try.func13, Try.ntmps13
    go_wp2_with (go_at_call 15; refine (l1Least_c _ _ _).mono ?_; rintro e w' ⟨rfl, rfl⟩)
    go_ret
    exact ⟨reti H.out.symm, (by repeat (first | (with_reducible exact Below.refl _ _) | ((with_reducible refine alloc_ ?_ ?_); (focus (first | exact Nat.le_refl _ | (simp; done) | (simp; omega) | omega))) | ((with_reducible refine set_ ?_ ?_); (focus (first | exact Nat.le_refl _ | (simp; done) | (simp; omega) | omega))) | (with_reducible refine Below.drew ?_) | ((with_reducible refine after_ ?_ (by assumption) ?_); (rotate_left; (focus (first | exact Nat.le_refl _ | (simp; done) | (simp; omega) | omega))))))⟩
  · rcases l with _ | _
    · have H := Lib.hid (show mostOf ⟨1, s, n, q, false, g⟩ = min q (s - n) by simp [mostOf])
      go_enter Try.func13, Try.ntmps13
      go_wp2_with (go_at_call 15; refine (l1Least_c _ _ _).mono ?_; rintro e w' ⟨rfl, rfl⟩)
      all_goals (go_ret; exact ⟨reti (by rw [H.out] <;> omega), (by repeat (first | (with_reducible exact Below.refl _ _) | ((with_reducible refine alloc_ ?_ ?_); (focus (first | exact Nat.le_refl _ | (simp; done) | (simp; omega) | omega))) | ((with_reducible refine set_ ?_ ?_); (focus (first | exact Nat.le_refl _ | (simp; done) | (simp; omega) | omega))) | (with_reducible refine Below.drew ?_) | ((with_reducible refine after_ ?_ (by assumption) ?_); (rotate_left; (focus (first | exact Nat.le_refl _ | (simp; done) | (simp; omega) | omega))))))⟩)
    · have H := Lib.hid (show mostOf ⟨1, s, n, q, true, g⟩ = min 1 (min q (s - n)) by simp [mostOf])
      go_enter Try.func13, Try.ntmps13
      go_wp2_with (go_at_call 15; refine (l1Least_c _ _ _).mono ?_; rintro e w' ⟨rfl, rfl⟩)
      all_goals (go_ret; exact ⟨reti (by rw [H.out] <;> omega), (by repeat (first | (with_reducible exact Below.refl _ _) | ((with_reducible refine alloc_ ?_ ?_); (focus (first | exact Nat.le_refl _ | (simp; done) | (simp; omega) | omega))) | ((with_reducible refine set_ ?_ ?_); (focus (first | exact Nat.le_refl _ | (simp; done) | (simp; omega) | omega))) | (with_reducible refine Below.drew ?_) | ((with_reducible refine after_ ?_ (by assumption) ?_); (rotate_left; (focus (first | exact Nat.le_refl _ | (simp; done) | (simp; omega) | omega))))))⟩)
theorem l14Entering_c (d s n q : Int) (l : Bool) (g : Int) (w : World) (hd : 0 ≤ d ∧ d ≤ 1) (hs : 0 ≤ s ∧ s ≤ 16) (hn : 0 ≤ n ∧ n ≤ s) : Calls Try.prog 12 #[.agg #[.int .i64 d, .int .i64 s, .int .i64 n, .int .i64 q, .bool l, .int .i64 g]] w fun e w' => e = .returned (.int .i64 (mostOf ⟨d, s, n, q, l, g⟩)) ∧ Below w.heap.size w w' := by
  obtain ⟨a1, a2⟩ := hs
  obtain ⟨a3, a4⟩ := hn
  rcases (show d = 0 ∨ d = 1 by omega) with rfl | rfl
  · have H := Lib.hid (show mostOf ⟨0, s, n, q, l, g⟩ = 0 by simp [mostOf])
    go_enter Try.func12, Try.ntmps12
    go_wp2_with (go_at_call 15; refine (l1Least_c _ _ _).mono ?_; rintro e w' ⟨rfl, rfl⟩)
    go_ret
    exact ⟨reti H.out.symm, (by repeat (first | (with_reducible exact Below.refl _ _) | ((with_reducible refine alloc_ ?_ ?_); (focus (first | exact Nat.le_refl _ | (simp; done) | (simp; omega) | omega))) | ((with_reducible refine set_ ?_ ?_); (focus (first | exact Nat.le_refl _ | (simp; done) | (simp; omega) | omega))) | (with_reducible refine Below.drew ?_) | ((with_reducible refine after_ ?_ (by assumption) ?_); (rotate_left; (focus (first | exact Nat.le_refl _ | (simp; done) | (simp; omega) | omega))))))⟩
  · rcases l with _ | _
    · have H := Lib.hid (show mostOf ⟨1, s, n, q, false, g⟩ = min q (s - n) by simp [mostOf])
      go_enter Try.func12, Try.ntmps12
      go_wp2_with (go_at_call 15; refine (l1Least_c _ _ _).mono ?_; rintro e w' ⟨rfl, rfl⟩)
      all_goals (go_ret; exact ⟨reti (by rw [H.out] <;> omega), (by repeat (first | (with_reducible exact Below.refl _ _) | ((with_reducible refine alloc_ ?_ ?_); (focus (first | exact Nat.le_refl _ | (simp; done) | (simp; omega) | omega))) | ((with_reducible refine set_ ?_ ?_); (focus (first | exact Nat.le_refl _ | (simp; done) | (simp; omega) | omega))) | (with_reducible refine Below.drew ?_) | ((with_reducible refine after_ ?_ (by assumption) ?_); (rotate_left; (focus (first | exact Nat.le_refl _ | (simp; done) | (simp; omega) | omega))))))⟩)
    · have H := Lib.hid (show mostOf ⟨1, s, n, q, true, g⟩ = min 1 (min q (s - n)) by simp [mostOf])
      go_enter Try.func12, Try.ntmps12
      go_wp2_with (go_at_call 15; refine (l1Least_c _ _ _).mono ?_; rintro e w' ⟨rfl, rfl⟩)
      all_goals (go_ret; exact ⟨reti (by rw [H.out] <;> omega), (by repeat (first | (with_reducible exact Below.refl _ _) | ((with_reducible refine alloc_ ?_ ?_); (focus (first | exact Nat.le_refl _ | (simp; done) | (simp; omega) | omega))) | ((with_reducible refine set_ ?_ ?_); (focus (first | exact Nat.le_refl _ | (simp; done) | (simp; omega) | omega))) | (with_reducible refine Below.drew ?_) | ((with_reducible refine after_ ?_ (by assumption) ?_); (rotate_left; (focus (first | exact Nat.le_refl _ | (simp; done) | (simp; omega) | omega))))))⟩)
theorem implMostEntering_c (x : Pla) (w : World) : Calls Try.prog 9 #[.agg #[.int .i64 x.d, .int .i64 x.s, .int .i64 x.n, .int .i64 x.w, .bool x.l, .int .i64 x.g]] w fun e w' => e = .returned (.tuple #[.int .i64 (most x).1, .bool (most x).2]) ∧ Below w.heap.size w w' := by
  rcases hg : okP x with _ | _
  · have H := Lib.hid (show most x = (0, false) by simp [most, hg])
    go_enter Try.func9, Try.ntmps9
    go_wp2_with (go_at_call 7; refine (IsPlatform_c _ _).mono ?_; rintro e w1 ⟨rfl, hb1⟩; obtain ⟨hc1, hf1, hz1⟩ := bcell hb1; try simp [Nat.add_one_le_iff] at hz1)
    go_ret2
    exact ⟨rett2 H.out rfl rfl, (by repeat (first | (with_reducible exact Below.refl _ _) | ((with_reducible refine alloc_ ?_ ?_); (focus (first | exact Nat.le_refl _ | (simp; done) | (simp; omega) | omega))) | ((with_reducible refine set_ ?_ ?_); (focus (first | exact Nat.le_refl _ | (simp; done) | (simp; omega) | omega))) | (with_reducible refine Below.drew ?_) | ((with_reducible refine after_ ?_ (by assumption) ?_); (rotate_left; (focus (first | exact Nat.le_refl _ | (simp; done) | (simp; omega) | omega))))))⟩
  have H := Lib.hid (show most x = (mostOf x, true) by simp [most, hg])
  obtain ⟨h1, h2, h3, _⟩ := okP_true hg
  go_enter Try.func9, Try.ntmps9
  go_wp2_with (first | (go_at_call 7; refine (IsPlatform_c _ _).mono ?_; rintro e w1 ⟨rfl, hb1⟩; obtain ⟨hc1, hf1, hz1⟩ := bcell hb1; try simp [Nat.add_one_le_iff] at hz1) | (go_at_call 13; refine (mostEntering_c _ _ _ _ _ _ _ h1 h2 h3).mono ?_; rintro e w1 ⟨rfl, hb1⟩; obtain ⟨hc1, hf1, hz1⟩ := bcell hb1; try simp [Nat.add_one_le_iff] at hz1))
  go_ret2
  exact ⟨rett2 H.out rfl rfl, (by repeat (first | (with_reducible exact Below.refl _ _) | ((with_reducible refine alloc_ ?_ ?_); (focus (first | exact Nat.le_refl _ | (simp; done) | (simp; omega) | omega))) | ((with_reducible refine set_ ?_ ?_); (focus (first | exact Nat.le_refl _ | (simp; done) | (simp; omega) | omega))) | (with_reducible refine Below.drew ?_) | ((with_reducible refine after_ ?_ (by assumption) ?_); (rotate_left; (focus (first | exact Nat.le_refl _ | (simp; done) | (simp; omega) | omega))))))⟩
theorem specMostEntering_c (x : Pla) (w : World) : Calls Try.prog 8 #[.agg #[.int .i64 x.d, .int .i64 x.s, .int .i64 x.n, .int .i64 x.w, .bool x.l, .int .i64 x.g]] w fun e w' => e = .returned (.tuple #[.int .i64 (most x).1, .bool (most x).2]) ∧ Below w.heap.size w w' := by
  rcases hg : okP x with _ | _
  · have H := Lib.hid (show most x = (0, false) by simp [most, hg])
    go_enter Try.func8, Try.ntmps8
    go_wp2_with (go_at_call 10; refine (l14Good_c _ _).mono ?_; rintro e w1 ⟨rfl, hb1⟩; obtain ⟨hc1, hf1, hz1⟩ := bcell hb1; try simp [Nat.add_one_le_iff] at hz1)
    go_ret2
    exact ⟨rett2 H.out rfl rfl, (by repeat (first | (with_reducible exact Below.refl _ _) | ((with_reducible refine alloc_ ?_ ?_); (focus (first | exact Nat.le_refl _ | (simp; done) | (simp; omega) | omega))) | ((with_reducible refine set_ ?_ ?_); (focus (first | exact Nat.le_refl _ | (simp; done) | (simp; omega) | omega))) | (with_reducible refine Below.drew ?_) | ((with_reducible refine after_ ?_ (by assumption) ?_); (rotate_left; (focus (first | exact Nat.le_refl _ | (simp; done) | (simp; omega) | omega))))))⟩
  have H := Lib.hid (show most x = (mostOf x, true) by simp [most, hg])
  obtain ⟨h1, h2, h3, _⟩ := okP_true hg
  go_enter Try.func8, Try.ntmps8
  go_wp2_with (first | (go_at_call 10; refine (l14Good_c _ _).mono ?_; rintro e w1 ⟨rfl, hb1⟩; obtain ⟨hc1, hf1, hz1⟩ := bcell hb1; try simp [Nat.add_one_le_iff] at hz1) | (go_at_call 12; refine (l14Entering_c _ _ _ _ _ _ _ h1 h2 h3).mono ?_; rintro e w1 ⟨rfl, hb1⟩; obtain ⟨hc1, hf1, hz1⟩ := bcell hb1; try simp [Nat.add_one_le_iff] at hz1))
  go_ret2
  exact ⟨rett2 H.out rfl rfl, (by repeat (first | (with_reducible exact Below.refl _ _) | ((with_reducible refine alloc_ ?_ ?_); (focus (first | exact Nat.le_refl _ | (simp; done) | (simp; omega) | omega))) | ((with_reducible refine set_ ?_ ?_); (focus (first | exact Nat.le_refl _ | (simp; done) | (simp; omega) | omega))) | (with_reducible refine Below.drew ?_) | ((with_reducible refine after_ ?_ (by assumption) ?_); (rotate_left; (focus (first | exact Nat.le_refl _ | (simp; done) | (simp; omega) | omega))))))⟩
theorem lawMostEntering (d s n q : Int) (l : Bool) (g : Int) (w : World) (_hd : I64 d) (_hs : I64 s) (_hn : I64 n) (_hq : I64 q) (_hg : I64 g) : Calls Try.prog 4 #[.agg #[.int .i64 d, .int .i64 s, .int .i64 n, .int .i64 q, .bool l, .int .i64 g]] w fun e w' => e = .returned (.bool true) ∧ Below w.heap.size w w' := by
  go_enter Try.func4, Try.ntmps4
  go_wp2_with fail
  refine (toPlatform_c ⟨d, s, n, q, l, g⟩ _).mono ?_
  rintro e w1 ⟨rfl, hb1⟩
  have hz1 := hb1.size
  have l1_0 : w.heap.size < w1.heap.size := by first | omega | (simp at hz1; omega)
  have c1_0 := fun o => hb1.cell (p := ⟨w.heap.size, o, none⟩) (by first | omega | (simp; done) | (simp; omega))
  have f1_0 := fun o => hb1.frozen (p := ⟨w.heap.size, o, none⟩) (by first | omega | (simp; done) | (simp; omega))
  go_wp2_with fail
  refine (specMostEntering_c ⟨d, s, n, q, l, g⟩ _).mono ?_
  rintro e w2 ⟨rfl, hb2⟩
  have hz2 := hb2.size
  have l2_0 : w.heap.size < w2.heap.size := by first | omega | (simp at hz2; omega)
  have c2_0 := fun o => hb2.cell (p := ⟨w.heap.size, o, none⟩) (by first | omega | (simp; done) | (simp; omega))
  have f2_0 := fun o => hb2.frozen (p := ⟨w.heap.size, o, none⟩) (by first | omega | (simp; done) | (simp; omega))
  go_wp2_with fail
  refine (toPlatform_c ⟨d, s, n, q, l, g⟩ _).mono ?_
  rintro e w3 ⟨rfl, hb3⟩
  have hz3 := hb3.size
  have l3_0 : w.heap.size < w3.heap.size := by first | omega | (simp at hz3; omega)
  have c3_0 := fun o => hb3.cell (p := ⟨w.heap.size, o, none⟩) (by first | omega | (simp; done) | (simp; omega))
  have f3_0 := fun o => hb3.frozen (p := ⟨w.heap.size, o, none⟩) (by first | omega | (simp; done) | (simp; omega))
  go_wp2_with fail
  refine (implMostEntering_c ⟨d, s, n, q, l, g⟩ _).mono ?_
  rintro e w4 ⟨rfl, hb4⟩
  have hz4 := hb4.size
  have l4_0 : w.heap.size < w4.heap.size := by first | omega | (simp at hz4; omega)
  have c4_0 := fun o => hb4.cell (p := ⟨w.heap.size, o, none⟩) (by first | omega | (simp; done) | (simp; omega))
  have f4_0 := fun o => hb4.frozen (p := ⟨w.heap.size, o, none⟩) (by first | omega | (simp; done) | (simp; omega))
  go_wp2_with fail
  go_ret
  exact ⟨rfl, (by repeat (first | (with_reducible exact Below.refl _ _) | ((with_reducible refine alloc_ ?_ ?_); (focus (first | exact Nat.le_refl _ | (simp; done) | (simp; omega) | omega))) | ((with_reducible refine set_ ?_ ?_); (focus (first | exact Nat.le_refl _ | (simp; done) | (simp; omega) | omega))) | (with_reducible refine Below.drew ?_) | ((with_reducible refine after_ ?_ (by assumption) ?_); (rotate_left; (focus (first | exact Nat.le_refl _ | (simp; done) | (simp; omega) | omega))))))⟩
namespace fnExactMostEntering
set_option linter.unusedVariables false
theorem own : ownKnob Try.prog.godebug = none := by kernel_rfl
theorem laidOut : laidOutB Try.prog = true := by kernel_rfl
set_option maxRecDepth 100000 in
theorem lifted (os : Os) (started : os.Started) (H : Type) (enc : TypeId × Value → H) :
    ReturnsInHanded {} Try.checked os 4 .any (Rows.fnExactMostEnteringSpec.pre6 enc Try.prog Try.f4 Rows.fnExactMostEnteringRow.domain false) (Rows.fnExactMostEnteringSpec.post enc Try.prog Try.f4 false true false false) := by
  refine returnsInHanded_of_change (C := Try.checked) own started (by kernel_rfl) Try.func4
    (ChangeSpec.witness6 (enc := enc) (C := Try.checked) false ⟨#[], #[.agg #[.int .i64 0, .int .i64 0, .int .i64 0, .int .i64 0, .bool false, .int .i64 0]], []⟩ 8 (by kernel_rfl) (by kernel_rfl) (by kernel_rfl) (by kernel_rfl)) ?_
  intro W base args ds gs before hval0 hW hcnd _
  have hval : ∀ (j : Nat) t v, Try.f4.params[j]? = some t → args[j]? = some v → Value.okWide Try.prog W .any base t v := hval0
  have hW' := hW
  obtain ⟨p, q, hA0, hV, rfl, hfz, hnd⟩ := hW
  have hA : DataW.TrodAll enc Try.prog W 0 (fun _ => true) true Try.f4.params.toList args.toList ds p := hA0
  rw [Try.params4] at hA hval
  obtain ⟨v0, vs0, d0, ds0, p0, q0, hargs, rfl, rfl, h0, r0⟩ := trodAll_cons hA
  obtain ⟨rfl, rfl, rfl⟩ := trodAll_nil r0
  obtain rfl : args = #[v0] := by cases args; simp_all
  obtain ⟨rfl, rfl⟩ := trodVars_none hV
  have k0 := h0
  have lt0 : ∀ x ∈ p0, x.block < W.heap.size := by obtain ⟨m, hm⟩ := k0; exact DataW.trod_lt m _ _ _ hm
  obtain ⟨c0_0, c0_1, c0_2, c0_3, c0_4, c0_5, y0_0, y0_1, y0_2, y0_3, y0_4, y0_5, m0, rfl, rfl, rfl, hy0_0, hy0_1, hy0_2, hy0_3, hy0_4, hy0_5⟩ := open_agg6 Try.underlying23 (by kernel_rfl) (by kernel_rfl) (hval 0 23 v0 rfl rfl) h0
  obtain ⟨d, e0_0, rfl, w0_0⟩ := DataW.trod_int Try.underlying3 hy0_0
  simp only [List.cons.injEq, and_true] at e0_0; subst e0_0
  obtain ⟨s, e0_1, rfl, w0_1⟩ := DataW.trod_int Try.underlying3 hy0_1
  simp only [List.cons.injEq, and_true] at e0_1; subst e0_1
  obtain ⟨n, e0_2, rfl, w0_2⟩ := DataW.trod_int Try.underlying3 hy0_2
  simp only [List.cons.injEq, and_true] at e0_2; subst e0_2
  obtain ⟨q, e0_3, rfl, w0_3⟩ := DataW.trod_int Try.underlying3 hy0_3
  simp only [List.cons.injEq, and_true] at e0_3; subst e0_3
  obtain ⟨l, e0_4, rfl⟩ := DataW.trod_bool Try.underlying4 hy0_4
  simp only [List.cons.injEq, and_true] at e0_4; subst e0_4
  obtain ⟨g, e0_5, rfl, w0_5⟩ := DataW.trod_int Try.underlying3 hy0_5
  simp only [List.cons.injEq, and_true] at e0_5; subst e0_5
  clear hA0 hval0
  refine (lawMostEntering d s n q l g W (bounds_i64 w0_0) (bounds_i64 w0_1) (bounds_i64 w0_2) (bounds_i64 w0_3) (bounds_i64 w0_5)).mono fun e W' ⟨he, bel⟩ => ?_
  subst he
  exact ⟨_, rfl, _, _, _, [], _, [], hW', trodAll_mk1 (shut_bool Try.underlying4 _), (trodAll_cons_mk (Below.trod laidOut (by kernel_rfl) (of_decide_eq_true (by kernel_rfl)) k0 bel lt0) trodAll_mk0), rfl, bel.frame _, fun h => by cases h⟩
theorem over : Rows.fnExactMostEnteringRow.holds Try.pinned (OpenSpec.ofChange Rows.fnExactMostEnteringSpec) :=
  OpenClaim.holds_of_wide 4 Try.f4 rfl rfl rfl rfl rfl rfl rfl ⟨rfl, rfl, rfl, rfl, rfl⟩ rfl rfl rfl rfl rfl (by kernel_rfl) Try.func4 (by kernel_rfl)
    (of_decide_eq_true (by kernel_rfl)) (by unfold Func.isWrapper; first | (rw [if_pos (by decide +kernel)]; kernel_rfl) | (rw [if_neg (by decide +kernel)]; exact ⟨rfl, rfl⟩))
    (fun os started H enc _ => lifted os started H enc)
/-- The given statement. -/
theorem proved : Rows.FnExactMostEnteringSaid := over
#print axioms proved
end fnExactMostEntering
end Go.Proofs.Ytfmemmfmalfkaaa
