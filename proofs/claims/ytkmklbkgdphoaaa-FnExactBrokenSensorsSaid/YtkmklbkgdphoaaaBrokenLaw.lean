/- FnExactBrokenSensors returns true for all arguments; no conditions. -/
import Derived.Test.YtkmklbkgdphoaaaBroken
import Derived.Test.YtkmklbkgdphoaaaLaw
import Derived.Test.YtkmklbkgdphoaaaMarks
namespace Go.Proofs.Ytkmklbkgdphoaaa
open Go.RowKit Go.Joins Go.ChangeShapes Go.WideShapes Go.ChangeAt
theorem brkP_len {l : List Int} {s : Int} : (brkP l s).1.length ≤ 5 := by
  unfold brkP; split
  · next h =>
    simp only [Bool.and_eq_true] at h
    have := (okV_true h.1).1
    have := brkTo_len (o := l) (v := voteV l) (s := s) l.length
    show (brkTo l (voteV l) s l.length).length ≤ 5
    omega
  · simp
theorem markIntS_r (l : List Int) (g cap : Nat) (m : Int) (w : World) (hl : l.length ≤ 1048576) (h0 : 0 ≤ m) (h1 : m ≤ 1000) (hr : Row w g 3 1 intCells l) :
    Calls Try.prog 11 #[.slice (some ⟨g, 0, none⟩) l.length cap, .int .i64 m] w fun e w' => e = .returned (.int .i64 (m + l.length)) ∧ w.grownBy w' (some g) := by
  obtain ⟨f0, hf0, _⟩ := hr
  have HF0 := Lib.hid hf0
  clear hf0
  go_enter Try.func11, Try.ntmps11
  go_wp2_with fail
  go_loopw [1, 5] (fun s i wr => ∃ k : Nat, k ≤ l.length ∧ i = .int .i64 k ∧ s = .int .i64 (m + k) ∧ Mk w wr g 3 (l.length * 1)) (fun _ i _ => l.length - (intOf i).toNat)
  case atStart => exact ⟨0, Nat.zero_le _, rfl, by simp, ⟨_, HF0.out⟩, World.grownBy.refl _ _⟩
  case round =>
    obtain ⟨k, hk, rfl, rfl, hm⟩ := hrel
    have HM := Lib.hid hm
    by_cases hlt : k < l.length
    · obtain ⟨u0, hc0⟩ := hm.cell (s := k) (by omega)
      have hz := hm.frozen
      clear hm
      go_wp2_with fail
      go_roundw
      case rel => exact ⟨k + 1, by omega, by go_num, by go_num, (HM.out).set_⟩
      case measure => simp [intOf]; omega
    · obtain rfl : k = l.length := by omega
      clear hm
      go_wp2_with fail
      go_ret
      exact ⟨rfl, HM.out.2⟩
theorem lawBrokenSensors (l : List Int) (A : Option Addr) (n cap : Nat) (s : Int) (w : World) (hr : InInts w A n l) (_hs : I64 s) :
    Calls Try.prog 4 #[.slice A n cap, .int .i64 s] w fun e w' => e = .returned (.bool true) ∧ Below w.heap.size w w' := by
  obtain ⟨rfl, hlm, ra0⟩ := hr
  unfold maxLen at hlm
  by_cases h1 : l.length ≤ 1048576
  case neg =>
    go_enter Try.func4, Try.ntmps4
    go_wp2_with fail
    go_ret
    exact ⟨rfl, Below.refl _ _⟩
  have h2 : (brkP l s).1.length ≤ 1048576 := Nat.le_trans brkP_len (by omega)
  go_enter Try.func4, Try.ntmps4
  go_wp2_with fail
  refine (toIntS_c l _ _ _ h1 (ra0.mono (by omega))).mono ?_
  rintro e w1 ⟨rfl, x1, hb1⟩
  have hz1 := hb1.size
  try simp only [World.size_alloc] at x1
  have hB1 : Below w.heap.size w w1 := (by repeat (first | (with_reducible exact Below.refl _ _) | ((with_reducible refine alloc_ ?_ ?_); (focus (first | exact Nat.le_refl _ | (simp; done) | (simp; omega) | omega))) | ((with_reducible refine set_ ?_ ?_); (focus (first | exact Nat.le_refl _ | (simp; done) | (simp; omega) | omega))) | (with_reducible refine Below.drew ?_) | ((with_reducible refine after_ ?_ (by assumption) ?_); (rotate_left; (focus (first | exact Nat.le_refl _ | (simp; done) | (simp; omega) | omega))))))
  have hs1 := hB1.size
  have ra1 := ra0.below hB1 (by omega)
  go_wp2_with fail
  refine (specBrokenSensors_c l _ _ s _ h1 (x1.rd fun _ => rfl)).mono ?_
  rintro e w2 ⟨A1, cap1, rfl, o2, hb2⟩
  have hz2 := hb2.size
  try simp only [World.size_alloc] at o2
  have hB2 : Below w1.heap.size w1 w2 := (by repeat (first | (with_reducible exact Below.refl _ _) | ((with_reducible refine alloc_ ?_ ?_); (focus (first | exact Nat.le_refl _ | (simp; done) | (simp; omega) | omega))) | ((with_reducible refine set_ ?_ ?_); (focus (first | exact Nat.le_refl _ | (simp; done) | (simp; omega) | omega))) | (with_reducible refine Below.drew ?_) | ((with_reducible refine after_ ?_ (by assumption) ?_); (rotate_left; (focus (first | exact Nat.le_refl _ | (simp; done) | (simp; omega) | omega))))))
  have hs2 := hB2.size
  have ra2 := ra1.below hB2 (by omega)
  have x2 := x1.carry hB2
  have v2 := o2.rd (fun _ => rfl)
  go_wp2_with fail
  refine (toIntS_c l _ _ _ h1 (ra2.mono (by omega))).mono ?_
  rintro e w3 ⟨rfl, y3, hb3⟩
  have hz3 := hb3.size
  try simp only [World.size_alloc] at y3
  have hB3 : Below w2.heap.size w2 w3 := (by repeat (first | (with_reducible exact Below.refl _ _) | ((with_reducible refine alloc_ ?_ ?_); (focus (first | exact Nat.le_refl _ | (simp; done) | (simp; omega) | omega))) | ((with_reducible refine set_ ?_ ?_); (focus (first | exact Nat.le_refl _ | (simp; done) | (simp; omega) | omega))) | (with_reducible refine Below.drew ?_) | ((with_reducible refine after_ ?_ (by assumption) ?_); (rotate_left; (focus (first | exact Nat.le_refl _ | (simp; done) | (simp; omega) | omega))))))
  have hs3 := hB3.size
  have ra3 := ra2.below hB3 (by omega)
  have x3 := x2.carry hB3
  have hlt3 := y3.lt
  have v3 := v2.below hb3 (by omega)
  go_wp2_with fail
  refine (implBrokenSensors_c l _ _ s _ h1 (y3.rd fun _ => rfl)).mono ?_
  rintro e w4 ⟨A2, cap2, rfl, o4, hb4⟩
  have hz4 := hb4.size
  try simp only [World.size_alloc] at o4
  have hB4 : Below w3.heap.size w3 w4 := (by repeat (first | (with_reducible exact Below.refl _ _) | ((with_reducible refine alloc_ ?_ ?_); (focus (first | exact Nat.le_refl _ | (simp; done) | (simp; omega) | omega))) | ((with_reducible refine set_ ?_ ?_); (focus (first | exact Nat.le_refl _ | (simp; done) | (simp; omega) | omega))) | (with_reducible refine Below.drew ?_) | ((with_reducible refine after_ ?_ (by assumption) ?_); (rotate_left; (focus (first | exact Nat.le_refl _ | (simp; done) | (simp; omega) | omega))))))
  have hs4 := hB4.size
  have ra4 := ra3.below hB4 (by omega)
  have x4 := x3.carry hB4
  have y4 := y3.carry hB4
  have v4 := v3.below hb4 (by omega)
  go_wp2_with fail
  refine (eqIntS_same (brkP l s).1 _ _ _ _ _ h2 (o4.rd fun _ => rfl) (v4.mono (by omega))).mono ?_
  rintro e w5 ⟨rfl, hb5⟩
  have hz5 := hb5.size
  have hB5 : Below w4.heap.size w4 w5 := (by repeat (first | (with_reducible exact Below.refl _ _) | ((with_reducible refine alloc_ ?_ ?_); (focus (first | exact Nat.le_refl _ | (simp; done) | (simp; omega) | omega))) | ((with_reducible refine set_ ?_ ?_); (focus (first | exact Nat.le_refl _ | (simp; done) | (simp; omega) | omega))) | (with_reducible refine Below.drew ?_) | ((with_reducible refine after_ ?_ (by assumption) ?_); (rotate_left; (focus (first | exact Nat.le_refl _ | (simp; done) | (simp; omega) | omega))))))
  have hs5 := hB5.size
  have ra5 := ra4.below hB5 (by omega)
  have x5 := x4.carry hB5
  have y5 := y4.carry hB5
  have o5 := o4.carry hB5
  have v5 := v4.below hB5 (by omega)
  go_wp2_with fail
  refine (toIntS_c l _ _ _ h1 (ra5.mono (by omega))).mono ?_
  rintro e w6 ⟨rfl, z6, hb6⟩
  have hz6 := hb6.size
  try simp only [World.size_alloc] at z6
  have hB6 : Below w5.heap.size w5 w6 := (by repeat (first | (with_reducible exact Below.refl _ _) | ((with_reducible refine alloc_ ?_ ?_); (focus (first | exact Nat.le_refl _ | (simp; done) | (simp; omega) | omega))) | ((with_reducible refine set_ ?_ ?_); (focus (first | exact Nat.le_refl _ | (simp; done) | (simp; omega) | omega))) | (with_reducible refine Below.drew ?_) | ((with_reducible refine after_ ?_ (by assumption) ?_); (rotate_left; (focus (first | exact Nat.le_refl _ | (simp; done) | (simp; omega) | omega))))))
  have hs6 := hB6.size
  have ra6 := ra5.below hB6 (by omega)
  have x6 := x5.carry hB6
  have y6 := y5.carry hB6
  have o6 := o5.carry hB6
  have v6 := v5.below hB6 (by omega)
  go_wp2_with fail
  refine (eqIntS_same l _ _ _ _ _ h1 (y6.rd fun _ => rfl) (z6.rd fun _ => rfl)).mono ?_
  rintro e w7 ⟨rfl, hb7⟩
  have hz7 := hb7.size
  have hB7 : Below w6.heap.size w6 w7 := (by repeat (first | (with_reducible exact Below.refl _ _) | ((with_reducible refine alloc_ ?_ ?_); (focus (first | exact Nat.le_refl _ | (simp; done) | (simp; omega) | omega))) | ((with_reducible refine set_ ?_ ?_); (focus (first | exact Nat.le_refl _ | (simp; done) | (simp; omega) | omega))) | (with_reducible refine Below.drew ?_) | ((with_reducible refine after_ ?_ (by assumption) ?_); (rotate_left; (focus (first | exact Nat.le_refl _ | (simp; done) | (simp; omega) | omega))))))
  have hs7 := hB7.size
  have ra7 := ra6.below hB7 (by omega)
  have x7 := x6.carry hB7
  have y7 := y6.carry hB7
  have o7 := o6.carry hB7
  have v7 := v6.below hB7 (by omega)
  have z7 := z6.carry hB7
  go_wp2_with fail
  refine (markIntS_r l _ _ _ _ h1 (by omega) (by omega) y7).mono ?_
  rintro e w8 ⟨rfl, hb8⟩
  have hz8 := hb8.size
  have hW8 : Below w.heap.size w7 w8 := grown_below hb8 (by omega) (by omega)
  have ra8 := ra7.grown hb8 (by omega) (by omega)
  have o8 := o7.grown hb8 (by omega)
  have v8 := v7.grown hb8 (by omega) (by omega)
  go_wp2_with fail
  refine (eqIntS_same (brkP l s).1 _ _ _ _ _ h2 (o8.rd fun _ => rfl) (v8.mono (by omega))).mono ?_
  rintro e w9 ⟨rfl, hb9⟩
  have hz9 := hb9.size
  have hB9 : Below w8.heap.size w8 w9 := (by repeat (first | (with_reducible exact Below.refl _ _) | ((with_reducible refine alloc_ ?_ ?_); (focus (first | exact Nat.le_refl _ | (simp; done) | (simp; omega) | omega))) | ((with_reducible refine set_ ?_ ?_); (focus (first | exact Nat.le_refl _ | (simp; done) | (simp; omega) | omega))) | (with_reducible refine Below.drew ?_) | ((with_reducible refine after_ ?_ (by assumption) ?_); (rotate_left; (focus (first | exact Nat.le_refl _ | (simp; done) | (simp; omega) | omega))))))
  have hs9 := hB9.size
  have ra9 := ra8.below hB9 (by omega)
  have o9 := o8.carry hB9
  have v9 := v8.below hB9 (by omega)
  go_wp2_with fail
  refine (markIntS_c (brkP l s).1 _ _ _ w3.heap.size _ h2 (by omega) (by omega) o9 (by omega)).mono ?_
  rintro e w10 ⟨rfl, m10, hb10⟩
  have hz10 := hb10.size
  try simp only [World.size_alloc] at m10
  have ra10 := ra9.below hb10 (by omega)
  have v10 := v9.below hb10 (by omega)
  go_wp2_with fail
  refine (heldIntS_c _ _ _ _ _ h2 (by omega) (by omega) (m10.rd fun _ => rfl)).mono ?_
  rintro e w' ⟨rfl, rfl⟩
  go_wp2_with fail
  refine (toIntS_c l _ _ _ h1 (ra10.mono (by omega))).mono ?_
  rintro e w11 ⟨rfl, p11, hb11⟩
  have hz11 := hb11.size
  try simp only [World.size_alloc] at p11
  have hB11 : Below w10.heap.size w10 w11 := (by repeat (first | (with_reducible exact Below.refl _ _) | ((with_reducible refine alloc_ ?_ ?_); (focus (first | exact Nat.le_refl _ | (simp; done) | (simp; omega) | omega))) | ((with_reducible refine set_ ?_ ?_); (focus (first | exact Nat.le_refl _ | (simp; done) | (simp; omega) | omega))) | (with_reducible refine Below.drew ?_) | ((with_reducible refine after_ ?_ (by assumption) ?_); (rotate_left; (focus (first | exact Nat.le_refl _ | (simp; done) | (simp; omega) | omega))))))
  have hs11 := hB11.size
  have ra11 := ra10.below hB11 (by omega)
  have v11 := v10.below hB11 (by omega)
  have m11 := m10.carry hB11
  go_wp2_with fail
  refine (implBrokenSensors_c l _ _ s _ h1 (p11.rd fun _ => rfl)).mono ?_
  rintro e w12 ⟨A3, cap3, rfl, o12, hb12⟩
  have hz12 := hb12.size
  try simp only [World.size_alloc] at o12
  have hB12 : Below w11.heap.size w11 w12 := (by repeat (first | (with_reducible exact Below.refl _ _) | ((with_reducible refine alloc_ ?_ ?_); (focus (first | exact Nat.le_refl _ | (simp; done) | (simp; omega) | omega))) | ((with_reducible refine set_ ?_ ?_); (focus (first | exact Nat.le_refl _ | (simp; done) | (simp; omega) | omega))) | (with_reducible refine Below.drew ?_) | ((with_reducible refine after_ ?_ (by assumption) ?_); (rotate_left; (focus (first | exact Nat.le_refl _ | (simp; done) | (simp; omega) | omega))))))
  have hs12 := hB12.size
  have ra12 := ra11.below hB12 (by omega)
  have v12 := v11.below hB12 (by omega)
  have m12 := m11.carry hB12
  have p12 := p11.carry hB12
  go_wp2_with fail
  refine (eqIntS_same (brkP l s).1 _ _ _ _ _ h2 (o12.rd fun _ => rfl) (v12.mono (by omega))).mono ?_
  rintro e w13 ⟨rfl, hb13⟩
  have hz13 := hb13.size
  have hB13 : Below w12.heap.size w12 w13 := (by repeat (first | (with_reducible exact Below.refl _ _) | ((with_reducible refine alloc_ ?_ ?_); (focus (first | exact Nat.le_refl _ | (simp; done) | (simp; omega) | omega))) | ((with_reducible refine set_ ?_ ?_); (focus (first | exact Nat.le_refl _ | (simp; done) | (simp; omega) | omega))) | (with_reducible refine Below.drew ?_) | ((with_reducible refine after_ ?_ (by assumption) ?_); (rotate_left; (focus (first | exact Nat.le_refl _ | (simp; done) | (simp; omega) | omega))))))
  have hs13 := hB13.size
  have ra13 := ra12.below hB13 (by omega)
  have v13 := v12.below hB13 (by omega)
  have m13 := m12.carry hB13
  have p13 := p12.carry hB13
  go_wp2_with fail
  refine (heldIntS_c _ _ _ _ _ h2 (by omega) (by omega) (m13.rd fun _ => rfl)).mono ?_
  rintro e w' ⟨rfl, rfl⟩
  go_wp2_with fail
  go_ret
  exact ⟨rfl, (by repeat (first | (with_reducible exact Below.refl _ _) | ((with_reducible refine alloc_ ?_ ?_); (focus (first | exact Nat.le_refl _ | (simp; done) | (simp; omega) | omega))) | ((with_reducible refine set_ ?_ ?_); (focus (first | exact Nat.le_refl _ | (simp; done) | (simp; omega) | omega))) | (with_reducible refine Below.drew ?_) | ((with_reducible refine after_ ?_ (by assumption) ?_); (rotate_left; (focus (first | exact Nat.le_refl _ | (simp; done) | (simp; omega) | omega))))))⟩
namespace fnExactBrokenSensors
set_option linter.unusedVariables false
theorem own : ownKnob Try.prog.godebug = none := by kernel_rfl
theorem laidOut : laidOutB Try.prog = true := by kernel_rfl
set_option maxRecDepth 100000 in
theorem lifted (os : Os) (started : os.Started) (H : Type) (enc : TypeId × Value → H) :
    ReturnsInHanded {} Try.checked os 4 .any (Rows.fnExactBrokenSensorsSpec.pre6 enc Try.prog Try.f4 Rows.fnExactBrokenSensorsRow.domain false) (Rows.fnExactBrokenSensorsSpec.post enc Try.prog Try.f4 false true false false) := by
  refine returnsInHanded_of_change (C := Try.checked) own started (by kernel_rfl) Try.func4
    (ChangeSpec.witness6 (enc := enc) (C := Try.checked) false ⟨#[], #[.slice none 0 0, .int .i64 0], []⟩ 8 (by kernel_rfl) (by kernel_rfl) (by kernel_rfl) (by kernel_rfl)) ?_
  intro W base args ds gs before hval0 hW hcnd _
  have hval : ∀ (j : Nat) t v, Try.f4.params[j]? = some t → args[j]? = some v → Value.okWide Try.prog W .any base t v := hval0
  have hW' := hW
  obtain ⟨p, q, hA0, hV, rfl, hfz, hnd⟩ := hW
  have hA : DataW.TrodAll enc Try.prog W 0 (fun _ => true) true Try.f4.params.toList args.toList ds p := hA0
  rw [Try.params4] at hA hval
  obtain ⟨v0, vs0, d0, ds0, p0, q0, hargs, rfl, rfl, h0, r0⟩ := trodAll_cons hA
  obtain ⟨v1, vs1, d1, ds1, p1, q1, rfl, rfl, rfl, h1, r1⟩ := trodAll_cons r0
  obtain ⟨rfl, rfl, rfl⟩ := trodAll_nil r1
  obtain rfl : args = #[v0, v1] := by cases args; simp_all
  obtain ⟨rfl, rfl⟩ := trodVars_none hV
  have k0 := h0
  have lt0 : ∀ x ∈ p0, x.block < W.heap.size := by obtain ⟨m, hm⟩ := k0; exact DataW.trod_lt m _ _ _ hm
  have k1 := h1
  have lt1 : ∀ x ∈ p1, x.block < W.heap.size := by obtain ⟨m, hm⟩ := k1; exact DataW.trod_lt m _ _ _ hm
  obtain ⟨a0, len0, cap0, rfl⟩ := okWide_slice Try.underlying22 (hval 0 22 v0 rfl rfl)
  obtain ⟨l, w0⟩ := open_nums Try.underlying22 Try.underlying3 (by kernel_rfl) h0
  obtain ⟨s, rfl, rfl, rfl, w1⟩ := open_int Try.underlying3 (hval 1 3 v1 rfl rfl) h1
  clear hA0 hval0
  refine (lawBrokenSensors l a0 len0 cap0 s W w0 (bounds_i64 w1)).mono fun e W' ⟨he, bel⟩ => ?_
  subst he
  exact ⟨_, rfl, _, _, _, [], _, [], hW', trodAll_mk1 (shut_bool Try.underlying4 _), (trodAll_cons_mk (Below.trod laidOut (by kernel_rfl) (of_decide_eq_true (by kernel_rfl)) k0 bel lt0) (trodAll_cons_mk (Below.trod laidOut (by kernel_rfl) (of_decide_eq_true (by kernel_rfl)) k1 bel lt1) trodAll_mk0)), rfl, bel.frame _, fun h => by cases h⟩
theorem over : Rows.fnExactBrokenSensorsRow.holds Try.pinned (OpenSpec.ofChange Rows.fnExactBrokenSensorsSpec) :=
  OpenClaim.holds_of_wide 4 Try.f4 rfl rfl rfl rfl rfl rfl rfl ⟨rfl, rfl, rfl, rfl, rfl⟩ rfl rfl rfl rfl rfl (by kernel_rfl) Try.func4 (by kernel_rfl)
    (of_decide_eq_true (by kernel_rfl)) (by unfold Func.isWrapper; first | (rw [if_pos (by decide +kernel)]; kernel_rfl) | (rw [if_neg (by decide +kernel)]; exact ⟨rfl, rfl⟩))
    (fun os started H enc _ => lifted os started H enc)
/-- The given statement. -/
theorem proved : Rows.FnExactBrokenSensorsSaid := over
#print axioms proved
end fnExactBrokenSensors
end Go.Proofs.Ytkmklbkgdphoaaa
