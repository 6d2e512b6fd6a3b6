/- FnExactAddTask returns true for all arguments; no conditions. -/
import Derived.Test.YtokddcnkfeimkaaAddSpec
import Derived.Test.YtokddcnkfeimkaaTasksIn
import Derived.Test.YtokddcnkfeimkaaTaskMarks
import Derived.Test.YtokddcnkfeimkaaTaskOwn
import Derived.Deep.RegionHeld3
namespace Go.Proofs.Ytokddcnkfeimkaa
open Go.RowKit Go.Joins Go.ChangeShapes Go.WideShapes Go.ChangeAt

theorem addP_len {l : List Tsk} {x : Tsk} : (addP l x).1.length ≤ 8 := by
  unfold addP; split
  · next h =>
    simp only [Bool.and_eq_true] at h
    exact (goodK_true h.1.2).1
  · simp
set_option maxHeartbeats 800000 in
theorem lawAddTask (l : List Tsk) (A : Option Addr) (n cap : Nat) (i f u d : Int) (w : World) (hr : InTsk w A n l) (_hi : I64 i) (_hf : I64 f) (_hu : I64 u) (_hd : I64 d) :
    Calls Try.prog 11 #[.slice A n cap, .agg #[.int .i64 i, .int .i64 f, .int .i64 u, .int .i64 d]] w fun e w' => e = .returned (.bool true) ∧ Below w.heap.size w w' := by
  obtain ⟨rfl, hlm, ra0, _⟩ := hr
  have hx : Row (w.alloc (.cells (⟨i, f, u, d⟩ : Tsk).cells.toArray 47)) w.heap.size 47 4 Tsk.cells [(⟨i, f, u, d⟩ : Tsk)] := by
    obtain ⟨_, g, hg, hc⟩ := Box.new w (⟨i, f, u, d⟩ : Tsk).cells 47
    exact ⟨g, hg, fun k hk j v _ hv => by
      obtain rfl : k = 0 := by simpa using hk
      simpa using hc j v (by simpa [nth] using hv)⟩
  have hbx := Rd.of_row (B := w.heap.size + 1) hx Tsk.four (by omega)
  have HB0 := Lib.hid (show Below w.heap.size w (w.alloc (.cells (⟨i, f, u, d⟩ : Tsk).cells.toArray 47)) from (Below.refl _ _).alloc (Nat.le_refl _) _)
  clear hx
  by_cases h1 : l.length ≤ 1048576
  case neg =>
    go_enter Try.func11, Try.ntmps11
    go_wp2_with fail
    refine (szTaskS_no l _ _ _ _ (by omega) (by omega) hlm (by omega)).mono ?_
    rintro e w' ⟨rfl, rfl⟩
    go_wp2_with fail
    go_ret
    exact ⟨rfl, HB0.out⟩
  have h2 : (addP l ⟨i, f, u, d⟩).1.length ≤ 1048576 := Nat.le_trans addP_len (by omega)
  go_enter Try.func11, Try.ntmps11
  go_wp2_with fail
  refine (szTaskS_yes l _ _ _ _ (by omega) (by omega) hlm (by omega)).mono ?_
  rintro e w' ⟨rfl, rfl⟩
  go_wp2_with fail
  obtain ⟨wp, hwp⟩ : ∃ wp, w.alloc (.cells (⟨i, f, u, d⟩ : Tsk).cells.toArray 47) = wp := ⟨_, rfl⟩
  have hwp2 := hwp
  simp only [Tsk.cells] at hwp2
  rw [hwp2]
  have hzp : w.heap.size + 1 ≤ wp.heap.size := by rw [← hwp]; simp
  rw [hwp] at hbx HB0
  have rap := ra0.below HB0.out (Nat.le_refl _)
  have bxp := hbx
  clear hwp hwp2 hbx ra0
  obtain ⟨_, _, hep, _, qp0, qp1, qp2, qp3⟩ := Tsk.rd bxp (show 0 < [(⟨i, f, u, d⟩ : Tsk)].length by simp)
  simp only [Option.some.injEq, Addr.mk.injEq, and_true] at hep
  obtain ⟨rfl, rfl⟩ := hep
  simp only [nth, List.getD_cons_zero, Nat.zero_mul, Nat.zero_add] at qp0 qp1 qp2 qp3
  go_region_held3 (fun w' : World => w'.cell? ⟨w.heap.size, 0, none⟩ = some (.int .i64 i) ∧ w'.cell? ⟨w.heap.size, 1, none⟩ = some (.int .i64 f) ∧ w'.cell? ⟨w.heap.size, 2, none⟩ = some (.int .i64 u) ∧ w'.cell? ⟨w.heap.size, 3, none⟩ = some (.int .i64 d)) (first | assumption | (refine ⟨?_, ?_, ?_, ?_⟩ <;> ((first | rw [hcC _ _ (by first | omega | (simp; done) | (simp; omega)), hcB _ _ (by first | omega | (simp; done) | (simp; omega)), hcA _ _ (by first | omega | (simp; done) | (simp; omega))] | rw [hcB _ _ (by first | omega | (simp; done) | (simp; omega)), hcA _ _ (by first | omega | (simp; done) | (simp; omega))] | rw [hcA _ _ (by first | omega | (simp; done) | (simp; omega))]); first | assumption | (simp only [go_sem]; assumption))) | (simp [go_sem, *]; done)) (first
    | (go_at_call 16; refine (toTaskS_c l A cap _ h1 ((rap.below (B' := wp.heap.size) (by repeat (first | (with_reducible exact Below.refl _ _) | ((with_reducible refine alloc_ ?_ ?_); (focus (first | exact Nat.le_refl _ | (simp; done) | (simp; omega) | omega))) | ((with_reducible refine set_ ?_ ?_); (focus (first | exact Nat.le_refl _ | (simp; done) | (simp; omega) | omega))) | (with_reducible refine Below.drew ?_) | ((with_reducible refine after_ ?_ (by assumption) ?_); (rotate_left; (focus (first | exact Nat.le_refl _ | (simp; done) | (simp; omega) | omega)))))) (by omega)).mono (by first | (simp; done) | omega | (simp; omega)))).mono ?_; rintro e up ⟨rfl, xap, hap⟩; obtain ⟨hcA, hfA, hzup⟩ := bcell hap; (try simp [Nat.add_one_le_iff] at hzup))
    | (go_at_call 39; refine (toTask_c ⟨i, f, u, d⟩ _).mono ?_; rintro e sp ⟨rfl, hbp⟩; have xbp := xap.carry hbp; obtain ⟨hcB, hfB, hzsp⟩ := bcell hbp; (try simp [Nat.add_one_le_iff] at hzsp))
    | (go_at_call 38; refine (specAddTask_c l ⟨i, f, u, d⟩ _ _ _ _ h1 (Nat.le_refl _) (xbp.rd fun _ => rfl)).mono ?_; rintro e rp ⟨Ap, capp, rfl, op, hdp⟩; obtain ⟨hcC, hfC, hzrp⟩ := bcell hdp; (try simp [Nat.add_one_le_iff] at hzrp)))
  obtain ⟨w0, rfl⟩ : ∃ w0 : World, w0 = rp := ⟨_, rfl⟩
  have hBp : Below wp.heap.size wp w0 := (by repeat (first | (with_reducible exact Below.refl _ _) | ((with_reducible refine alloc_ ?_ ?_); (focus (first | exact Nat.le_refl _ | (simp; done) | (simp; omega) | omega))) | ((with_reducible refine set_ ?_ ?_); (focus (first | exact Nat.le_refl _ | (simp; done) | (simp; omega) | omega))) | (with_reducible refine Below.drew ?_) | ((with_reducible refine after_ ?_ (by assumption) ?_); (rotate_left; (focus (first | exact Nat.le_refl _ | (simp; done) | (simp; omega) | omega))))))
  have hzp0 := hBp.size
  have HP0 : Below w.heap.size w w0 := HB0.out.trans (hBp.mono (by omega))
  have ra0 := rap.below hBp (by omega)
  have bx0 := bxp.below hBp (by omega)
  have v0 := op.rd (fun _ => rfl)
  clear hcA hfA hcB hfB hcC hfC hap hbp hdp xap xbp op rap bxp qp0 qp1 qp2 qp3
  go_wp2_with fail
  refine (toTaskS_c l _ _ _ h1 (ra0.mono (by omega))).mono ?_
  rintro e w1 ⟨rfl, y1, hb1⟩
  have hz1 := hb1.size
  try simp only [World.size_alloc] at y1
  have hB1 : Below w0.heap.size w0 w1 := (by repeat (first | (with_reducible exact Below.refl _ _) | ((with_reducible refine alloc_ ?_ ?_); (focus (first | exact Nat.le_refl _ | (simp; done) | (simp; omega) | omega))) | ((with_reducible refine set_ ?_ ?_); (focus (first | exact Nat.le_refl _ | (simp; done) | (simp; omega) | omega))) | (with_reducible refine Below.drew ?_) | ((with_reducible refine after_ ?_ (by assumption) ?_); (rotate_left; (focus (first | exact Nat.le_refl _ | (simp; done) | (simp; omega) | omega))))))
  have hs1 := hB1.size
  have ra1 := ra0.below hB1 (by omega)
  have bx1 := bx0.below hB1 (by omega)
  have v1 := v0.below hB1 (by omega)
  have hlt1 := y1.lt
  obtain ⟨_, _, he1, _, k0, k1, k2, k3⟩ := Tsk.rd bx1 (show 0 < [(⟨i, f, u, d⟩ : Tsk)].length by simp)
  simp only [Option.some.injEq, Addr.mk.injEq, and_true] at he1
  obtain ⟨rfl, rfl⟩ := he1
  simp only [nth, List.getD_cons_zero, Nat.zero_mul, Nat.zero_add] at k0 k1 k2 k3
  go_wp2_with fail
  refine (toTask_c ⟨i, f, u, d⟩ _).mono ?_
  rintro e w2 ⟨rfl, hb2⟩
  have hz2 := hb2.size
  have hB2 : Below w1.heap.size w1 w2 := (by repeat (first | (with_reducible exact Below.refl _ _) | ((with_reducible refine alloc_ ?_ ?_); (focus (first | exact Nat.le_refl _ | (simp; done) | (simp; omega) | omega))) | ((with_reducible refine set_ ?_ ?_); (focus (first | exact Nat.le_refl _ | (simp; done) | (simp; omega) | omega))) | (with_reducible refine Below.drew ?_) | ((with_reducible refine after_ ?_ (by assumption) ?_); (rotate_left; (focus (first | exact Nat.le_refl _ | (simp; done) | (simp; omega) | omega))))))
  have hs2 := hB2.size
  have ra2 := ra1.below hB2 (by omega)
  have bx2 := bx1.below hB2 (by omega)
  have v2 := v1.below hB2 (by omega)
  have y2 := y1.carry hB2
  clear k0 k1 k2 k3
  go_wp2_with fail
  refine (implAddTask_c l ⟨i, f, u, d⟩ _ _ _ _ h1 (y2.rd fun _ => rfl)).mono ?_
  rintro e w3 ⟨A2, cap2, rfl, o3, hb3⟩
  have hz3 := hb3.size
  try simp only [World.size_alloc] at o3
  have hB3 : Below w2.heap.size w2 w3 := (by repeat (first | (with_reducible exact Below.refl _ _) | ((with_reducible refine alloc_ ?_ ?_); (focus (first | exact Nat.le_refl _ | (simp; done) | (simp; omega) | omega))) | ((with_reducible refine set_ ?_ ?_); (focus (first | exact Nat.le_refl _ | (simp; done) | (simp; omega) | omega))) | (with_reducible refine Below.drew ?_) | ((with_reducible refine after_ ?_ (by assumption) ?_); (rotate_left; (focus (first | exact Nat.le_refl _ | (simp; done) | (simp; omega) | omega))))))
  have hs3 := hB3.size
  have ra3 := ra2.below hB3 (by omega)
  have bx3 := bx2.below hB3 (by omega)
  have v3 := v2.below hB3 (by omega)
  have y3 := y2.carry hB3
  go_wp2_with fail
  refine (eqTaskS_same (addP l ⟨i, f, u, d⟩).1 _ _ _ _ _ h2 (o3.rd fun _ => rfl) (v3.mono (by omega))).mono ?_
  rintro e w4 ⟨rfl, hb4⟩
  have hz4 := hb4.size
  have hB4 : Below w3.heap.size w3 w4 := (by repeat (first | (with_reducible exact Below.refl _ _) | ((with_reducible refine alloc_ ?_ ?_); (focus (first | exact Nat.le_refl _ | (simp; done) | (simp; omega) | omega))) | ((with_reducible refine set_ ?_ ?_); (focus (first | exact Nat.le_refl _ | (simp; done) | (simp; omega) | omega))) | (with_reducible refine Below.drew ?_) | ((with_reducible refine after_ ?_ (by assumption) ?_); (rotate_left; (focus (first | exact Nat.le_refl _ | (simp; done) | (simp; omega) | omega))))))
  have hs4 := hB4.size
  have ra4 := ra3.below hB4 (by omega)
  have bx4 := bx3.below hB4 (by omega)
  have v4 := v3.below hB4 (by omega)
  have y4 := y3.carry hB4
  have o4 := o3.carry hB4
  go_wp2_with fail
  refine (toTaskS_c l _ _ _ h1 (ra4.mono (by omega))).mono ?_
  rintro e w5 ⟨rfl, z5, hb5⟩
  have hz5 := hb5.size
  try simp only [World.size_alloc] at z5
  have hB5 : Below w4.heap.size w4 w5 := (by repeat (first | (with_reducible exact Below.refl _ _) | ((with_reducible refine alloc_ ?_ ?_); (focus (first | exact Nat.le_refl _ | (simp; done) | (simp; omega) | omega))) | ((with_reducible refine set_ ?_ ?_); (focus (first | exact Nat.le_refl _ | (simp; done) | (simp; omega) | omega))) | (with_reducible refine Below.drew ?_) | ((with_reducible refine after_ ?_ (by assumption) ?_); (rotate_left; (focus (first | exact Nat.le_refl _ | (simp; done) | (simp; omega) | omega))))))
  have hs5 := hB5.size
  have ra5 := ra4.below hB5 (by omega)
  have bx5 := bx4.below hB5 (by omega)
  have v5 := v4.below hB5 (by omega)
  have y5 := y4.carry hB5
  have o5 := o4.carry hB5
  go_wp2_with fail
  refine (eqTaskS_same l _ _ _ _ _ h1 (y5.rd fun _ => rfl) (z5.rd fun _ => rfl)).mono ?_
  rintro e w6 ⟨rfl, hb6⟩
  have hz6 := hb6.size
  have hB6 : Below w5.heap.size w5 w6 := (by repeat (first | (with_reducible exact Below.refl _ _) | ((with_reducible refine alloc_ ?_ ?_); (focus (first | exact Nat.le_refl _ | (simp; done) | (simp; omega) | omega))) | ((with_reducible refine set_ ?_ ?_); (focus (first | exact Nat.le_refl _ | (simp; done) | (simp; omega) | omega))) | (with_reducible refine Below.drew ?_) | ((with_reducible refine after_ ?_ (by assumption) ?_); (rotate_left; (focus (first | exact Nat.le_refl _ | (simp; done) | (simp; omega) | omega))))))
  have hs6 := hB6.size
  have ra6 := ra5.below hB6 (by omega)
  have bx6 := bx5.below hB6 (by omega)
  have v6 := v5.below hB6 (by omega)
  have y6 := y5.carry hB6
  have o6 := o5.carry hB6
  have z6 := z5.carry hB6
  go_wp2_with fail
  refine (markTaskS_c l _ _ _ _ h1 (by omega) (by omega) y6).mono ?_
  rintro e w7 ⟨rfl, hb7⟩
  have hz7 := hb7.size
  have hW7 : Below w.heap.size w6 w7 := grown_below hb7 (by omega) (by omega)
  have ra7 := ra6.grown hb7 (by omega) (by omega)
  have bx7 := bx6.grown hb7 (by omega) (by omega)
  have v7 := v6.grown hb7 (by omega) (by omega)
  have o7 := o6.grown hb7 (by omega)
  go_wp2_with fail
  refine (eqTaskS_same (addP l ⟨i, f, u, d⟩).1 _ _ _ _ _ h2 (o7.rd fun _ => rfl) (v7.mono (by omega))).mono ?_
  rintro e w8 ⟨rfl, hb8⟩
  have hz8 := hb8.size
  have hB8 : Below w7.heap.size w7 w8 := (by repeat (first | (with_reducible exact Below.refl _ _) | ((with_reducible refine alloc_ ?_ ?_); (focus (first | exact Nat.le_refl _ | (simp; done) | (simp; omega) | omega))) | ((with_reducible refine set_ ?_ ?_); (focus (first | exact Nat.le_refl _ | (simp; done) | (simp; omega) | omega))) | (with_reducible refine Below.drew ?_) | ((with_reducible refine after_ ?_ (by assumption) ?_); (rotate_left; (focus (first | exact Nat.le_refl _ | (simp; done) | (simp; omega) | omega))))))
  have hs8 := hB8.size
  have ra8 := ra7.below hB8 (by omega)
  have bx8 := bx7.below hB8 (by omega)
  have v8 := v7.below hB8 (by omega)
  have o8 := o7.carry hB8
  go_wp2_with fail
  refine (markTaskS_o (addP l ⟨i, f, u, d⟩).1 _ _ _ w2.heap.size _ h2 (by omega) (by omega) o8 (by omega)).mono ?_
  rintro e w9 ⟨rfl, m9, hb9⟩
  have hz9 := hb9.size
  try simp only [World.size_alloc] at m9
  have ra9 := ra8.below hb9 (by omega)
  have bx9 := bx8.below hb9 (by omega)
  have v9 := v8.below hb9 (by omega)
  go_wp2_with fail
  refine (heldTaskS_c _ _ _ _ _ h2 (by omega) (by omega) (m9.rd fun _ => rfl)).mono ?_
  rintro e w' ⟨rfl, rfl⟩
  go_wp2_with fail
  have hPT : Below w.heap.size w w9 := (by repeat (first | (with_reducible exact Below.refl _ _) | ((with_reducible refine alloc_ ?_ ?_); (focus (first | exact Nat.le_refl _ | (simp; done) | (simp; omega) | omega))) | ((with_reducible refine set_ ?_ ?_); (focus (first | exact Nat.le_refl _ | (simp; done) | (simp; omega) | omega))) | (with_reducible refine Below.drew ?_) | ((with_reducible refine after_ ?_ (by assumption) ?_); (rotate_left; (focus (first | exact Nat.le_refl _ | (simp; done) | (simp; omega) | omega))))))
  have hzT := hPT.size
  have hzT1 : w.heap.size + 1 ≤ w9.heap.size := by omega
  obtain ⟨wT, rfl⟩ : ∃ wT : World, wT = w9 := ⟨_, rfl⟩
  have raT := ra9
  have bxT := bx9
  obtain ⟨_, _, het, _, qt0, qt1, qt2, qt3⟩ := Tsk.rd bxT (show 0 < [(⟨i, f, u, d⟩ : Tsk)].length by simp)
  simp only [Option.some.injEq, Addr.mk.injEq, and_true] at het
  obtain ⟨rfl, rfl⟩ := het
  simp only [nth, List.getD_cons_zero, Nat.zero_mul, Nat.zero_add] at qt0 qt1 qt2 qt3
  go_region_held3 (fun w' : World => w'.cell? ⟨w.heap.size, 0, none⟩ = some (.int .i64 i) ∧ w'.cell? ⟨w.heap.size, 1, none⟩ = some (.int .i64 f) ∧ w'.cell? ⟨w.heap.size, 2, none⟩ = some (.int .i64 u) ∧ w'.cell? ⟨w.heap.size, 3, none⟩ = some (.int .i64 d)) (first | assumption | (refine ⟨?_, ?_, ?_, ?_⟩ <;> ((first | rw [hcCt _ _ (by first | omega | (simp; done) | (simp; omega)), hcBt _ _ (by first | omega | (simp; done) | (simp; omega)), hcAt _ _ (by first | omega | (simp; done) | (simp; omega))] | rw [hcBt _ _ (by first | omega | (simp; done) | (simp; omega)), hcAt _ _ (by first | omega | (simp; done) | (simp; omega))] | rw [hcAt _ _ (by first | omega | (simp; done) | (simp; omega))]); first | assumption | (simp only [go_sem]; assumption))) | (simp [go_sem, *]; done)) (first
    | (go_at_call 16; refine (toTaskS_c l A cap _ h1 ((raT.below (B' := wT.heap.size) (by repeat (first | (with_reducible exact Below.refl _ _) | ((with_reducible refine alloc_ ?_ ?_); (focus (first | exact Nat.le_refl _ | (simp; done) | (simp; omega) | omega))) | ((with_reducible refine set_ ?_ ?_); (focus (first | exact Nat.le_refl _ | (simp; done) | (simp; omega) | omega))) | (with_reducible refine Below.drew ?_) | ((with_reducible refine after_ ?_ (by assumption) ?_); (rotate_left; (focus (first | exact Nat.le_refl _ | (simp; done) | (simp; omega) | omega)))))) (by omega)).mono (by first | (simp; done) | omega | (simp; omega)))).mono ?_; rintro e ut ⟨rfl, xat, hat⟩; obtain ⟨hcAt, hfAt, hzut⟩ := bcell hat; (try simp [Nat.add_one_le_iff] at hzut))
    | (go_at_call 39; refine (toTask_c ⟨i, f, u, d⟩ _).mono ?_; rintro e st ⟨rfl, hbt⟩; have xbt := xat.carry hbt; obtain ⟨hcBt, hfBt, hzst⟩ := bcell hbt; (try simp [Nat.add_one_le_iff] at hzst))
    | (go_at_call 40; refine (implAddTask_c l ⟨i, f, u, d⟩ _ _ _ _ h1 (xbt.rd fun _ => rfl)).mono ?_; rintro e rt ⟨At, capt, rfl, ot, hdt⟩; obtain ⟨hcCt, hfCt, hzrt⟩ := bcell hdt; (try simp [Nat.add_one_le_iff] at hzrt)))
  have hBt : Below wT.heap.size wT rt := (by repeat (first | (with_reducible exact Below.refl _ _) | ((with_reducible refine alloc_ ?_ ?_); (focus (first | exact Nat.le_refl _ | (simp; done) | (simp; omega) | omega))) | ((with_reducible refine set_ ?_ ?_); (focus (first | exact Nat.le_refl _ | (simp; done) | (simp; omega) | omega))) | (with_reducible refine Below.drew ?_) | ((with_reducible refine after_ ?_ (by assumption) ?_); (rotate_left; (focus (first | exact Nat.le_refl _ | (simp; done) | (simp; omega) | omega))))))
  have hzBt := hBt.size
  have vT := v9.below hBt (by omega)
  have mT := m9.carry hBt
  have hFin : Below w.heap.size w rt := hPT.trans (hBt.mono (by omega))
  clear hcAt hfAt hcBt hfBt hcCt hfCt hat hbt hdt xat xbt
  go_wp2_with fail
  refine (eqTaskS_same (addP l ⟨i, f, u, d⟩).1 _ _ _ _ _ h2 (ot.rd fun _ => rfl) (vT.mono (by omega))).mono ?_
  rintro e wE ⟨rfl, hbE⟩
  have mE := mT.carry hbE
  have hFin2 : Below w.heap.size w wE := hFin.trans (hbE.mono hFin.size)
  go_wp2_with fail
  refine (heldTaskS_c _ _ _ _ _ h2 (by omega) (by omega) (mE.rd fun _ => rfl)).mono ?_
  rintro e w' ⟨rfl, rfl⟩
  go_wp2_with fail
  go_ret
  exact ⟨rfl, hFin2⟩
namespace fnExactAddTask
set_option linter.unusedVariables false
theorem own : ownKnob Try.prog.godebug = none := by kernel_rfl
theorem laidOut : laidOutB Try.prog = true := by kernel_rfl
set_option maxRecDepth 100000 in
theorem lifted (os : Os) (started : os.Started) (H : Type) (enc : TypeId × Value → H) :
    ReturnsInHanded {} Try.checked os 11 .any (Rows.fnExactAddTaskSpec.pre6 enc Try.prog Try.f11 Rows.fnExactAddTaskRow.domain false) (Rows.fnExactAddTaskSpec.post enc Try.prog Try.f11 false true false false) := by
  refine returnsInHanded_of_change (C := Try.checked) own started (by kernel_rfl) Try.func11
    (ChangeSpec.witness6 (enc := enc) (C := Try.checked) false ⟨#[], #[.slice none 0 0, .agg #[.int .i64 0, .int .i64 0, .int .i64 0, .int .i64 0]], []⟩ 8 (by kernel_rfl) (by kernel_rfl) (by kernel_rfl) (by kernel_rfl)) ?_
  intro W base args ds gs before hval0 hW hcnd _
  have hval : ∀ (j : Nat) t v, Try.f11.params[j]? = some t → args[j]? = some v → Value.okWide Try.prog W .any base t v := hval0
  have hW' := hW
  obtain ⟨p, q, hA0, hV, rfl, hfz, hnd⟩ := hW
  have hA : DataW.TrodAll enc Try.prog W 0 (fun _ => true) true Try.f11.params.toList args.toList ds p := hA0
  rw [Try.params11] at hA hval
  obtain ⟨v0, vs0, d0, ds0, p0, q0, hargs, rfl, rfl, h0, r0⟩ := trodAll_cons hA
  obtain ⟨v1, vs1, d1, ds1, p1, q1, rfl, rfl, rfl, h1, r1⟩ := trodAll_cons r0
  obtain ⟨rfl, rfl, rfl⟩ := trodAll_nil r1
  obtain rfl : args = #[v0, v1] := by cases args; simp_all
  obtain ⟨rfl, rfl⟩ := trodVars_none hV
  have k0 := h0
  have lt0 : ∀ x ∈ p0, x.block < W.heap.size := by obtain ⟨m, hm⟩ := k0; exact DataW.trod_lt m _ _ _ hm
  have k1 := h1
  have lt1 : ∀ x ∈ p1, x.block < W.heap.size := by obtain ⟨m, hm⟩ := k1; exact DataW.trod_lt m _ _ _ hm
  obtain ⟨a0, len0, cap0, rfl⟩ := okWide_slice Try.underlying22 (hval 0 22 v0 rfl rfl)
  obtain ⟨l, w0⟩ := open_laws_Task h0
  obtain ⟨c1_0, c1_1, c1_2, c1_3, y1_0, y1_1, y1_2, y1_3, m1, rfl, rfl, rfl, hy1_0, hy1_1, hy1_2, hy1_3⟩ := open_agg4 Try.underlying47 (by kernel_rfl) (by kernel_rfl) (hval 1 47 v1 rfl rfl) h1
  obtain ⟨i, e1_0, rfl, w1_0⟩ := DataW.trod_int Try.underlying3 hy1_0
  simp only [List.cons.injEq, and_true] at e1_0; subst e1_0
  obtain ⟨f, e1_1, rfl, w1_1⟩ := DataW.trod_int Try.underlying3 hy1_1
  simp only [List.cons.injEq, and_true] at e1_1; subst e1_1
  obtain ⟨u, e1_2, rfl, w1_2⟩ := DataW.trod_int Try.underlying3 hy1_2
  simp only [List.cons.injEq, and_true] at e1_2; subst e1_2
  obtain ⟨d, e1_3, rfl, w1_3⟩ := DataW.trod_int Try.underlying3 hy1_3
  simp only [List.cons.injEq, and_true] at e1_3; subst e1_3
  clear hA0 hval0
  refine (lawAddTask l a0 len0 cap0 i f u d W w0 (bounds_i64 w1_0) (bounds_i64 w1_1) (bounds_i64 w1_2) (bounds_i64 w1_3)).mono fun e W' ⟨he, bel⟩ => ?_
  subst he
  exact ⟨_, rfl, _, _, _, [], _, [], hW', trodAll_mk1 (shut_bool Try.underlying4 _), (trodAll_cons_mk (Below.trod laidOut (by kernel_rfl) (of_decide_eq_true (by kernel_rfl)) k0 bel lt0) (trodAll_cons_mk (Below.trod laidOut (by kernel_rfl) (of_decide_eq_true (by kernel_rfl)) k1 bel lt1) trodAll_mk0)), rfl, bel.frame _, fun h => by cases h⟩
theorem over : Rows.fnExactAddTaskRow.holds Try.pinned (OpenSpec.ofChange Rows.fnExactAddTaskSpec) :=
  OpenClaim.holds_of_wide 11 Try.f11 rfl rfl rfl rfl rfl rfl rfl ⟨rfl, rfl, rfl, rfl, rfl⟩ rfl rfl rfl rfl rfl (by kernel_rfl) Try.func11 (by kernel_rfl)
    (of_decide_eq_true (by kernel_rfl)) (by unfold Func.isWrapper; first | (rw [if_pos (by decide +kernel)]; kernel_rfl) | (rw [if_neg (by decide +kernel)]; exact ⟨rfl, rfl⟩))
    (fun os started H enc _ => lifted os started H enc)
/-- The given statement. -/
theorem proved : Rows.FnExactAddTaskSaid := over
#print axioms proved
end fnExactAddTask
end Go.Proofs.Ytokddcnkfeimkaa
