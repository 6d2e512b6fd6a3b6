/- FnExactIsBoardEvent returns true for every event, the list of kinds being as the program's text lays it: the given card; no further conditions. -/
import Derived.Test.YtfmemmfmalfkaaaDoorEvent
import Derived.Test.YtfmemmfmalfkaaaDoorLaw
import Derived.Test.YtfmemmfmalfkaaaDoorCards
import Derived.Test.YtfmemmfmalfkaaaDoorTie
import Derived.ProofKit
import Derived.LaidMore
import Derived.OpenShut
import Derived.OpenVars
import Derived.ChangeVars
import Derived.Stop.Joined
import Derived.SevenTiedAt
namespace Go.Proofs.YtfmemmfmalfkaaaDoor
open Go.RowKit Go.Joins Go.ChangeShapes Go.WideShapes Go.ChangeAt

theorem lawIsBoardEvent (k : ByteArray) (c : Int) (w : World) (hs : k.size ≤ maxLen) (_hc : I64 c) (K0 : Rd w w.heap.size 1 strCells (some ⟨0, 0, none⟩) kindsB) :
    Calls Tryd.prog 3 #[.agg #[.string k, .int .i64 c]] w fun e w' => e = .returned (.bool true) ∧ Below w.heap.size w w' := by
  have hx := Box.new w [.string k, .int .i64 c] 23
  have HX := Lib.hid hx
  clear hx
  by_cases hz : (k.size : Int) ≤ 1048576
  · go_enter Tryd.func3, Tryd.ntmps3
    go_wp2_with fail
    refine (szBoardEvent_c ⟨k, c⟩ 1048576 _ (by omega) (by omega) hs).mono ?_
    rintro e w1 ⟨rfl, hb1⟩
    rw [if_pos hz]
    have hx1 := HX.out.carry hb1
    have HX1 := Lib.hid hx1
    have a0 := hx1.cell (j := 0) rfl
    have a1 := hx1.cell (j := 1) rfl
    have hB1 : Below w.heap.size w w1 := (by repeat (first | (with_reducible exact Below.refl _ _) | ((with_reducible refine alloc_ ?_ ?_); (focus (first | exact Nat.le_refl _ | (simp; done) | (simp; omega) | omega))) | ((with_reducible refine set_ ?_ ?_); (focus (first | exact Nat.le_refl _ | (simp; done) | (simp; omega) | omega))) | (with_reducible refine Below.drew ?_) | ((with_reducible refine after_ ?_ (by assumption) ?_); (rotate_left; (focus (first | exact Nat.le_refl _ | (simp; done) | (simp; omega) | omega))))))
    have K1 := K0.carry hB1
    clear hx1
    go_wp2_with fail
    refine (toBoardEvent_c ⟨k, c⟩ _).mono ?_
    rintro e w2 ⟨rfl, hb2⟩
    have hB2 : Below w.heap.size w w2 := hB1.trans (hb2.mono hB1.size)
    have K2 := K1.carry hb2
    have hx2 := HX1.out.carry hb2
    have HX2 := Lib.hid hx2
    clear a0 a1 hb1 hb2 hx2
    go_wp2_with fail
    refine (specIsBoardEvent_c ⟨k, c⟩ _).mono ?_
    rintro e w3 ⟨rfl, hb3⟩
    have hB3 : Below w.heap.size w w3 := hB2.trans (hb3.mono hB2.size)
    have K3 := K2.carry hb3
    have hx3 := HX2.out.carry hb3
    have a0 := hx3.cell (j := 0) rfl
    have a1 := hx3.cell (j := 1) rfl
    clear hb3 hx3
    go_wp2_with fail
    refine (toBoardEvent_c ⟨k, c⟩ _).mono ?_
    rintro e w4 ⟨rfl, hb4⟩
    have hB4 : Below w.heap.size w w4 := hB3.trans (hb4.mono hB3.size)
    have K4 := K3.carry hb4
    clear a0 a1 hb4
    go_wp2_with fail
    refine (isBoardEvent_c ⟨k, c⟩ _ K4).mono ?_
    rintro e w5 ⟨rfl, hb5⟩
    have hB5 : Below w.heap.size w w5 := hB4.trans (hb5.mono hB4.size)
    clear hb5
    go_wp2_with fail
    go_ret
    exact ⟨rfl, hB5⟩
  · go_enter Tryd.func3, Tryd.ntmps3
    go_wp2_with fail
    refine (szBoardEvent_c ⟨k, c⟩ 1048576 _ (by omega) (by omega) hs).mono ?_
    rintro e w1 ⟨rfl, hb1⟩
    rw [if_neg (show ¬ (((⟨k, c⟩ : Evt).k.size : Int) ≤ 1048576) from by show ¬ ((k.size : Int) ≤ 1048576); omega)]
    have hB1 : Below w.heap.size w w1 := (by repeat (first | (with_reducible exact Below.refl _ _) | ((with_reducible refine alloc_ ?_ ?_); (focus (first | exact Nat.le_refl _ | (simp; done) | (simp; omega) | omega))) | ((with_reducible refine set_ ?_ ?_); (focus (first | exact Nat.le_refl _ | (simp; done) | (simp; omega) | omega))) | (with_reducible refine Below.drew ?_) | ((with_reducible refine after_ ?_ (by assumption) ?_); (rotate_left; (focus (first | exact Nat.le_refl _ | (simp; done) | (simp; omega) | omega))))))
    clear hb1
    go_wp2_with fail
    go_ret
    exact ⟨rfl, hB1⟩
theorem tV : (Tryd.prog.globals[0]?).map (·.type) = some 48 := by kernel_rfl
theorem nV : Tryd.prog.globalNamed "loop.example/g00935/impl.boardKinds" = some 0 := by kernel_rfl
theorem byteArray_of {s : ByteArray} {l : List UInt8} (h : s.data.toList = l) : s = ⟨l.toArray⟩ := by
  cases s with
  | mk d => simp at h; subst h; simp
/-- WHAT THE CONDITION GIVES THE WALK: the eight kinds, cell by cell. -/
theorem kinds_at {W : World} (h : laidMetH Tryd.prog Rows.fnExactIsBoardEventRow.laid W) : Rd W W.heap.size 1 strCells (some ⟨0, 0, none⟩) kindsB := by
  rw [MakeChecks.laidMetH_plain _ _ _ (by kernel_rfl)] at h
  obtain ⟨ps, ⟨g0, t0, cs0, f0, p0, q0, hg0, ht0, hv0, hd0, _, _⟩, _, _⟩ := h
  obtain rfl := Option.some.inj (nV.symm.trans hg0)
  obtain rfl := Option.some.inj (tV.symm.trans ht0)
  obtain ⟨xs, m1, rfl, hx1, hlen, hn3, hel⟩ := DataW.trod_array Tryd.underlying48 hd0
  have c3 : Tryd.prog.cellsOf 9 = 1 := by kernel_rfl
  have c24 : Tryd.prog.cellsOf 48 = 8 := by kernel_rfl
  rw [c24] at hlen
  simp only [Prod.mk.injEq, Rows.laid_loop_example_g00935_impl_boardKinds, DataW.agg.injEq] at hx1
  have hcell : ∀ i, i < 8 → ∃ s : ByteArray, W.cell? ⟨0, i, none⟩ = some (.string s) ∧ (xs.map (·.1))[i]? = some (.lit (.string s.data.toList)) := fun i hi => by
    have h0 := hel i hi
    rw [c3] at h0
    have hv : cs0.toList[i]? = some (cs0.toList[i]'(by omega)) := List.getElem?_eq_getElem (by omega)
    have hone : (cs0.toList.drop (i * 1)).take 1 = [cs0.toList[i]'(by omega)] := by
      rw [Nat.mul_one, List.drop_eq_getElem_cons (by omega)]; rfl
    rw [hone] at h0
    have hxi : xs[i]? = some (xs[i]'(by omega)) := List.getElem?_eq_getElem (by omega)
    obtain ⟨s, e1, e2, _⟩ := DataW.trod_string Tryd.underlying9 (h0.trans hxi)
    refine ⟨s, ?_, ?_⟩
    · have := World.var?_cell hg0 hv0 i
      rw [this]
      simp only [List.cons.injEq, and_true] at e1
      rw [← e1]; simp
    · rw [List.getElem?_map, hxi]; simp [e2]
  rw [← hx1.1] at hcell
  have hlt : 0 < W.heap.size := by
    obtain ⟨s, hs, _⟩ := hcell 0 (by decide)
    exact World.block_lt_of_cell? W _ hs
  have hat : ∀ i, i < 8 → W.cell? ⟨0, i, none⟩ = some (.string (nth kindsB i)) := fun i hi => by
    obtain ⟨s, h1, h2⟩ := hcell i hi
    match i, hi with
    | 0, _ =>
      simp only [List.getElem?_cons_zero, Option.some.injEq, DataW.lit.injEq, Lit.string.injEq] at h2
      rw [h1, byteArray_of h2.symm]; rfl
    | 1, _ =>
      simp only [List.getElem?_cons_zero, List.getElem?_cons_succ, Option.some.injEq, DataW.lit.injEq, Lit.string.injEq] at h2
      rw [h1, byteArray_of h2.symm]; rfl
    | 2, _ =>
      simp only [List.getElem?_cons_zero, List.getElem?_cons_succ, Option.some.injEq, DataW.lit.injEq, Lit.string.injEq] at h2
      rw [h1, byteArray_of h2.symm]; rfl
    | 3, _ =>
      simp only [List.getElem?_cons_zero, List.getElem?_cons_succ, Option.some.injEq, DataW.lit.injEq, Lit.string.injEq] at h2
      rw [h1, byteArray_of h2.symm]; rfl
    | 4, _ =>
      simp only [List.getElem?_cons_zero, List.getElem?_cons_succ, Option.some.injEq, DataW.lit.injEq, Lit.string.injEq] at h2
      rw [h1, byteArray_of h2.symm]; rfl
    | 5, _ =>
      simp only [List.getElem?_cons_zero, List.getElem?_cons_succ, Option.some.injEq, DataW.lit.injEq, Lit.string.injEq] at h2
      rw [h1, byteArray_of h2.symm]; rfl
    | 6, _ =>
      simp only [List.getElem?_cons_zero, List.getElem?_cons_succ, Option.some.injEq, DataW.lit.injEq, Lit.string.injEq] at h2
      rw [h1, byteArray_of h2.symm]; rfl
    | 7, _ =>
      simp only [List.getElem?_cons_zero, List.getElem?_cons_succ, Option.some.injEq, DataW.lit.injEq, Lit.string.injEq] at h2
      rw [h1, byteArray_of h2.symm]; rfl
  exact fun i hi => ⟨0, 0, rfl, hlt, fun j v hv => by
    have hj : j < 1 := (List.getElem?_eq_some_iff.1 hv).1
    obtain rfl : j = 0 := by omega
    simp only [strCells, List.getElem?_cons_zero, Option.some.injEq] at hv
    rw [← hv]
    simpa using hat i hi⟩
namespace fnExactIsBoardEvent
set_option linter.unusedVariables false
theorem own : ownKnob Tryd.prog.godebug = none := by kernel_rfl
theorem laidOut : laidOutB Tryd.prog = true := by kernel_rfl
theorem gV : Tryd.prog.globalNamed "loop.example/g00935/impl.boardKinds" = some 0 := by kernel_rfl
theorem door_met (os : Os) (args : Array Value) : laidMetH Tryd.prog Rows.fnExactIsBoardEventRow.laid ((World.doorLaid Tryd.prog 400 os).forCall (fun _ _ => 0) ⟨#[], args, []⟩).memory :=
  laidMetH_of_parts3 (fuel := 8) (laidMet_of_run' 8 (by kernel_rfl) (by kernel_rfl)) (by kernel_rfl) (by kernel_rfl)
set_option maxRecDepth 100000 in
theorem lifted (os : Os) (started : os.Started) (H : Type) (enc : TypeId × Value → H) :
    ReturnsInHanded {} Tryd.checked os 3 .any (fun w args => (Rows.fnExactIsBoardEventSpec.pre enc Tryd.prog Tryd.f3 [] false w args ∧ laidMetH Tryd.prog Rows.fnExactIsBoardEventRow.laid w) ∧ sizedMet enc Tryd.prog Tryd.f3 (OpenSpec.ofChange Rows.fnExactIsBoardEventSpec) false w args) (Rows.fnExactIsBoardEventSpec.post enc Tryd.prog Tryd.f3 false true false false) := by
  refine returnsInHanded_of_change_and (C := Tryd.checked) (X := fun w _ => laidMetH Tryd.prog Rows.fnExactIsBoardEventRow.laid w) (fun _ _ _ hh h => h.of_heap hh) own started (by kernel_rfl) Tryd.func3
    (ChangeSpec.witness_shaped (enc := enc) (C := Tryd.checked) (os := os) (X := fun w _ => laidMetH Tryd.prog Rows.fnExactIsBoardEventRow.laid w) false (World.doorLaid Tryd.prog 400 os) #[.agg #[.string ByteArray.empty, .int .i64 0]] 8 rfl (World.shaped_of_RefB (by kernel_rfl) (by kernel_rfl)) (by kernel_rfl) (by kernel_rfl) (by kernel_rfl) (door_met os _)) ?_
  intro W base args ds gs before hval0 hW _ _ hL _
  have hval : ∀ (j : Nat) t v, Tryd.f3.params[j]? = some t → args[j]? = some v → Value.okWide Tryd.prog W .any base t v := hval0
  have hW' := hW
  obtain ⟨p, q, hA0, hV, rfl, hfz, hnd⟩ := hW
  have hA : DataW.TrodAll enc Tryd.prog W 0 (fun _ => true) true Tryd.f3.params.toList args.toList ds p := hA0
  rw [Tryd.params3] at hA hval
  obtain ⟨v0, vs0, d0, ds0, p0, q0, hargs, rfl, rfl, h0, r0⟩ := trodAll_cons hA
  obtain ⟨rfl, rfl, rfl⟩ := trodAll_nil r0
  obtain rfl : args = #[v0] := by cases args; simp_all
  obtain ⟨gg, tt, cs, fu, dv, pv, rfl, _, _, _, _, _⟩ := trodVars_one hV
  have k0 := h0
  have lt0 : ∀ x ∈ p0, x.block < W.heap.size := by obtain ⟨m, hm⟩ := k0; exact DataW.trod_lt m _ _ _ hm
  obtain ⟨c0_0, c0_1, y0_0, y0_1, m0, rfl, rfl, rfl, hy0_0, hy0_1⟩ := open_agg2 Tryd.underlying23 (by kernel_rfl) (by kernel_rfl) (hval 0 23 v0 rfl rfl) h0
  obtain ⟨k, e0_0, rfl, w0_0⟩ := DataW.trod_string Tryd.underlying9 hy0_0
  simp only [List.cons.injEq, and_true] at e0_0; subst e0_0
  obtain ⟨c, e0_1, rfl, w0_1⟩ := DataW.trod_int Tryd.underlying3 hy0_1
  simp only [List.cons.injEq, and_true] at e0_1; subst e0_1
  clear hA0 hval0
  refine (lawIsBoardEvent k c W w0_0 (bounds_i64 w0_1) (kinds_at hL)).mono fun e W' ⟨he, bel⟩ => ?_
  subst he
  exact ⟨_, rfl, _, _, _, [], _, _, hW', trodAll_mk1 (shut_bool Tryd.underlying4 _), (trodAll_cons_mk (Below.trod laidOut (by kernel_rfl) (of_decide_eq_true (by kernel_rfl)) k0 bel lt0) trodAll_mk0), Below.trodVars laidOut bel (by kernel_rfl) hV, bel.frame _, fun h => by cases h⟩
theorem over : Rows.fnExactIsBoardEventRow.holds Tryd.pinned (OpenSpec.ofChange Rows.fnExactIsBoardEventSpec) :=
  OpenClaim.holds_of_wide 3 Tryd.f3 rfl rfl rfl rfl rfl rfl rfl ⟨rfl, rfl, rfl, rfl, rfl⟩ rfl rfl rfl rfl rfl (by kernel_rfl) Tryd.func3 (by kernel_rfl)
    (of_decide_eq_true (by kernel_rfl)) (by unfold Func.isWrapper; first | (rw [if_pos (by decide +kernel)]; kernel_rfl) | (rw [if_neg (by decide +kernel)]; exact ⟨rfl, rfl⟩))
    (fun os started H enc _ => lifted os started H enc)
/-- The given statement. -/
theorem proved : Rows.FnExactIsBoardEventCardSaid :=
  Claim7.holds_tied_plain_at .later [] Rows.fnExactIsBoardEventCard.laidKinds true Rows.fnExactIsBoardEventCard.stood.harness false
    over (fun _ h => by cases h) (by kernel_rfl) (fun _ h => by cases h) fnExactIsBoardEvent_row_tie rfl ⟨rfl, rfl⟩ (by kernel_rfl) rfl
    (fun f fn hf hfn => by
      obtain rfl : f = 3 := Option.some.inj ((show Tryd.prog.funcNamed "loop.example/g00935/laws.FnExactIsBoardEvent" = some 3 by kernel_rfl).symm.trans hf) |>.symm
      obtain rfl : fn = Tryd.f3 := (Option.some.inj (Tryd.func3.symm.trans hfn)).symm
      exact ⟨by kernel_rfl, fun j t ht => by
        rw [Tryd.params3] at ht
        have hm : t ∈ [23] := by simpa using Array.mem_of_getElem? ht
        have hall : ([23].all fun u => !Tryd.prog.wantsStandIn u) = true := by kernel_rfl
        exact (show Tryd.prog.wantsStandIn t = false by simpa using List.all_eq_true.1 hall t hm)⟩)
    (by kernel_rfl)
#print axioms proved
end fnExactIsBoardEvent
end Go.Proofs.YtfmemmfmalfkaaaDoor
