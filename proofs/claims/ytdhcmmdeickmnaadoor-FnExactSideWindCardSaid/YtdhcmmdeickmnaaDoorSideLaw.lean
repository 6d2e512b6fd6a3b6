/- FnExactSideWind returns true for every record and every line, the four sines being as the program's text lays them: the given card; no further conditions. -/
import Derived.Test.YtdhcmmdeickmnaaDoorSideSpec
import Derived.Test.YtdhcmmdeickmnaaDoorLaw
import Derived.Test.YtdhcmmdeickmnaaDoorCards
import Derived.Test.YtdhcmmdeickmnaaDoorTie
import Derived.ProofKit
import Derived.LaidMore
import Derived.OpenShut
import Derived.OpenVars
import Derived.ChangeVars
import Derived.Stop.Joined
import Derived.SevenTiedAt
namespace Go.Proofs.YtdhcmmdeickmnaaDoor
open Go.RowKit Go.Joins Go.ChangeShapes Go.WideShapes Go.ChangeAt

theorem lawSideWind (m wi f d : Int) (s : Bool) (p : Int) (w : World) (_hm : I64 m) (_hwi : I64 wi) (_hf : I64 f) (_hd : I64 d) (_hp : I64 p) (K0 : Rd w w.heap.size 1 intCells (some ⟨0, 0, none⟩) sinesL) :
    Calls Tryd.prog 3 #[.agg #[.int .i64 m, .int .i64 wi, .int .i64 f, .int .i64 d, .bool s], .int .i64 p] w fun e w' => e = .returned (.bool true) ∧ Below w.heap.size w w' := by
  obtain ⟨v, hv⟩ : ∃ v, (sideW ⟨m, wi, f, d, s⟩ p).1 = v := ⟨_, rfl⟩
  obtain ⟨b, hb⟩ : ∃ b, (sideW ⟨m, wi, f, d, s⟩ p).2 = b := ⟨_, rfl⟩
  have HS := Lib.hid (fun W => show Calls Tryd.prog 4 #[.agg #[.int .i64 m, .int .i64 wi, .int .i64 f, .int .i64 d, .bool s], .int .i64 p] W fun e w' => e = .returned (.tuple #[.int .i64 v, .bool b]) ∧ Below W.heap.size W w' from by
    have := specSideWind_c ⟨m, wi, f, d, s⟩ p W
    rwa [hv, hb] at this)
  have HI := Lib.hid (fun W (hW : Below w.heap.size w W) => show Calls Tryd.prog 6 #[.agg #[.int .i64 m, .int .i64 wi, .int .i64 f, .int .i64 d, .bool s], .int .i64 p] W fun e w' => e = .returned (.tuple #[.int .i64 v, .bool b]) ∧ Below W.heap.size W w' from by
    have := implSideWind_c ⟨m, wi, f, d, s⟩ p W ((K0.below hW (Nat.le_refl _)).mono hW.size)
    rwa [hv, hb] at this)
  clear hv hb K0
  go_enter Tryd.func3, Tryd.ntmps3
  go_wp2_with fail
  refine (toWeather_c ⟨m, wi, f, d, s⟩ _).mono ?_
  rintro e w1 ⟨rfl, hb1⟩
  have hz1 := hb1.size
  have l1_0 : w.heap.size < w1.heap.size := by first | omega | (simp at hz1; omega)
  have c1_0 := fun o => hb1.cell (p := ⟨w.heap.size, o, none⟩) (by first | omega | (simp; done) | (simp; omega))
  have f1_0 := fun o => hb1.frozen (p := ⟨w.heap.size, o, none⟩) (by first | omega | (simp; done) | (simp; omega))
  go_wp2_with fail
  refine (HS.out _).mono ?_
  rintro e w2 ⟨rfl, hb2⟩
  have hz2 := hb2.size
  have l2_0 : w.heap.size < w2.heap.size := by first | omega | (simp at hz2; omega)
  have c2_0 := fun o => hb2.cell (p := ⟨w.heap.size, o, none⟩) (by first | omega | (simp; done) | (simp; omega))
  have f2_0 := fun o => hb2.frozen (p := ⟨w.heap.size, o, none⟩) (by first | omega | (simp; done) | (simp; omega))
  go_wp2_with fail
  refine (toWeather_c ⟨m, wi, f, d, s⟩ _).mono ?_
  rintro e w3 ⟨rfl, hb3⟩
  have hz3 := hb3.size
  have l3_0 : w.heap.size < w3.heap.size := by first | omega | (simp at hz3; omega)
  have c3_0 := fun o => hb3.cell (p := ⟨w.heap.size, o, none⟩) (by first | omega | (simp; done) | (simp; omega))
  have f3_0 := fun o => hb3.frozen (p := ⟨w.heap.size, o, none⟩) (by first | omega | (simp; done) | (simp; omega))
  go_wp2_with fail
  refine (HI.out _ (by repeat (first | (with_reducible exact Below.refl _ _) | ((with_reducible refine alloc_ ?_ ?_); (focus (first | exact Nat.le_refl _ | (simp; done) | (simp; omega) | omega))) | ((with_reducible refine set_ ?_ ?_); (focus (first | exact Nat.le_refl _ | (simp; done) | (simp; omega) | omega))) | (with_reducible refine Below.drew ?_) | ((with_reducible refine after_ ?_ (by assumption) ?_); (rotate_left; (focus (first | exact Nat.le_refl _ | (simp; done) | (simp; omega) | omega))))))).mono ?_
  rintro e w4 ⟨rfl, hb4⟩
  have hz4 := hb4.size
  have l4_0 : w.heap.size < w4.heap.size := by first | omega | (simp at hz4; omega)
  have c4_0 := fun o => hb4.cell (p := ⟨w.heap.size, o, none⟩) (by first | omega | (simp; done) | (simp; omega))
  have f4_0 := fun o => hb4.frozen (p := ⟨w.heap.size, o, none⟩) (by first | omega | (simp; done) | (simp; omega))
  go_wp2_with fail
  go_ret
  exact ⟨rfl, (by repeat (first | (with_reducible exact Below.refl _ _) | ((with_reducible refine alloc_ ?_ ?_); (focus (first | exact Nat.le_refl _ | (simp; done) | (simp; omega) | omega))) | ((with_reducible refine set_ ?_ ?_); (focus (first | exact Nat.le_refl _ | (simp; done) | (simp; omega) | omega))) | (with_reducible refine Below.drew ?_) | ((with_reducible refine after_ ?_ (by assumption) ?_); (rotate_left; (focus (first | exact Nat.le_refl _ | (simp; done) | (simp; omega) | omega))))))⟩
theorem tV : (Tryd.prog.globals[0]?).map (·.type) = some 34 := by kernel_rfl
theorem nV : Tryd.prog.globalNamed "loop.example/g00935/impl.sines" = some 0 := by kernel_rfl
/-- WHAT THE CONDITION GIVES THE WALK: the four sines, cell by cell. -/
theorem sines_at {W : World} (h : laidMetH Tryd.prog Rows.fnExactSideWindRow.laid W) : Rd W W.heap.size 1 intCells (some ⟨0, 0, none⟩) sinesL := by
  rw [MakeChecks.laidMetH_plain _ _ _ (by kernel_rfl)] at h
  obtain ⟨ps, ⟨g0, t0, cs0, f0, p0, q0, hg0, ht0, hv0, hd0, _, _⟩, _, _⟩ := h
  obtain rfl := Option.some.inj (nV.symm.trans hg0)
  obtain rfl := Option.some.inj (tV.symm.trans ht0)
  obtain ⟨xs, m1, rfl, hx1, hlen, hn3, hel⟩ := DataW.trod_array Tryd.underlying34 hd0
  have c3 : Tryd.prog.cellsOf 3 = 1 := by kernel_rfl
  have c24 : Tryd.prog.cellsOf 34 = 4 := by kernel_rfl
  rw [c24] at hlen
  simp only [Prod.mk.injEq, Rows.laid_loop_example_g00935_impl_sines, DataW.agg.injEq] at hx1
  have hcell : ∀ i, i < 4 → ∃ n : Int, W.cell? ⟨0, i, none⟩ = some (.int .i64 n) ∧ (xs.map (·.1))[i]? = some (.lit (.int .i64 n)) := fun i hi => by
    have h0 := hel i hi
    rw [c3] at h0
    have hv : cs0.toList[i]? = some (cs0.toList[i]'(by omega)) := List.getElem?_eq_getElem (by omega)
    have hone : (cs0.toList.drop (i * 1)).take 1 = [cs0.toList[i]'(by omega)] := by
      rw [Nat.mul_one, List.drop_eq_getElem_cons (by omega)]; rfl
    rw [hone] at h0
    have hxi : xs[i]? = some (xs[i]'(by omega)) := List.getElem?_eq_getElem (by omega)
    obtain ⟨n, e1, e2, _⟩ := DataW.trod_int Tryd.underlying3 (h0.trans hxi)
    refine ⟨n, ?_, ?_⟩
    · have := World.var?_cell hg0 hv0 i
      rw [this]
      simp only [List.cons.injEq, and_true] at e1
      rw [← e1]; simp
    · rw [List.getElem?_map, hxi]; simp [e2]
  rw [← hx1.1] at hcell
  have hlt : 0 < W.heap.size := by
    obtain ⟨n, hn, _⟩ := hcell 0 (by decide)
    exact World.block_lt_of_cell? W _ hn
  have hat : ∀ i, i < 4 → W.cell? ⟨0, i, none⟩ = some (.int .i64 (nth sinesL i)) := fun i hi => by
    obtain ⟨n, h1, h2⟩ := hcell i hi
    rw [h1]
    match i, hi with
    | 0, _ => simp at h2; subst h2; rfl
    | 1, _ => simp at h2; subst h2; rfl
    | 2, _ => simp at h2; subst h2; rfl
    | 3, _ => simp at h2; subst h2; rfl
  exact fun i hi => ⟨0, 0, rfl, hlt, fun j v hv => by
    have hj : j < 1 := (List.getElem?_eq_some_iff.1 hv).1
    obtain rfl : j = 0 := by omega
    simp only [intCells, List.getElem?_cons_zero, Option.some.injEq] at hv
    rw [← hv]
    simpa using hat i hi⟩
namespace fnExactSideWind
set_option linter.unusedVariables false
theorem own : ownKnob Tryd.prog.godebug = none := by kernel_rfl
theorem laidOut : laidOutB Tryd.prog = true := by kernel_rfl
theorem gV : Tryd.prog.globalNamed "loop.example/g00935/impl.sines" = some 0 := by kernel_rfl
theorem door_met (os : Os) (args : Array Value) : laidMetH Tryd.prog Rows.fnExactSideWindRow.laid ((World.doorLaid Tryd.prog 400 os).forCall (fun _ _ => 0) ⟨#[], args, []⟩).memory :=
  laidMetH_of_parts3 (fuel := 8) (laidMet_of_run' 8 (by kernel_rfl) (by kernel_rfl)) (by kernel_rfl) (by kernel_rfl)
set_option maxRecDepth 100000 in
theorem lifted (os : Os) (started : os.Started) (H : Type) (enc : TypeId × Value → H) :
    ReturnsInHanded {} Tryd.checked os 3 .any (fun w args => (Rows.fnExactSideWindSpec.pre enc Tryd.prog Tryd.f3 [] false w args ∧ laidMetH Tryd.prog Rows.fnExactSideWindRow.laid w) ∧ sizedMet enc Tryd.prog Tryd.f3 (OpenSpec.ofChange Rows.fnExactSideWindSpec) false w args) (Rows.fnExactSideWindSpec.post enc Tryd.prog Tryd.f3 false true false false) := by
  refine returnsInHanded_of_change_and (C := Tryd.checked) (X := fun w _ => laidMetH Tryd.prog Rows.fnExactSideWindRow.laid w) (fun _ _ _ hh h => h.of_heap hh) own started (by kernel_rfl) Tryd.func3
    (ChangeSpec.witness_shaped (enc := enc) (C := Tryd.checked) (os := os) (X := fun w _ => laidMetH Tryd.prog Rows.fnExactSideWindRow.laid w) false (World.doorLaid Tryd.prog 400 os) #[.agg #[.int .i64 0, .int .i64 0, .int .i64 0, .int .i64 0, .bool false], .int .i64 0] 8 rfl (World.shaped_of_RefB (by kernel_rfl) (by kernel_rfl)) (by kernel_rfl) (by kernel_rfl) (by kernel_rfl) (door_met os _)) ?_
  intro W base args ds gs before hval0 hW _ _ hL _
  have hval : ∀ (j : Nat) t v, Tryd.f3.params[j]? = some t → args[j]? = some v → Value.okWide Tryd.prog W .any base t v := hval0
  have hW' := hW
  obtain ⟨p, q, hA0, hV, rfl, hfz, hnd⟩ := hW
  have hA : DataW.TrodAll enc Tryd.prog W 0 (fun _ => true) true Tryd.f3.params.toList args.toList ds p := hA0
  rw [Tryd.params3] at hA hval
  obtain ⟨v0, vs0, d0, ds0, p0, q0, hargs, rfl, rfl, h0, r0⟩ := trodAll_cons hA
  obtain ⟨v1, vs1, d1, ds1, p1, q1, rfl, rfl, rfl, h1, r1⟩ := trodAll_cons r0
  obtain ⟨rfl, rfl, rfl⟩ := trodAll_nil r1
  obtain rfl : args = #[v0, v1] := by cases args; simp_all
  obtain ⟨gg, tt, cs, fu, dv, pv, rfl, _, _, _, _, _⟩ := trodVars_one hV
  have k0 := h0
  have lt0 : ∀ x ∈ p0, x.block < W.heap.size := by obtain ⟨m, hm⟩ := k0; exact DataW.trod_lt m _ _ _ hm
  have k1 := h1
  have lt1 : ∀ x ∈ p1, x.block < W.heap.size := by obtain ⟨m, hm⟩ := k1; exact DataW.trod_lt m _ _ _ hm
  obtain ⟨c0_0, c0_1, c0_2, c0_3, c0_4, y0_0, y0_1, y0_2, y0_3, y0_4, m0, rfl, rfl, rfl, hy0_0, hy0_1, hy0_2, hy0_3, hy0_4⟩ := open_agg5 Tryd.underlying23 (by kernel_rfl) (by kernel_rfl) (hval 0 23 v0 rfl rfl) h0
  obtain ⟨m, e0_0, rfl, w0_0⟩ := DataW.trod_int Tryd.underlying3 hy0_0
  simp only [List.cons.injEq, and_true] at e0_0; subst e0_0
  obtain ⟨wi, e0_1, rfl, w0_1⟩ := DataW.trod_int Tryd.underlying3 hy0_1
  simp only [List.cons.injEq, and_true] at e0_1; subst e0_1
  obtain ⟨f, e0_2, rfl, w0_2⟩ := DataW.trod_int Tryd.underlying3 hy0_2
  simp only [List.cons.injEq, and_true] at e0_2; subst e0_2
  obtain ⟨d, e0_3, rfl, w0_3⟩ := DataW.trod_int Tryd.underlying3 hy0_3
  simp only [List.cons.injEq, and_true] at e0_3; subst e0_3
  obtain ⟨s, e0_4, rfl⟩ := DataW.trod_bool Tryd.underlying4 hy0_4
  simp only [List.cons.injEq, and_true] at e0_4; subst e0_4
  obtain ⟨p, rfl, rfl, rfl, w1⟩ := open_int Tryd.underlying3 (hval 1 3 v1 rfl rfl) h1
  clear hA0 hval0
  refine (lawSideWind m wi f d s p W (bounds_i64 w0_0) (bounds_i64 w0_1) (bounds_i64 w0_2) (bounds_i64 w0_3) (bounds_i64 w1) (sines_at hL)).mono fun e W' ⟨he, bel⟩ => ?_
  subst he
  exact ⟨_, rfl, _, _, _, [], _, _, hW', trodAll_mk1 (shut_bool Tryd.underlying4 _), (trodAll_cons_mk (Below.trod laidOut (by kernel_rfl) (of_decide_eq_true (by kernel_rfl)) k0 bel lt0) (trodAll_cons_mk (Below.trod laidOut (by kernel_rfl) (of_decide_eq_true (by kernel_rfl)) k1 bel lt1) trodAll_mk0)), Below.trodVars laidOut bel (by kernel_rfl) hV, bel.frame _, fun h => by cases h⟩
theorem over : Rows.fnExactSideWindRow.holds Tryd.pinned (OpenSpec.ofChange Rows.fnExactSideWindSpec) :=
  OpenClaim.holds_of_wide 3 Tryd.f3 rfl rfl rfl rfl rfl rfl rfl ⟨rfl, rfl, rfl, rfl, rfl⟩ rfl rfl rfl rfl rfl (by kernel_rfl) Tryd.func3 (by kernel_rfl)
    (of_decide_eq_true (by kernel_rfl)) (by unfold Func.isWrapper; first | (rw [if_pos (by decide +kernel)]; kernel_rfl) | (rw [if_neg (by decide +kernel)]; exact ⟨rfl, rfl⟩))
    (fun os started H enc _ => lifted os started H enc)
/-- The given statement. -/
theorem proved : Rows.FnExactSideWindCardSaid :=
  Claim7.holds_tied_plain_at .later [] Rows.fnExactSideWindCard.laidKinds true Rows.fnExactSideWindCard.stood.harness false
    over (fun _ h => by cases h) (by kernel_rfl) (fun _ h => by cases h) fnExactSideWind_row_tie rfl ⟨rfl, rfl⟩ (by kernel_rfl) rfl
    (fun f fn hf hfn => by
      obtain rfl : f = 3 := Option.some.inj ((show Tryd.prog.funcNamed "loop.example/g00935/laws.FnExactSideWind" = some 3 by kernel_rfl).symm.trans hf) |>.symm
      obtain rfl : fn = Tryd.f3 := (Option.some.inj (Tryd.func3.symm.trans hfn)).symm
      exact ⟨by kernel_rfl, fun j t ht => by
        rw [Tryd.params3] at ht
        have hm : t ∈ [23, 3] := by simpa using Array.mem_of_getElem? ht
        have hall : ([23, 3].all fun u => !Tryd.prog.wantsStandIn u) = true := by kernel_rfl
        exact (show Tryd.prog.wantsStandIn t = false by simpa using List.all_eq_true.1 hall t hm)⟩)
    (by kernel_rfl)
#print axioms proved
end fnExactSideWind
end Go.Proofs.YtdhcmmdeickmnaaDoor
