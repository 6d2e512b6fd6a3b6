/- FnExactCountEvents returns true for every list and kind, the list of kinds being as the program's text lays it: the given card; no further conditions. -/
import Derived.Test.YtfmemmfmalfkaaaDoorCountImpl
import Derived.Test.YtfmemmfmalfkaaaDoorEventLaw
import Derived.ChangeMaps5
namespace Go.Proofs.YtfmemmfmalfkaaaDoor
open Go.RowKit Go.Joins Go.ChangeShapes Go.WideShapes Go.ChangeAt
open Go.ChangeMaps (open_string shut_string)
/-- A slice that came in. -/
def InEvt (w : World) (A : Option Addr) (n : Nat) (l : List Evt) : Prop := n = l.length ∧ l.length ≤ maxLen ∧ Rd w w.heap.size 2 Evt.cells A l ∧ ∀ i, i < l.length → I64 (nth l i).c ∧ (nth l i).k.size ≤ maxLen
theorem open_laws_BoardEvent {H : Type} {enc : TypeId × Value → H} {w : World} {base : Nat} {spare : Nat → Bool} {held : Bool} {a : Option Addr} {len cap : Nat} {d : DataW H} {p : List MemPlace}
    (h : DataW.Trod enc Tryd.prog w base spare held 29 (.slice a len cap) d p) : ∃ l : List Evt, InEvt w a len l := by
  obtain ⟨fuel, hf⟩ := h
  rcases open_slice_fields Tryd.underlying29 Tryd.underlying23 (by kernel_rfl) (by kernel_rfl) hf with hcs | ⟨x0, ln, c, hcs, hl, hm, hi⟩
  · simp [Value.cells] at hcs
    obtain ⟨rfl, rfl, rfl⟩ := hcs
    exact ⟨[], rfl, by simp [maxLen], fun i hi => absurd hi (by simp), fun i hi => absurd hi (by simp)⟩
  · simp [Value.cells] at hcs
    obtain ⟨rfl, rfl, rfl⟩ := hcs
    have hex : ∀ i, i < len → ∃ x : Evt, (∀ j v, x.cells[j]? = some v → w.cell? (x0.add (i * 2 + j)) = some v) ∧ I64 x.c ∧ x.k.size ≤ maxLen := fun i hi' => by
      obtain ⟨n, hf⟩ := hi i hi'
      obtain ⟨v0, y0, hc0, ht0⟩ := hf 0 _ rfl
      obtain ⟨z0, e0, _, s0⟩ := DataW.trod_string Tryd.underlying9 ht0
      simp only [List.cons.injEq, and_true] at e0; subst e0
      obtain ⟨v1, y1, hc1, ht1⟩ := hf 1 _ rfl
      obtain ⟨z1, e1, _, s1⟩ := DataW.trod_int Tryd.underlying3 ht1
      simp only [List.cons.injEq, and_true] at e1; subst e1
      refine ⟨⟨z0, z1⟩, fun j v hv => ?_, bounds_i64 s1, s0⟩
      match j, hv with
      | 0, hv => simp only [Evt.cells, List.getElem?_cons_zero, List.getElem?_cons_succ, Option.some.injEq] at hv; subst hv; exact hc0
      | 1, hv => simp only [Evt.cells, List.getElem?_cons_zero, List.getElem?_cons_succ, Option.some.injEq] at hv; subst hv; exact hc1
    obtain ⟨l, hlen, hp⟩ := list_of hex
    refine ⟨l, hlen.symm, by omega, fun i hi => ?_, fun i hi => (hp i (by omega)).2⟩
    obtain ⟨hq, hlt⟩ := plain_addr (by simpa [Addr.add] using (hp 0 (by omega)).1 0 _ rfl)
    refine ⟨x0.block, x0.off, by rw [← hq], hlt, fun j v hv => ?_⟩
    have := (hp i (by omega)).1 j v hv
    rw [add_plain hq] at this
    rw [← this, Nat.add_assoc]

theorem lawCountEvents (l : List Evt) (A : Option Addr) (n cap : Nat) (s : ByteArray) (w : World) (hr : InEvt w A n l) (_hs : s.size ≤ maxLen) (K0 : Rd w w.heap.size 1 strCells (some ⟨0, 0, none⟩) kindsB) :
    Calls Tryd.prog 4 #[.slice A n cap, .string s] w fun e w' => e = .returned (.bool true) ∧ Below w.heap.size w w' := by
  obtain ⟨rfl, hlm, ra, hs⟩ := hr
  have HS := Lib.hid (fun i hi => (hs i hi).2 : ∀ i, i < l.length → (nth l i).k.size ≤ maxLen)
  have HK := Lib.hid K0
  clear hs K0
  by_cases hz : (s.size : Int) ≤ 1048576
  case neg =>
    go_enter Tryd.func4, Tryd.ntmps4
    go_wp2_with fail
    go_ret
    exact ⟨rfl, (by repeat (first | (with_reducible exact Below.refl _ _) | ((with_reducible refine alloc_ ?_ ?_); (focus (first | exact Nat.le_refl _ | (simp; done) | (simp; omega) | omega))) | ((with_reducible refine set_ ?_ ?_); (focus (first | exact Nat.le_refl _ | (simp; done) | (simp; omega) | omega))) | (with_reducible refine Below.drew ?_) | ((with_reducible refine after_ ?_ (by assumption) ?_); (rotate_left; (focus (first | exact Nat.le_refl _ | (simp; done) | (simp; omega) | omega))))))⟩
  go_enter Tryd.func4, Tryd.ntmps4
  go_wp2_with fail
  refine (szBoardEventS_c l _ _ _ _ (by omega) (by omega) hlm HS.out ra).mono ?_
  rintro e w0 ⟨r, rfl, hsz, hb0⟩
  have ra0 := ra.carry hb0
  have hz0 := hb0.size
  rcases hsz with h | ⟨h, _⟩
  · go_wp2_with fail
    go_ret
    exact ⟨rfl, hb0⟩
  by_cases h0 : r < 0
  · go_wp2_with fail
    go_ret
    exact ⟨rfl, hb0⟩
  have h1 : l.length ≤ 1048576 := by omega
  obtain ⟨cv, hcv⟩ : ∃ cv, (cntP l s).1 = cv := ⟨_, rfl⟩
  obtain ⟨tv, htv⟩ : ∃ tv, (cntP l s).2.1 = tv := ⟨_, rfl⟩
  obtain ⟨bv, hbv⟩ : ∃ bv, (cntP l s).2.2 = bv := ⟨_, rfl⟩
  have HS' := Lib.hid (fun (A : Option Addr) (W : World) (hR : Rd W W.heap.size 2 Evt.cells A l) => show Calls Tryd.prog 11 #[.slice A l.length l.length, .string s] W fun e w' => e = .returned (.tuple #[.int .i64 cv, .int .i64 tv, .bool bv]) ∧ Below W.heap.size W w' from by
    have := specCountEvents_c l A l.length s W hR h1
    unfold CntIs at this
    rwa [hcv, htv, hbv] at this)
  have HI' := Lib.hid (fun (A : Option Addr) (W : World) (hR : Rd W W.heap.size 2 Evt.cells A l) (hW : Below w.heap.size w W) => show Calls Tryd.prog 13 #[.slice A l.length l.length, .string s] W fun e w' => e = .returned (.tuple #[.int .i64 cv, .int .i64 tv, .bool bv]) ∧ Below W.heap.size W w' from by
    have := implCountEvents_c l A l.length s W hR h1 ((HK.out.below hW (Nat.le_refl _)).mono hW.size)
    unfold CntIs at this
    rwa [hcv, htv, hbv] at this)
  clear hcv htv hbv
  go_wp2_with fail
  refine (toBoardEventS_c l _ _ _ h1 ra0).mono ?_
  rintro e w1 ⟨rfl, x1, hb1⟩
  have hz1 := hb1.size
  try simp only [World.size_alloc] at x1
  have hB1 : Below w0.heap.size w0 w1 := (by repeat (first | (with_reducible exact Below.refl _ _) | ((with_reducible refine alloc_ ?_ ?_); (focus (first | exact Nat.le_refl _ | (simp; done) | (simp; omega) | omega))) | ((with_reducible refine set_ ?_ ?_); (focus (first | exact Nat.le_refl _ | (simp; done) | (simp; omega) | omega))) | (with_reducible refine Below.drew ?_) | ((with_reducible refine after_ ?_ (by assumption) ?_); (rotate_left; (focus (first | exact Nat.le_refl _ | (simp; done) | (simp; omega) | omega))))))
  have hs1 := hB1.size
  have ra1 := ra0.carry hB1
  go_wp2_with fail
  refine (HS'.out _ _ (x1.rd fun _ => rfl)).mono ?_
  rintro e w2 ⟨rfl, hb2⟩
  have hz2 := hb2.size
  have hB2 : Below w1.heap.size w1 w2 := (by repeat (first | (with_reducible exact Below.refl _ _) | ((with_reducible refine alloc_ ?_ ?_); (focus (first | exact Nat.le_refl _ | (simp; done) | (simp; omega) | omega))) | ((with_reducible refine set_ ?_ ?_); (focus (first | exact Nat.le_refl _ | (simp; done) | (simp; omega) | omega))) | (with_reducible refine Below.drew ?_) | ((with_reducible refine after_ ?_ (by assumption) ?_); (rotate_left; (focus (first | exact Nat.le_refl _ | (simp; done) | (simp; omega) | omega))))))
  have hs2 := hB2.size
  have ra2 := ra1.carry hB2
  have x2 := x1.carry hB2
  go_wp2_with fail
  refine (toBoardEventS_c l _ _ _ h1 ra2).mono ?_
  rintro e w3 ⟨rfl, y3, hb3⟩
  have hz3 := hb3.size
  try simp only [World.size_alloc] at y3
  have hB3 : Below w2.heap.size w2 w3 := (by repeat (first | (with_reducible exact Below.refl _ _) | ((with_reducible refine alloc_ ?_ ?_); (focus (first | exact Nat.le_refl _ | (simp; done) | (simp; omega) | omega))) | ((with_reducible refine set_ ?_ ?_); (focus (first | exact Nat.le_refl _ | (simp; done) | (simp; omega) | omega))) | (with_reducible refine Below.drew ?_) | ((with_reducible refine after_ ?_ (by assumption) ?_); (rotate_left; (focus (first | exact Nat.le_refl _ | (simp; done) | (simp; omega) | omega))))))
  have hs3 := hB3.size
  have ra3 := ra2.carry hB3
  have x3 := x2.carry hB3
  go_wp2_with fail
  refine (HI'.out _ _ (y3.rd fun _ => rfl) (hb0.trans ((hB1.mono hz0).trans ((hB2.mono (by omega)).trans (hB3.mono (by omega)))))).mono ?_
  rintro e w4 ⟨rfl, hb4⟩
  have hz4 := hb4.size
  have hB4 : Below w3.heap.size w3 w4 := (by repeat (first | (with_reducible exact Below.refl _ _) | ((with_reducible refine alloc_ ?_ ?_); (focus (first | exact Nat.le_refl _ | (simp; done) | (simp; omega) | omega))) | ((with_reducible refine set_ ?_ ?_); (focus (first | exact Nat.le_refl _ | (simp; done) | (simp; omega) | omega))) | (with_reducible refine Below.drew ?_) | ((with_reducible refine after_ ?_ (by assumption) ?_); (rotate_left; (focus (first | exact Nat.le_refl _ | (simp; done) | (simp; omega) | omega))))))
  have hs4 := hB4.size
  have ra4 := ra3.carry hB4
  have x4 := x3.carry hB4
  have y4 := y3.carry hB4
  go_wp2_with fail
  refine (toBoardEventS_c l _ _ _ h1 ra4).mono ?_
  rintro e w5 ⟨rfl, z5, hb5⟩
  have hz5 := hb5.size
  try simp only [World.size_alloc] at z5
  have hB5 : Below w4.heap.size w4 w5 := (by repeat (first | (with_reducible exact Below.refl _ _) | ((with_reducible refine alloc_ ?_ ?_); (focus (first | exact Nat.le_refl _ | (simp; done) | (simp; omega) | omega))) | ((with_reducible refine set_ ?_ ?_); (focus (first | exact Nat.le_refl _ | (simp; done) | (simp; omega) | omega))) | (with_reducible refine Below.drew ?_) | ((with_reducible refine after_ ?_ (by assumption) ?_); (rotate_left; (focus (first | exact Nat.le_refl _ | (simp; done) | (simp; omega) | omega))))))
  have hs5 := hB5.size
  have ra5 := ra4.carry hB5
  have x5 := x4.carry hB5
  have y5 := y4.carry hB5
  go_wp2_with fail
  refine (eqBoardEventS_same l _ _ _ _ _ h1 (y5.rd fun _ => rfl) (z5.rd fun _ => rfl)).mono ?_
  rintro e w6 ⟨rfl, hb6⟩
  have hz6 := hb6.size
  have hB6 : Below w5.heap.size w5 w6 := (by repeat (first | (with_reducible exact Below.refl _ _) | ((with_reducible refine alloc_ ?_ ?_); (focus (first | exact Nat.le_refl _ | (simp; done) | (simp; omega) | omega))) | ((with_reducible refine set_ ?_ ?_); (focus (first | exact Nat.le_refl _ | (simp; done) | (simp; omega) | omega))) | (with_reducible refine Below.drew ?_) | ((with_reducible refine after_ ?_ (by assumption) ?_); (rotate_left; (focus (first | exact Nat.le_refl _ | (simp; done) | (simp; omega) | omega))))))
  have hs6 := hB6.size
  have ra6 := ra5.carry hB6
  have x6 := x5.carry hB6
  have y6 := y5.carry hB6
  have z6 := z5.carry hB6
  go_wp2_with fail
  go_ret
  exact ⟨rfl, (by repeat (first | (with_reducible exact Below.refl _ _) | ((with_reducible refine alloc_ ?_ ?_); (focus (first | exact Nat.le_refl _ | (simp; done) | (simp; omega) | omega))) | ((with_reducible refine set_ ?_ ?_); (focus (first | exact Nat.le_refl _ | (simp; done) | (simp; omega) | omega))) | (with_reducible refine Below.drew ?_) | ((with_reducible refine after_ ?_ (by assumption) ?_); (rotate_left; (focus (first | exact Nat.le_refl _ | (simp; done) | (simp; omega) | omega))))))⟩
theorem kindsC_at {W : World} (h : laidMetH Tryd.prog Rows.fnExactCountEventsRow.laid W) : Rd W W.heap.size 1 strCells (some ⟨0, 0, none⟩) kindsB := kinds_at h
namespace fnExactCountEvents
set_option linter.unusedVariables false
theorem own : ownKnob Tryd.prog.godebug = none := by kernel_rfl
theorem laidOut : laidOutB Tryd.prog = true := by kernel_rfl
theorem gV : Tryd.prog.globalNamed "loop.example/g00935/impl.boardKinds" = some 0 := by kernel_rfl
theorem door_met (os : Os) (args : Array Value) : laidMetH Tryd.prog Rows.fnExactCountEventsRow.laid ((World.doorLaid Tryd.prog 400 os).forCall (fun _ _ => 0) ⟨#[], args, []⟩).memory :=
  laidMetH_of_parts3 (fuel := 8) (laidMet_of_run' 8 (by kernel_rfl) (by kernel_rfl)) (by kernel_rfl) (by kernel_rfl)
set_option maxRecDepth 100000 in
theorem lifted (os : Os) (started : os.Started) (H : Type) (enc : TypeId × Value → H) :
    ReturnsInHanded {} Tryd.checked os 4 .any (fun w args => (Rows.fnExactCountEventsSpec.pre enc Tryd.prog Tryd.f4 [] false w args ∧ laidMetH Tryd.prog Rows.fnExactCountEventsRow.laid w) ∧ sizedMet enc Tryd.prog Tryd.f4 (OpenSpec.ofChange Rows.fnExactCountEventsSpec) false w args) (Rows.fnExactCountEventsSpec.post enc Tryd.prog Tryd.f4 false true false false) := by
  refine returnsInHanded_of_change_and (C := Tryd.checked) (X := fun w _ => laidMetH Tryd.prog Rows.fnExactCountEventsRow.laid w) (fun _ _ _ hh h => h.of_heap hh) own started (by kernel_rfl) Tryd.func4
    (ChangeSpec.witness_shaped (enc := enc) (C := Tryd.checked) (os := os) (X := fun w _ => laidMetH Tryd.prog Rows.fnExactCountEventsRow.laid w) false (World.doorLaid Tryd.prog 400 os) #[.slice none 0 0, .string ByteArray.empty] 8 rfl (World.shaped_of_RefB (by kernel_rfl) (by kernel_rfl)) (by kernel_rfl) (by kernel_rfl) (by kernel_rfl) (door_met os _)) ?_
  intro W base args ds gs before hval0 hW _ _ hL _
  have hval : ∀ (j : Nat) t v, Tryd.f4.params[j]? = some t → args[j]? = some v → Value.okWide Tryd.prog W .any base t v := hval0
  have hW' := hW
  obtain ⟨p, q, hA0, hV, rfl, hfz, hnd⟩ := hW
  have hA : DataW.TrodAll enc Tryd.prog W 0 (fun _ => true) true Tryd.f4.params.toList args.toList ds p := hA0
  rw [Tryd.params4] at hA hval
  obtain ⟨v0, vs0, d0, ds0, p0, q0, hargs, rfl, rfl, h0, r0⟩ := trodAll_cons hA
  obtain ⟨v1, vs1, d1, ds1, p1, q1, rfl, rfl, rfl, h1, r1⟩ := trodAll_cons r0
  obtain ⟨rfl, rfl, rfl⟩ := trodAll_nil r1
  obtain rfl : args = #[v0, v1] := by cases args; simp_all
  obtain ⟨gg, tt, cs, fu, dv, pv, rfl, _, _, _, _, _⟩ := trodVars_one hV
  have k0 := h0
  have lt0 : ∀ x ∈ p0, x.block < W.heap.size := by obtain ⟨m, hm⟩ := k0; exact DataW.trod_lt m _ _ _ hm
  have k1 := h1
  have lt1 : ∀ x ∈ p1, x.block < W.heap.size := by obtain ⟨m, hm⟩ := k1; exact DataW.trod_lt m _ _ _ hm
  obtain ⟨a0, len0, cap0, rfl⟩ := okWide_slice Tryd.underlying29 (hval 0 29 v0 rfl rfl)
  obtain ⟨l, w0⟩ := open_laws_BoardEvent h0
  obtain ⟨s, rfl, rfl, rfl, w1⟩ := open_string Tryd.underlying9 (hval 1 9 v1 rfl rfl) h1
  clear hA0 hval0
  refine (lawCountEvents l a0 len0 cap0 s W w0 w1 (kindsC_at hL)).mono fun e W' ⟨he, bel⟩ => ?_
  subst he
  exact ⟨_, rfl, _, _, _, [], _, _, hW', trodAll_mk1 (shut_bool Tryd.underlying4 _), (trodAll_cons_mk (Below.trod laidOut (by kernel_rfl) (of_decide_eq_true (by kernel_rfl)) k0 bel lt0) (trodAll_cons_mk (Below.trod laidOut (by kernel_rfl) (of_decide_eq_true (by kernel_rfl)) k1 bel lt1) trodAll_mk0)), Below.trodVars laidOut bel (by kernel_rfl) hV, bel.frame _, fun h => by cases h⟩
theorem over : Rows.fnExactCountEventsRow.holds Tryd.pinned (OpenSpec.ofChange Rows.fnExactCountEventsSpec) :=
  OpenClaim.holds_of_wide 4 Tryd.f4 rfl rfl rfl rfl rfl rfl rfl ⟨rfl, rfl, rfl, rfl, rfl⟩ rfl rfl rfl rfl rfl (by kernel_rfl) Tryd.func4 (by kernel_rfl)
    (of_decide_eq_true (by kernel_rfl)) (by unfold Func.isWrapper; first | (rw [if_pos (by decide +kernel)]; kernel_rfl) | (rw [if_neg (by decide +kernel)]; exact ⟨rfl, rfl⟩))
    (fun os started H enc _ => lifted os started H enc)
/-- The given statement. -/
theorem proved : Rows.FnExactCountEventsCardSaid :=
  Claim7.holds_tied_plain_at .later [] Rows.fnExactCountEventsCard.laidKinds true Rows.fnExactCountEventsCard.stood.harness false
    over (fun _ h => by cases h) (by kernel_rfl) (fun _ h => by cases h) fnExactCountEvents_row_tie rfl ⟨rfl, rfl⟩ (by kernel_rfl) rfl
    (fun f fn hf hfn => by
      obtain rfl : f = 4 := Option.some.inj ((show Tryd.prog.funcNamed "loop.example/g00935/laws.FnExactCountEvents" = some 4 by kernel_rfl).symm.trans hf) |>.symm
      obtain rfl : fn = Tryd.f4 := (Option.some.inj (Tryd.func4.symm.trans hfn)).symm
      exact ⟨by kernel_rfl, fun j t ht => by
        rw [Tryd.params4] at ht
        have hm : t ∈ [29, 9] := by simpa using Array.mem_of_getElem? ht
        have hall : ([29, 9].all fun u => !Tryd.prog.wantsStandIn u) = true := by kernel_rfl
        exact (show Tryd.prog.wantsStandIn t = false by simpa using List.all_eq_true.1 hall t hm)⟩)
    (by kernel_rfl)
#print axioms proved
end fnExactCountEvents
end Go.Proofs.YtfmemmfmalfkaaaDoor
