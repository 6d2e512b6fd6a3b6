/- The plans that the reference draws for the tasks' statements: tasks and a list of days of the call's own; no conditions. -/
import Derived.Test.YtokddcnkfeimkaaTasksDraw
import Derived.Test.YtokddcnkfeimkaaOwnPut
import Derived.Test.YtokddcnkfeimkaaDueEnd
import Derived.Test.YtokddcnkfeimkaaTaskWays
namespace Go.Proofs.Ytokddcnkfeimkaa
open Go.RowKit

theorem dueP_len {l : List Tsk} : (dueP l).1.length ≤ l.length := by
  rcases h : (dueP l).2 with _ | _
  · unfold dueP at h ⊢
    by_cases h1 : (goodK l && planB l (byDue l)) = true
    · rw [if_pos h1] at h; cases h
    · rw [if_neg h1]; simp
  · have := (due_plan h).2.2; omega
theorem dx_of {f : FuncId} {args : Array Value} {W : World} {p : List Int × Bool} {L : List Int} {b : Bool} (h : Calls Try.prog f args W (DueX p W)) (hp : p = (L, b)) :
    Calls Try.prog f args W fun e w' => ∃ A cap, e = .returned (.tuple #[.slice A L.length cap, .bool b]) ∧ w'.ownsRow W.heap.size 3 1 (.slice A L.length cap) L.length (L.map (Value.int .i64)) ∧ Below W.heap.size W w' := by subst hp; exact h
def BusyArgs (w : World) (e : Ending) (w' : World) : Prop := ∃ (g c : Nat) (l : List Tsk) (B : Option Addr) (d : Nat) (p : List Int) (f t : Int), e = .returned (.tuple #[.slice (some ⟨g, 0, none⟩) l.length c, .slice B p.length d, .int .i64 f, .int .i64 t]) ∧ l.length ≤ 7 ∧ p.length ≤ 9 ∧
  Own w' w.heap.size 50 4 Tsk.cells (some ⟨g, 0, none⟩) l ∧ Own w' w.heap.size 3 1 intCells B p ∧ Below w.heap.size w w'
set_option maxHeartbeats 4000000 in
theorem drawBusyDays_c (A : Option Addr) (n cap : Nat) (w : World) (hk : Codes w A n) : Calls Try.prog 46 #[.slice A n cap] w (BusyArgs w) := by
  have HK := Lib.hid hk
  clear hk
  go_enter Try.func46, Try.ntmps46
  go_wp2_with fail
  refine (tasks_c w.heap.size 0 _ HK.out.cur (by omega)).mono ?_
  rintro e w1 ⟨g1, c1, l, rfl, hc1, hl, ho1, hcw1, hgw1⟩
  have HO := Lib.hid ho1
  have HCw1 := Lib.hid hcw1
  have HGw1 := Lib.hid hgw1
  clear ho1 hcw1 hgw1
  have HLT := Lib.hid (show w.heap.size < w1.heap.size from HCw1.out.lt)
  have hdl := dueP_len (l := l)
  obtain ⟨⟨P, ok⟩, hv⟩ : ∃ p, dueP l = p := ⟨_, rfl⟩
  rw [hv] at hdl
  simp only at hdl
  have HV := Lib.hid hv
  clear hv
  go_wp2_with fail
  refine (dx_of (specPlanByDue_x l _ _ _ (by omega) (HO.out.rd fun _ => rfl)) HV.out).mono ?_
  rintro e w2 ⟨B, c, rfl, hown, hb2⟩
  have HP2 := Lib.hid (show Own w2 w1.heap.size 3 1 intCells B P from Own.of_row' hown rfl (flat_ints _).symm (fun _ => rfl))
  have HO2 := Lib.hid (HO.out.carry hb2)
  have HC2 := Lib.hid (HCw1.out.carry hb2)
  have HB2 := Lib.hid (but_below HGw1.out (hb2.mono (show (w.alloc (.cells #[.slice A n cap, .int .i64 0, .int .u64 0] 81)).heap.size ≤ w1.heap.size from HGw1.out.size)))
  clear hown hb2
  go_wp2_with fail
  refine (among_c [0, 0, 5, 12, 400, 401, -1] (-1) 401 _ _ _ _ _ HC2.out (by omega) rfl rfl (by decide) (by decide) (by decide)).mono ?_
  rintro e w3 ⟨f, rfl, f1, f2, hcw3, hgw3⟩
  have HCw3 := Lib.hid hcw3
  have HGw3 := Lib.hid hgw3
  clear hcw3 hgw3
  go_wp2_with fail
  refine (among_c [0, 3, 10, 100, -1] (-1) 100 _ _ _ _ _ HCw3.out (by omega) rfl rfl (by decide) (by decide) (by decide)).mono ?_
  rintro e w4 ⟨t, rfl, t1, t2, hcw4, hgw4⟩
  have HCw4 := Lib.hid hcw4
  have HGw4 := Lib.hid hgw4
  clear hcw4 hgw4
  have HG := Lib.hid (but_trans HGw3.out HGw4.out)
  have HO4 := Lib.hid (HO2.out.grown HG.out (by simp))
  have HP4 := Lib.hid (HP2.out.grown HG.out HLT.out)
  have HB4 := Lib.hid (but_trans HB2.out HG.out)
  go_wp2_with fail
  exact bodyPost_ret (v := .tuple #[.slice (some ⟨g1, 0, none⟩) l.length c1, .slice B P.length c, .int .i64 f, .int .i64 (f + t)]) (by simp [results, Try.results46, go_sem]) rfl
    ⟨g1, c1, l, B, c, P, f, f + t, rfl, hl, by omega, HO4.out.less (by simp), HP4.out.less (Nat.le_of_lt HLT.out), draw_end HB4.out⟩
def PlanArgs (w : World) (e : Ending) (w' : World) : Prop := ∃ (g c : Nat) (l : List Tsk) (B : Option Addr) (d : Nat) (p : List Int), e = .returned (.tuple #[.slice (some ⟨g, 0, none⟩) l.length c, .slice B p.length d]) ∧ l.length ≤ 7 ∧ p.length ≤ 9 ∧
  Own w' w.heap.size 50 4 Tsk.cells (some ⟨g, 0, none⟩) l ∧ Own w' w.heap.size 3 1 intCells B p ∧ Below w.heap.size w w'
theorem own_base {α : Type} [Inhabited α] {w : World} {base k g : Nat} {T : TypeId} {cells : α → List Value} {l : List α} (h : Own w base T k cells (some ⟨g, 0, none⟩) l) (h0 : 0 < l.length) : base ≤ g ∧ g < w.heap.size := by
  obtain ⟨g', N, f, e, hg, _, hf, _⟩ := h h0
  simp only [Option.some.injEq, Addr.mk.injEq, and_true] at e
  subst e; exact ⟨hg, hf.lt⟩
/-- A plan on the way. -/
def PlanNow (w1 : World) (gc K : Nat) (v : Value) (wx : World) : Prop := ∃ (B : Option Addr) (c : Nat) (p : List Int), v = .slice B p.length c ∧ p.length ≤ 8 ∧ wx.ownsRow w1.heap.size 3 1 (.slice B p.length c) p.length (p.map (Value.int .i64)) ∧ Cur wx gc K ∧ w1.grownBy wx (some gc)
set_option maxRecDepth 100000 in
set_option maxHeartbeats 16000000 in
theorem drawIsTaskPlan_c (A : Option Addr) (n cap : Nat) (w : World) (hk : Codes w A n) : Calls Try.prog 45 #[.slice A n cap] w (PlanArgs w) := by
  have HK := Lib.hid hk
  clear hk
  go_enter Try.func45, Try.ntmps45
  go_wp2_with fail
  refine (tasks_c w.heap.size 0 _ HK.out.cur (by omega)).mono ?_
  rintro e w1 ⟨g1, c1, l, rfl, hc1, hl, ho1, hcw1, hgw1⟩
  have HO := Lib.hid ho1
  have HCw1 := Lib.hid hcw1
  have HGw1 := Lib.hid hgw1
  clear ho1 hcw1 hgw1
  have HLT := Lib.hid (show w.heap.size < w1.heap.size from HCw1.out.lt)
  have hdl := dueP_len (l := l)
  obtain ⟨⟨P, ok⟩, hv⟩ : ∃ p, dueP l = p := ⟨_, rfl⟩
  rw [hv] at hdl
  simp only at hdl
  have HV := Lib.hid hv
  clear hv
  go_wp2_with fail
  refine (dx_of (specPlanByDue_x l _ _ _ (by omega) (HO.out.rd fun _ => rfl)) HV.out).mono ?_
  rintro e w2 ⟨B, c, rfl, hown, hb2⟩
  have HP2 := Lib.hid hown
  have HC2 := Lib.hid (HCw1.out.carry hb2)
  have HB2 := Lib.hid (but_below (World.grownBy.refl w1 (some w.heap.size)) hb2)
  clear hown hb2
  go_upto_region 4 with fail
  go_cut [25] (fun s wx => (∃ b : Bool, s = .bool b) ∧ wx.ownsRow w1.heap.size 3 1 (.slice B P.length c) P.length (P.map (Value.int .i64)) ∧ Cur wx w.heap.size 110 ∧ w1.grownBy wx (some w.heap.size))
  case first => as_aux_lemma =>
    rcases ok with _ | _
    · go_wp2_with fail
      go_meet
      exact ⟨⟨_, rfl⟩, HP2.out, HC2.out.mono (by omega), HB2.out⟩
    · go_wp2_with fail
      refine (one_c 4 _ _ _ HC2.out (by omega) (by omega) (by omega)).mono ?_
      rintro e w3 ⟨o, rfl, hcw3, hgw3⟩
      have HCw3 := Lib.hid hcw3
      have HGw3 := Lib.hid hgw3
      clear hcw3 hgw3
      go_wp2_with fail
      go_meet
      exact ⟨⟨_, rfl⟩, owns_grown HP2.out HGw3.out HLT.out, HCw3.out.mono (by omega), but_trans HB2.out HGw3.out⟩
  obtain ⟨⟨b, rfl⟩, hp3, hc3, hb3⟩ := hcut
  have HP3 := Lib.hid hp3
  have HC3 := Lib.hid hc3
  have HB3 := Lib.hid hb3
  clear hp3 hc3 hb3 HP2 HC2 HB2
  go_upto_if 25 with fail
  go_cut [6] (fun v wx => PlanNow w1 w.heap.size 150 v wx)
  case first => as_aux_lemma =>
    rcases b with _ | _
    · go_wp2_with fail
      go_meet
      exact ⟨B, c, P, rfl, by omega, HP3.out, HC3.out.mono (by omega), HB3.out⟩
    · obtain ⟨w3, hw3⟩ : ∃ w3, w3 = wc := ⟨_, rfl⟩
      subst hw3
      have HO3 := Lib.hid (Joins.ownsRow_le (ownsRow_empty w3 3 1) HB3.out.size)
      have HC4 := Lib.hid (HC3.out.alloc (.cells #[] 3))
      have HB4 := Lib.hid (but_below HB3.out ((Below.refl w1.heap.size _).alloc HB3.out.size (.cells #[] 3)))
      clear HP3 HC3 HB3
      go_wp2_with fail
      go_loopw [6, 8] (fun v i wr => ∃ (p : List Int) (k : Nat) (B : Option Addr) (c : Nat), k ≤ l.length ∧ p.length = k ∧ i = .int .i64 k ∧ v = .slice B p.length c ∧ wr.ownsRow w1.heap.size 3 1 (.slice B p.length c) p.length (p.map (Value.int .i64)) ∧ Cur wr w.heap.size (110 + 2 * k) ∧ w1.grownBy wr (some w.heap.size)) (fun _ i _ => l.length - (intOf i).toNat)
      case atStart => exact ⟨[], 0, _, 0, Nat.zero_le _, rfl, rfl, rfl, HO3.out, HC4.out, HB4.out⟩
      case round =>
        obtain ⟨p, k, B, c, hk, hpk, rfl, rfl, hown, hcur, hbut⟩ := hrel
        have HOr := Lib.hid hown
        have HCr := Lib.hid hcur
        have HBr := Lib.hid hbut
        by_cases hlt : k < l.length
        · have hot := HO.out.grown hbut (by simp)
          obtain ⟨b1, b2⟩ := own_base HO.out (by omega)
          obtain ⟨b, off, he, hbl, q0, q1, q2, q3⟩ := Tsk.rd (hot.rd fun _ => rfl) hlt
          cases he
          simp only [Nat.zero_add] at q0 q1 q2 q3
          have z1 := hbut.size
          have hne : g1 ≠ w.heap.size := by simp at b1; omega
          obtain ⟨f, hf⟩ : ∃ f, (nth l k).f = f := ⟨_, rfl⟩
          rw [hf] at q1
          have ik : (k : Int) < l.length := by omega
          have HN := Lib.hid hne
          have HP := Lib.hid hpk
          have hpl : p.length ≤ 7 := by omega
          clear hown hcur hbut hot q0 q2 q3 hf hpk b1 hne
          go_wp2_with fail
          go_region_held3 (fun w' : World => w'.cell? ⟨g1, k * 4 + 1, none⟩ = some (.int .i64 f)) (first | exact q1 | exact q1p | exact q1q | exact (((Below.refl w4.heap.size w4).alloc (Nat.le_refl _) _).cell (p := ⟨g1, k * 4 + 1, none⟩) l4).trans q1p | (simp [go_sem, q1]; done)) (first
            | (go_at_call 75; refine (pick_c 4 w.heap.size _ _ (HCr.out.carry (Below.refl _ _).drew) (by omega) (by omega) (by omega)).mono ?_; rintro e w4 ⟨v, rfl, v1, v2, hc4, hg4⟩; have q1p := (World.cell?_of_block (a := ⟨g1, k * 4 + 1, none⟩) (hg4.block g1 hbl (by simpa using HN.out))).trans q1; have HO4 := Lib.hid (owns_grown HOr.out (but_trans (but_below (World.grownBy.refl _ _) (Below.refl _ _).drew) hg4) HLT.out); have z4 := hg4.size; have z4' : wr.heap.size ≤ w4.heap.size := z4; have l4 : g1 < w4.heap.size := Nat.lt_of_lt_of_le hbl z4')
            | (refine step_extend rfl (.tmp 33) (.tmp 42) 35 rfl w1.heap.size 3 (.int .i64 0) 1 8 Try.underlying35 info_int rfl (by decide) (by decide) (.slice B p.length c) _ _ rfl (HO4.out.alloc _) w4.heap.size 0 1 1 [.int .i64 (IntKind.i64.wrap (f + v))] rfl rfl (news_one (cs := #[.int .i64 (IntKind.i64.wrap (f + v))]) (heap_alloc_new _ _)) ?_ ?_ ?_ ?_; (focus (intro u hu; simp at hu; subst hu; rfl)); (focus omega); (focus (first | omega | (simp; omega))); intro v' w' hown' hb' hk'; have q1q := (World.cell?_of_block (a := ⟨g1, k * 4 + 1, none⟩) (hb'.block g1 b2)).trans ((((Below.refl w4.heap.size w4).alloc (Nat.le_refl _) _).cell (p := ⟨g1, k * 4 + 1, none⟩) l4).trans q1p)))
          obtain ⟨u, hu⟩ : ∃ u, IntKind.i64.wrap (f + v) = u := ⟨_, rfl⟩
          rw [hu] at hown' hb'
          have hB := Lib.hid (show Below w1.heap.size w4 w' from ((Below.refl _ _).alloc (Nat.le_trans z1 z4') _).trans hb')
          have hBr := Lib.hid (but_trans HBr.out (but_trans (but_below (World.grownBy.refl _ _) (Below.refl _ _).drew) hg4))
          obtain ⟨f1, f2⟩ := push_end hBr.out hc4 HLT.out hB.out
          rw [show p.map (Value.int .i64) ++ [Value.int .i64 u] = (p ++ [u]).map (Value.int .i64) by simp] at hown'
          obtain ⟨B5, c5, rfl⟩ := ownsRow_shape hown'
          have F1 := Lib.hid f1
          have F2 := Lib.hid f2
          have F3 := Lib.hid hown'
          clear f1 f2 hown' hb' hk' hu hc4 hg4
          go_wp2_with fail
          go_roundw
          case rel => exact ⟨p ++ [u], k + 1, B5, c5, by omega, by simp [HP.out], by go_num, by simp, by simpa using F3.out, F1.out.mono (by omega), F2.out⟩
          case measure => simp [intOf]; omega
        · clear hown hcur hbut
          go_wp2_with fail
          go_meet
          exact ⟨B, c, p, rfl, by omega, HOr.out, HCr.out.mono (by omega), HBr.out⟩
  case rest => as_aux_lemma =>
    obtain ⟨B2, c2, p, rfl, hpl, ho, hc, hb⟩ := hcut
    have HOp := Lib.hid ho
    have HCp := Lib.hid hc
    have HBp := Lib.hid hb
    clear ho hc hb HP3 HC3 HB3
    go_upto_region 10 with fail
    go_cut [50] (fun s wx => (∃ b : Bool, s = .bool b ∧ (b = true → 0 < p.length)) ∧ wx.ownsRow w1.heap.size 3 1 (.slice B2 p.length c2) p.length (p.map (Value.int .i64)) ∧ Cur wx w.heap.size 160 ∧ w1.grownBy wx (some w.heap.size))
    case first => as_aux_lemma =>
      by_cases hp0 : 0 < p.length
      · go_wp2_with fail
        refine (one_c 4 _ _ _ HCp.out (by omega) (by omega) (by omega)).mono ?_
        rintro e w3 ⟨o, rfl, hcw3, hgw3⟩
        have HCw3 := Lib.hid hcw3
        have HGw3 := Lib.hid hgw3
        clear hcw3 hgw3
        go_wp2_with fail
        go_meet
        exact ⟨⟨_, rfl, fun _ => hp0⟩, owns_grown HOp.out HGw3.out HLT.out, HCw3.out.mono (by omega), but_trans HBp.out HGw3.out⟩
      · go_wp2_with fail
        go_meet
        exact ⟨⟨false, rfl, fun h => by cases h⟩, HOp.out, HCp.out.mono (by omega), HBp.out⟩
    obtain ⟨⟨b, rfl, hb0⟩, hp3, hc3, hb3⟩ := hcut
    have HP3 := Lib.hid hp3
    have HC3 := Lib.hid hc3
    have HB3 := Lib.hid hb3
    have HB0 := Lib.hid hb0
    clear hp3 hc3 hb3 hb0 HOp HCp HBp
    go_upto_if 50 with fail
    go_cut [6] (fun v wx => PlanNow w1 w.heap.size 200 v wx)
    case first => as_aux_lemma =>
      rcases b with _ | _
      · go_wp2_with fail
        go_meet
        exact ⟨B2, c2, p, rfl, hpl, HP3.out, HC3.out.mono (by omega), HB3.out⟩
      · have hp0 := HB0.out rfl
        obtain ⟨g, c3, hv⟩ := Joins.ownsRow_form HP3.out hp0
        cases hv
        have n2 : (p.length : Int) ≤ 100 := by omega
        have n1 : 1 ≤ (p.length : Int) := by omega
        go_wp2_with fail
        refine (pick_c (p.length : Int) _ _ _ HC3.out (by omega) (by omega) (by omega)).mono ?_
        rintro e w4 ⟨k, rfl, k1, k2, hcw4, hgw4⟩
        have HCw4 := Lib.hid hcw4
        have HGw4 := Lib.hid hgw4
        clear hcw4 hgw4
        obtain ⟨k, rfl⟩ : ∃ k' : Nat, k = (k' : Int) := ⟨k.toNat, by omega⟩
        have hkl : k < p.length := by omega
        have HO4 := Lib.hid (owns_grown HP3.out HGw4.out HLT.out)
        have HB4 := Lib.hid (but_trans HB3.out HGw4.out)
        obtain ⟨_, hc4, hf4, hg4b, hg4l⟩ := owns_put HO4.out hkl (.int .i64 0)
        rw [List.getElem?_map, List.getElem?_eq_getElem hkl] at hc4
        obtain ⟨x, hx⟩ : ∃ x, p[k] = x := ⟨_, rfl⟩
        rw [hx, Option.map_some] at hc4
        have ik : (k : Int) < p.length := by omega
        have hgc : g ≠ w.heap.size := by have := HLT.out; omega
        have HGC := Lib.hid hgc
        clear hx HP3 HB3 HC3 HGw4 hgc
        go_wp2_with fail
        go_region_with (first
          | (go_at_call 75; refine (pick_c 5 w.heap.size _ _ (HCw4.out.carry (Below.refl _ _).drew) (by omega) (by omega) (by omega)).mono ?_; rintro e w5 ⟨v, rfl, v1, v2, hc5, hg5⟩; have hcx := (World.cell?_of_block (a := ⟨g, k, none⟩) (hg5.block g hg4l (by simpa using HGC.out))).trans hc4; have hfx := (World.frozen?_of_block (a := ⟨g, k, none⟩) (hg5.block g hg4l (by simpa using HGC.out))).trans hf4; have hgx := but_trans (but_below HB4.out (Below.refl _ _).drew) hg5; have hox := owns_grown HO4.out (but_trans (but_below (World.grownBy.refl w4 (some w.heap.size)) (Below.refl _ _).drew) hg5) HLT.out; have HX5 := Lib.hid (And.intro hc5 (And.intro hgx hox)); clear hc5 hg5 hgx hox))
        all_goals
          go_wp2_with fail
          go_meet
          exact ⟨some ⟨g, 0, none⟩, c2, p.set k _, by simp, by simpa using hpl, by rw [List.length_set, List.map_set]; exact (owns_put HX5.out.2.2 hkl _).1, (HX5.out.1.below ((Below.refl w1.heap.size _).setCell (p := ⟨g, k, none⟩) hg4b _) HLT.out).mono (by omega), but_below HX5.out.2.1 ((Below.refl w1.heap.size _).setCell (p := ⟨g, k, none⟩) hg4b _)⟩
    obtain ⟨B5, c5, p5, rfl, hpl5, ho, hc, hb⟩ := hcut
    have HO5 := Lib.hid ho
    have HC5 := Lib.hid hc
    have HB5 := Lib.hid hb
    clear ho hc hb HP3 HC3 HB3 HB0
    go_wp2_with fail
    refine (one_c 24 _ _ _ HC5.out (by omega) (by omega) (by omega)).mono ?_
    rintro e w6 ⟨o, rfl, hcw6, hgw6⟩
    have HCw6 := Lib.hid hcw6
    have HGw6 := Lib.hid hgw6
    clear hcw6 hgw6
    have HO6 := Lib.hid (owns_grown HO5.out HGw6.out HLT.out)
    have HB6 := Lib.hid (but_trans HB5.out HGw6.out)
    have z6 := HB6.out.size
    clear HO5 HB5 HGw6 HC5
    rcases o with _ | _
    · have HR := Lib.hid (HO.out.grown HB6.out (by simp))
      go_wp2_with fail
      exact bodyPost_ret (v := .tuple #[.slice (some ⟨g1, 0, none⟩) l.length c1, .slice B5 p5.length c5]) (by simp [results, Try.results45, go_sem]) rfl
        ⟨g1, c1, l, B5, c5, p5, rfl, hl, by omega, HR.out.less (by simp), (Own.of_row' HO6.out rfl (flat_ints _).symm (fun _ => rfl)).less (Nat.le_of_lt HLT.out), draw_end (but_trans HGw1.out HB6.out)⟩
    · go_wp2_with (at_builtin; refine wpList_push2 _ rfl _ _ 35 rfl w1.heap.size 3 (.int .i64 0) 1 8 Try.underlying35 info_int rfl (by decide) (by decide) _ _ _ rfl (HO6.out.alloc _) w6.heap.size [.int .i64 3] rfl rfl ?c1 ?c2 ?c3 ?c4 ?_)
      try case c1 =>
        intro j u hj
        match j, hj with
        | 0, hj => simp at hj; subst hj; simp [go_sem]
      case c2 => first | rfl | (intro u hu; simp at hu; subst hu; rfl) | (simp; done) | (simp; rfl)
      case c3 => omega
      case c4 => first | omega | (simp; omega)
      intro v' w' hown' hb' _
      rw [show p5.map (Value.int .i64) ++ [.int .i64 3] = (p5 ++ [3]).map (Value.int .i64) by simp] at hown'
      obtain ⟨e1, e2⟩ := push_end HB6.out HCw6.out HLT.out (((Below.refl _ _).alloc z6 _).trans hb')
      obtain ⟨A7, c7, rfl⟩ := ownsRow_shape hown'
      have E2 := Lib.hid e2
      have E3 := Lib.hid hown'
      have HR := Lib.hid (HO.out.grown E2.out (by simp))
      clear e1 e2 hown' hb'
      go_wp2_with fail
      exact bodyPost_ret (v := .tuple #[.slice (some ⟨g1, 0, none⟩) l.length c1, .slice A7 (p5.length + 1) c7]) (by simp [results, Try.results45, go_sem]) rfl
        ⟨g1, c1, l, A7, c7, p5 ++ [3], by simp, hl, by simp; omega, HR.out.less (by simp), (Own.of_row' E3.out (by simp) (flat_ints _).symm (fun _ => rfl)).less (Nat.le_of_lt HLT.out), draw_end (but_trans HGw1.out E2.out)⟩
end Go.Proofs.Ytokddcnkfeimkaa
