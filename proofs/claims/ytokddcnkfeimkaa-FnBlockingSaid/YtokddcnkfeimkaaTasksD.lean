/- What the reference draws of tasks: a list of tasks of the call's own; only the cursor's own block turns; no conditions but that the cursor has not gone very far. -/
import Derived.Test.YtokddcnkfeimkaaVee
import Derived.Test.YtokddcnkfeimkaaTasks
import Derived.Deep.RegionWith
import Derived.Deep.RegionHeld3
import Derived.Deep.DeepCutAuto
namespace Go.Proofs.Ytokddcnkfeimkaa
open Go.RowKit

theorem info_tsk : (Try.prog.info? 50).map (fun i => (i.zero, i.size, i.bytes)) = some (some (.agg #[.int .i64 0, .int .i64 0, .int .i64 0, .int .i64 0]), 4, 32) := by kernel_rfl
theorem flat_tsk (l : List Tsk) (x : Tsk) : (l.map Tsk.cells).flatten ++ Tsk.cells x = ((l ++ [x]).map Tsk.cells).flatten := by simp
/-- A list that something was appended to lies in a block. -/
theorem owns_at {w : World} {base k n : Nat} {T : TypeId} {v : Value} {xs : List Value} (h : w.ownsRow base T k v n xs) (hn : 0 < n) : ∃ g c, v = .slice (some ⟨g, 0, none⟩) n c ∧ n ≤ c := by
  rcases h.2 with ⟨_, h0⟩ | ⟨g, cap, cur, rfl, _, _, hnc, _⟩
  · omega
  · exact ⟨g, cap, rfl, hnc⟩
theorem owns_lt {w : World} {base k n g c : Nat} {T : TypeId} {xs : List Value} (h : w.ownsRow base T k (.slice (some ⟨g, 0, none⟩) n c) n xs) : g < w.heap.size ∧ base ≤ g := by
  rcases h.2 with ⟨h1, _⟩ | ⟨g', cap, cur, he, hg, hh, _⟩
  · simp at h1
  · simp only [Value.slice.injEq, Option.some.injEq, Addr.mk.injEq, and_true, true_and] at he
    obtain ⟨rfl, rfl⟩ := he
    exact ⟨lt_of_block hh, hg⟩
theorem owns_far {w : World} {base n k g g' c o : Nat} {T : TypeId} {u : Value} {xs : List Value} (h : w.ownsRow base T k (.slice (some ⟨g, 0, none⟩) n c) n xs) (hne : g ≠ g') : (w.setCell ⟨g', o, none⟩ u).ownsRow base T k (.slice (some ⟨g, 0, none⟩) n c) n xs :=
  h.kept (row := some g') (grown_set (World.grownBy.refl _ _)) (.inr (by simpa [Value.ownBlock] using hne))
/-- What is drawn: a list of the call's own, in a block even if it is empty. -/
def TasksD (gc K : Nat) (w : World) (e : Ending) (w' : World) : Prop := ∃ (g cap : Nat) (l : List Tsk), e = .returned (.slice (some ⟨g, 0, none⟩) l.length cap) ∧ l.length ≤ cap ∧ l.length ≤ 7 ∧ Own w' w.heap.size 50 4 Tsk.cells (some ⟨g, 0, none⟩) l ∧ Cur w' gc K ∧ w.grownBy w' (some gc)

theorem grown_low {a w4 w6 : World} {o : Obj} {gc : Nat} {p : Addr} {u : Value} (h : a.grownBy w4 (some gc)) (hg : (w4.alloc o).grownBy w6 (some gc)) (hp : w4.heap.size ≤ p.block) (hs : a.heap.size ≤ w4.heap.size) : a.grownBy (w6.setCell p u) (some gc) :=
  but_below (but_trans (but_below h ((Below.refl _ _).alloc hs o)) hg) ((Below.refl _ _).setCell (Nat.le_trans hs hp) u)
set_option maxRecDepth 100000 in
set_option maxHeartbeats 16000000 in
theorem tasks_c (gc K : Nat) (w : World) (h : Cur w gc K) (hK : K ≤ 100000) : Calls Try.prog 73 #[.pointer (some ⟨gc, 0, none⟩)] w (TasksD gc (K + 100) w) := by
  have HC := Lib.hid h
  have HLT := Lib.hid h.lt
  clear h
  go_enter Try.func73, Try.ntmps73
  go_wp2_with fail
  have HO1 := Lib.hid (ownsRow_empty w 50 4)
  have HB1 := Lib.hid (but_alloc (a := w) (g := gc) (.cells #[] 50))
  have HC1 := Lib.hid (HC.out.alloc (.cells #[] 50))
  go_loopw [3, 4] (fun v i wr => ∃ (l : List Tsk) (k g c : Nat), 1 ≤ k ∧ k ≤ 7 ∧ l.length + 1 ≤ k ∧ v = .slice (some ⟨g, 0, none⟩) l.length c ∧ l.length ≤ c ∧ i = .int .i64 k ∧ wr.ownsRow w.heap.size 50 4 (.slice (some ⟨g, 0, none⟩) l.length c) l.length ((l.map Tsk.cells).flatten) ∧ Cur wr gc (K + 8 * k) ∧ w.grownBy wr (some gc)) (fun _ i _ => 7 - (intOf i).toNat)
  case atStart => exact ⟨[], 1, w.heap.size, 0, Nat.le_refl _, by omega, by simp, rfl, by simp, rfl, HO1.out, HC1.out.mono (by omega), HB1.out⟩
  case round =>
    obtain ⟨l, k, g, c, hk1, hk, hl, rfl, hc, rfl, hown, hcur, hbut⟩ := hrel
    have HO := Lib.hid hown
    have HB := Lib.hid hbut
    have HR := Lib.hid hcur
    clear hown hbut hcur
    by_cases hlt : k < 7
    · go_wp2_with fail
      refine (one_c 3 gc _ _ HR.out (by omega) (by omega) (by omega)).mono ?_
      rintro e w2 ⟨o, rfl, hcw2, hgw2⟩
      have HCw2 := Lib.hid hcw2
      have HGw2 := Lib.hid hgw2
      clear hcw2 hgw2
      have HO2 := Lib.hid (owns_grown HO.out HGw2.out HLT.out)
      have HB2 := Lib.hid (but_trans HB.out HGw2.out)
      clear HGw2 HO HB HR
      rcases o with _ | _
      · go_wp2_with fail
        refine (among_c [0, 0, 5, 10, 20, 30] 0 30 gc _ _ _ _ HCw2.out (by omega) rfl rfl (by decide) (by decide) (by decide)).mono ?_
        rintro e w3 ⟨f, rfl, f1, f2, hcw3, hgw3⟩
        have HCw3 := Lib.hid hcw3
        have HGw3 := Lib.hid hgw3
        clear hcw3 hgw3
        go_wp2_with fail
        refine (among_c [1, 2, 3, 5, 10] 1 10 gc _ _ _ _ HCw3.out (by omega) rfl rfl (by decide) (by decide) (by decide)).mono ?_
        rintro e w4 ⟨d, rfl, d1, d2, hcw4, hgw4⟩
        have HCw4 := Lib.hid hcw4
        have HGw4 := Lib.hid hgw4
        clear hcw4 hgw4
        have HG := Lib.hid (but_trans HGw3.out HGw4.out)
        have HO4 := Lib.hid (owns_grown HO2.out HG.out HLT.out)
        have HB4 := Lib.hid (but_trans HB2.out HG.out)
        go_wp2_with fail
        have z4 := HB4.out.size
        have HX := Lib.hid (Box.new w4 [.int .i64 (3 * (k : Int)), .int .i64 f, .int .i64 0, .int .i64 d] 50)
        have HC5 := Lib.hid (HCw4.out.alloc (.cells #[.int .i64 (3 * (k : Int)), .int .i64 f, .int .i64 0, .int .i64 d] 50))
        have g4 := HCw4.out.lt
        have a1 : IntKind.i64.wrap (f + d) = f + d := IntWalk.i64_in _ (by omega)
        have a2 : IntKind.i64.wrap (f + d - 1) = f + d - 1 := IntWalk.i64_in _ (by omega)
        have HX1 := Lib.hid (HO4.out.alloc (.cells #[.int .i64 (3 * (k : Int)), .int .i64 f, .int .i64 0, .int .i64 d] 50))
        have HX2 := Lib.hid (owns_lt HO4.out)
        go_region_held3 (fun w' : World => w'.cell? ⟨w4.heap.size, 1, none⟩ = some (.int .i64 f) ∧ w'.cell? ⟨w4.heap.size, 3, none⟩ = some (.int .i64 d)) (first | exact ⟨hd1, hd3⟩ | (refine ⟨?_, ?_⟩ <;> (first | (simp [go_sem]; done) | (simp [go_sem, hd1, hd3]; done)))) (first
          | (go_at_call 76; refine (among_d [0, 1, 3, 8, 20, 100] 0 100 gc (K + 8 * k + 2 + 2 + 2) _ _ _ _ HC5.out (by omega) (by simp) rfl rfl (by decide) (by decide) (by decide)).mono ?_; rintro e w6 ⟨v, rfl, v1, v2, hc6, hg6⟩; have hbx := HX.out.grown hg6 (by omega); have hd1 := hbx.cell (j := 1) rfl; have hd2 := hbx.cell (j := 2) rfl; have hd3 := hbx.cell (j := 3) rfl; have hfz := hbx.frozen))
        obtain ⟨u, hu⟩ : ∃ u, IntKind.i64.wrap (f + d - 1 + v) = u := ⟨_, rfl⟩
        rw [hu]
        have HU := Lib.hid hu
        have hd0 := hbx.cell (j := 0) rfl
        have HO7 := Lib.hid (owns_far (o := 2) (u := .int .i64 u) (owns_grown HX1.out hg6 HLT.out) (show g ≠ w4.heap.size by have := HX2.out.1; omega))
        have HC7 := Lib.hid (hc6.below ((Below.refl w4.heap.size _).setCell (p := ⟨w4.heap.size, 2, none⟩) (Nat.le_refl _) (.int .i64 u)) g4)
        have HB7 := Lib.hid (grown_low (p := ⟨w4.heap.size, 2, none⟩) (u := .int .i64 u) HB4.out hg6 (Nat.le_refl _) z4)
        have z7 := HB7.out.size
        have z6 : w4.heap.size + 1 ≤ w6.heap.size := by have := hg6.size; simpa using this
        clear hu hbx hc6 hg6 HX HX1 HX2 HC5 HO4 HB4 HG HCw2 HCw3 HCw4 HGw3 HGw4 HO2 HB2 a1 a2
        obtain ⟨w7, hw7⟩ : ∃ w7, w6.setCell ⟨w4.heap.size, 2, none⟩ (.int .i64 u) = w7 := ⟨_, rfl⟩
        have e0 : w7.cell? ⟨w4.heap.size, 0, none⟩ = some (.int .i64 (3 * (k : Int))) := by rw [← hw7]; simp [go_sem, hd0]
        have e1 : w7.cell? ⟨w4.heap.size, 1, none⟩ = some (.int .i64 f) := by rw [← hw7]; simp [go_sem, hd1]
        have e2 : w7.cell? ⟨w4.heap.size, 2, none⟩ = some (.int .i64 u) := by rw [← hw7]; simp [go_sem, hd2]
        have e3 : w7.cell? ⟨w4.heap.size, 3, none⟩ = some (.int .i64 d) := by rw [← hw7]; simp [go_sem, hd3]
        rw [hw7] at HO7 HC7 HB7 z7 ⊢
        clear hd0 hd1 hd2 hd3 hfz hw7
        go_wp2_with (at_builtin; refine wpList_push2 _ rfl _ _ 25 rfl w.heap.size 50 (.agg #[.int .i64 0, .int .i64 0, .int .i64 0, .int .i64 0]) 4 32 Try.underlying25 info_tsk rfl (by decide) (by decide) _ _ _ rfl (HO7.out.alloc _) w7.heap.size (Tsk.cells ⟨3 * (k : Int), f, u, d⟩) rfl rfl ?c1 ?c2 ?c3 ?c4 ?_)
        try case c1 =>
          intro j u hj
          match j, hj with
          | 0, hj => simp [Tsk.cells] at hj; subst hj; simp [go_sem]
          | 1, hj => simp [Tsk.cells] at hj; subst hj; simp [go_sem]
          | 2, hj => simp [Tsk.cells] at hj; subst hj; simp [go_sem]
          | 3, hj => simp [Tsk.cells] at hj; subst hj; simp [go_sem]
        case c2 => intro u hu; simp [Tsk.cells] at hu; rcases hu with rfl | rfl | rfl | rfl <;> rfl
        case c3 => omega
        case c4 => first | omega | (simp; omega)
        intro v' w' hown' hb' _
        rw [flat_tsk] at hown'
        obtain ⟨f1, f2⟩ := push_end HB7.out HC7.out HLT.out (((Below.refl _ _).alloc z7 _).trans hb')
        obtain ⟨g8, c8, hv8, hc8⟩ := owns_at hown' (by omega)
        subst hv8
        have F1 := Lib.hid f1
        have F2 := Lib.hid f2
        have F3 := Lib.hid hown'
        clear f1 f2 hown' hb'
        go_wp2_with fail
        go_roundw
        case rel => exact ⟨l ++ [⟨3 * (k : Int), f, u, d⟩], k + 1, g8, c8, by omega, by omega, by simp; omega, by simp, by simpa using hc8, by go_num, by simpa using F3.out, F1.out.mono (by omega), F2.out⟩
        case measure => simp [intOf]; omega
      · go_wp2_with fail
        go_roundw
        case rel => exact ⟨l, k + 1, g, c, by omega, by omega, by omega, rfl, hc, by go_num, HO2.out, HCw2.out.mono (by omega), HB2.out⟩
        case measure => simp [intOf]; omega
    · go_wp2_with fail
      refine (one_c 24 gc _ _ HR.out (by omega) (by omega) (by omega)).mono ?_
      rintro e w2 ⟨o, rfl, hcw2, hgw2⟩
      have HCw2 := Lib.hid hcw2
      have HGw2 := Lib.hid hgw2
      clear hcw2 hgw2
      have HO2 := Lib.hid (owns_grown HO.out HGw2.out HLT.out)
      have HB2 := Lib.hid (but_trans HB.out HGw2.out)
      clear HGw2 HO HB HR
      rcases o with _ | _
      · go_wp2_with fail
        go_ret
        exact ⟨g, c, l, rfl, hc, by omega, Own.of_row' HO2.out rfl rfl (fun _ => rfl), HCw2.out.mono (by omega), HB2.out⟩
      · go_wp2_with fail
        refine (among_c [0, 3, 99, 100] 0 100 gc _ _ _ _ HCw2.out (by omega) rfl rfl (by decide) (by decide) (by decide)).mono ?_
        rintro e w3 ⟨i, rfl, i1, i2, hcw3, hgw3⟩
        have HCw3 := Lib.hid hcw3
        have HGw3 := Lib.hid hgw3
        clear hcw3 hgw3
        go_wp2_with fail
        refine (among_c [0, -1, 390] (-1) 390 gc _ _ _ _ HCw3.out (by omega) rfl rfl (by decide) (by decide) (by decide)).mono ?_
        rintro e w4 ⟨f, rfl, f1, f2, hcw4, hgw4⟩
        have HCw4 := Lib.hid hcw4
        have HGw4 := Lib.hid hgw4
        clear hcw4 hgw4
        go_wp2_with fail
        refine (among_c [0, 1, 31] 0 31 gc _ _ _ _ HCw4.out (by omega) rfl rfl (by decide) (by decide) (by decide)).mono ?_
        rintro e w5 ⟨d, rfl, d1, d2, hcw5, hgw5⟩
        have HCw5 := Lib.hid hcw5
        have HGw5 := Lib.hid hgw5
        clear hcw5 hgw5
        go_wp2_with fail
        refine (among_c [400, 401, 5] 5 401 gc _ _ _ _ HCw5.out (by omega) rfl rfl (by decide) (by decide) (by decide)).mono ?_
        rintro e w6 ⟨u, rfl, u1, u2, hcw6, hgw6⟩
        have HCw6 := Lib.hid hcw6
        have HGw6 := Lib.hid hgw6
        clear hcw6 hgw6
        have HG := Lib.hid (but_trans (but_trans (but_trans HGw3.out HGw4.out) HGw5.out) HGw6.out)
        have HO6 := Lib.hid (owns_grown HO2.out HG.out HLT.out)
        have HB6 := Lib.hid (but_trans HB2.out HG.out)
        have z6 := HB6.out.size
        clear HGw3 HGw4 HGw5 HGw6 HG HO2 HB2
        go_wp2_with (at_builtin; refine wpList_push2 _ rfl _ _ 25 rfl w.heap.size 50 (.agg #[.int .i64 0, .int .i64 0, .int .i64 0, .int .i64 0]) 4 32 Try.underlying25 info_tsk rfl (by decide) (by decide) _ _ _ rfl (HO6.out.alloc _) w6.heap.size (Tsk.cells ⟨i, f, u, d⟩) rfl rfl ?c1 ?c2 ?c3 ?c4 ?_)
        try case c1 =>
          intro j u hj
          match j, hj with
          | 0, hj => simp [Tsk.cells] at hj; subst hj; simp [go_sem]
          | 1, hj => simp [Tsk.cells] at hj; subst hj; simp [go_sem]
          | 2, hj => simp [Tsk.cells] at hj; subst hj; simp [go_sem]
          | 3, hj => simp [Tsk.cells] at hj; subst hj; simp [go_sem]
        case c2 => intro u hu; simp [Tsk.cells] at hu; rcases hu with rfl | rfl | rfl | rfl <;> rfl
        case c3 => omega
        case c4 => first | omega | (simp; omega)
        intro v' w' hown' hb' _
        rw [flat_tsk] at hown'
        obtain ⟨e1, e2⟩ := push_end HB6.out HCw6.out HLT.out (((Below.refl _ _).alloc z6 _).trans hb')
        obtain ⟨g8, c8, hv8, hc8⟩ := owns_at hown' (by omega)
        subst hv8
        have E1 := Lib.hid e1
        have E2 := Lib.hid e2
        have E3 := Lib.hid hown'
        clear e1 e2 hown' hb'
        go_wp2_with fail
        go_ret
        exact ⟨g8, c8, l ++ [⟨i, f, u, d⟩], by simp, by simpa using hc8, by simp; omega, Own.of_row' E3.out (by simp) rfl (fun _ => rfl), E1.out.mono (by omega), E2.out⟩
end Go.Proofs.Ytokddcnkfeimkaa
