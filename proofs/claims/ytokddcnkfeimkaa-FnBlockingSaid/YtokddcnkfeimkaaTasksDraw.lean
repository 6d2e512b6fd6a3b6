/- The arguments that the reference draws for the tasks' statements: a list of tasks of the call's own, a task's number, a task; no conditions. -/
import Derived.Test.YtokddcnkfeimkaaTasksD
namespace Go.Proofs.Ytokddcnkfeimkaa
open Go.RowKit

def TaskOnly (w : World) (e : Ending) (w' : World) : Prop := ∃ (g c : Nat) (l : List Tsk), e = .returned (.slice (some ⟨g, 0, none⟩) l.length c) ∧ l.length ≤ c ∧ l.length ≤ 7 ∧ Own w' w.heap.size 50 4 Tsk.cells (some ⟨g, 0, none⟩) l ∧ Below w.heap.size w w'
theorem drawAreTasks_c (A : Option Addr) (n cap : Nat) (w : World) (hk : Codes w A n) : Calls Try.prog 72 #[.slice A n cap] w (TaskOnly w) := by
  have HK := Lib.hid hk
  clear hk
  go_enter Try.func72, Try.ntmps72
  go_wp2_with fail
  refine (tasks_c w.heap.size 0 _ HK.out.cur (by omega)).mono ?_
  rintro e w1 ⟨g1, c1, l, rfl, hc1, hl, ho1, hcw1, hgw1⟩
  have HO := Lib.hid ho1
  have HCw1 := Lib.hid hcw1
  have HGw1 := Lib.hid hgw1
  clear ho1 hcw1 hgw1
  go_wp2_with fail
  go_ret
  exact ⟨g1, c1, l, rfl, hc1, hl, HO.out.less (by simp), draw_end HGw1.out⟩
theorem drawPlanByDue_c (A : Option Addr) (n cap : Nat) (w : World) (hk : Codes w A n) : Calls Try.prog 43 #[.slice A n cap] w (TaskOnly w) := by
  have HK := Lib.hid hk
  clear hk
  go_enter Try.func43, Try.ntmps43
  go_wp2_with fail
  refine (drawAreTasks_c _ _ _ _ HK.out).mono ?_
  rintro e w1 ⟨g1, c1, l, rfl, hc1, hl, ho1, hb1⟩
  have HO := Lib.hid ho1
  have HB := Lib.hid hb1
  clear ho1 hb1
  go_wp2_with fail
  go_ret
  exact ⟨g1, c1, l, rfl, hc1, hl, HO.out, HB.out⟩
theorem drawEarliestEnd_c (A : Option Addr) (n cap : Nat) (w : World) (hk : Codes w A n) : Calls Try.prog 52 #[.slice A n cap] w (TaskOnly w) := by
  have HK := Lib.hid hk
  clear hk
  go_enter Try.func52, Try.ntmps52
  go_wp2_with fail
  refine (drawAreTasks_c _ _ _ _ HK.out).mono ?_
  rintro e w1 ⟨g1, c1, l, rfl, hc1, hl, ho1, hb1⟩
  have HO := Lib.hid ho1
  have HB := Lib.hid hb1
  clear ho1 hb1
  go_wp2_with fail
  go_ret
  exact ⟨g1, c1, l, rfl, hc1, hl, HO.out, HB.out⟩
theorem drawBlockingTasks_c (A : Option Addr) (n cap : Nat) (w : World) (hk : Codes w A n) : Calls Try.prog 47 #[.slice A n cap] w (TaskOnly w) := by
  have HK := Lib.hid hk
  clear hk
  go_enter Try.func47, Try.ntmps47
  go_wp2_with fail
  refine (drawAreTasks_c _ _ _ _ HK.out).mono ?_
  rintro e w1 ⟨g1, c1, l, rfl, hc1, hl, ho1, hb1⟩
  have HO := Lib.hid ho1
  have HB := Lib.hid hb1
  clear ho1 hb1
  go_wp2_with fail
  go_ret
  exact ⟨g1, c1, l, rfl, hc1, hl, HO.out, HB.out⟩
def SlackArgs (w : World) (e : Ending) (w' : World) : Prop := ∃ (g c : Nat) (l : List Tsk) (i : Int), e = .returned (.tuple #[.slice (some ⟨g, 0, none⟩) l.length c, .int .i64 i]) ∧ l.length ≤ 7 ∧ Own w' w.heap.size 50 4 Tsk.cells (some ⟨g, 0, none⟩) l ∧ Below w.heap.size w w'
set_option maxHeartbeats 4000000 in
theorem drawSlackOf_c (A : Option Addr) (n cap : Nat) (w : World) (hk : Codes w A n) : Calls Try.prog 51 #[.slice A n cap] w (SlackArgs w) := by
  have HK := Lib.hid hk
  clear hk
  go_enter Try.func51, Try.ntmps51
  go_wp2_with fail
  refine (tasks_c w.heap.size 0 _ HK.out.cur (by omega)).mono ?_
  rintro e w1 ⟨g1, c1, l, rfl, hc1, hl, ho1, hcw1, hgw1⟩
  have HO := Lib.hid ho1
  have HCw1 := Lib.hid hcw1
  have HGw1 := Lib.hid hgw1
  clear ho1 hcw1 hgw1
  have HLT := Lib.hid (show w.heap.size < w1.heap.size from HCw1.out.lt)
  by_cases h0 : 0 < l.length
  · go_wp2_with fail
    refine (one_c 8 _ _ _ HCw1.out (by omega) (by omega) (by omega)).mono ?_
    rintro e w2 ⟨o, rfl, hcw2, hgw2⟩
    have HCw2 := Lib.hid hcw2
    have HGw2 := Lib.hid hgw2
    clear hcw2 hgw2
    have HO2 := Lib.hid (HO.out.grown HGw2.out (by simp))
    have HB2 := Lib.hid (but_trans HGw1.out HGw2.out)
    clear HGw2 HGw1 HO
    rcases o with _ | _
    · go_wp2_with fail
      go_region_with (first
        | (go_at_call 75; refine (pick_c (l.length : Int) w.heap.size _ _ (HCw2.out.carry (Below.refl _ _).drew) (by omega) (by omega) (by omega)).mono ?_; rintro e w3 ⟨v, rfl, v1, v2, hc3, hg3⟩; obtain ⟨q, rfl⟩ : ∃ q : Nat, v = (q : Int) := ⟨v.toNat, by omega⟩; have hql : q < l.length := (by omega); have HO3 := Lib.hid ((HO2.out.carry (Below.refl _ _).drew).grown hg3 (by simp)); obtain ⟨b, off, he, hb3, q0, q1, q2, q3⟩ := Tsk.rd (HO3.out.rd fun _ => rfl) hql; cases he; simp only [Nat.zero_add] at q0 q1 q2 q3; have hqi : (q : Int) < l.length := (by omega); have HB3 := Lib.hid (but_trans (but_below HB2.out (Below.refl _ _).drew) hg3)))
      all_goals go_wp2_with fail
      all_goals exact bodyPost_ret (v := .tuple #[.slice (some ⟨g1, 0, none⟩) l.length c1, .int .i64 (nth l q).i]) (by simp [results, Try.results51, go_sem]) rfl ⟨g1, c1, l, _, rfl, hl, HO3.out.less (by simp), draw_end HB3.out⟩
    · go_wp2_with fail
      refine (among_c [0, 1, 99] 0 99 _ _ _ _ _ HCw2.out (by omega) rfl rfl (by decide) (by decide) (by decide)).mono ?_
      rintro e w3 ⟨i, rfl, i1, i2, hcw3, hgw3⟩
      have HCw3 := Lib.hid hcw3
      have HGw3 := Lib.hid hgw3
      clear hcw3 hgw3
      have HO3 := Lib.hid (HO2.out.grown HGw3.out (by simp))
      have HB3 := Lib.hid (but_trans HB2.out HGw3.out)
      go_wp2_with fail
      exact bodyPost_ret (v := .tuple #[.slice (some ⟨g1, 0, none⟩) l.length c1, .int .i64 i]) (by simp [results, Try.results51, go_sem]) rfl ⟨g1, c1, l, i, rfl, hl, HO3.out.less (by simp), draw_end HB3.out⟩
  · go_wp2_with fail
    refine (among_c [0, 1, 99] 0 99 _ _ _ _ _ HCw1.out (by omega) rfl rfl (by decide) (by decide) (by decide)).mono ?_
    rintro e w3 ⟨i, rfl, i1, i2, hcw3, hgw3⟩
    have HCw3 := Lib.hid hcw3
    have HGw3 := Lib.hid hgw3
    clear hcw3 hgw3
    have HO3 := Lib.hid (HO.out.grown HGw3.out (by simp))
    have HB3 := Lib.hid (but_trans HGw1.out HGw3.out)
    go_wp2_with fail
    exact bodyPost_ret (v := .tuple #[.slice (some ⟨g1, 0, none⟩) l.length c1, .int .i64 i]) (by simp [results, Try.results51, go_sem]) rfl ⟨g1, c1, l, i, rfl, hl, HO3.out.less (by simp), draw_end HB3.out⟩
def AddArgs (w : World) (e : Ending) (w' : World) : Prop := ∃ (g c : Nat) (l : List Tsk) (x : Tsk), e = .returned (.tuple #[.slice (some ⟨g, 0, none⟩) l.length c, .agg #[.int .i64 x.i, .int .i64 x.f, .int .i64 x.u, .int .i64 x.d]]) ∧ l.length ≤ c ∧ l.length ≤ 7 ∧ Own w' w.heap.size 50 4 Tsk.cells (some ⟨g, 0, none⟩) l ∧ Below w.heap.size w w'
set_option maxHeartbeats 4000000 in
theorem drawAddTask_c (A : Option Addr) (n cap : Nat) (w : World) (hk : Codes w A n) : Calls Try.prog 49 #[.slice A n cap] w (AddArgs w) := by
  have HK := Lib.hid (hk.carry ((Below.refl _ _).alloc (Nat.le_refl _) (.cells #[.int .i64 0, .int .i64 0, .int .i64 0, .int .i64 0] 50)))
  have HX := Lib.hid (Box.new w [.int .i64 0, .int .i64 0, .int .i64 0, .int .i64 0] 50)
  clear hk
  have HC := Lib.hid (by have h := HK.out.cur (cap := cap); rw [World.size_alloc] at h; exact h : Cur ((w.alloc (.cells #[.int .i64 0, .int .i64 0, .int .i64 0, .int .i64 0] 50)).alloc (.cells #[.slice A n cap, .int .i64 0, .int .u64 0] 81)) (w.heap.size + 1) 0)
  go_enter Try.func49, Try.ntmps49
  go_wp2_with fail
  refine (tasks_c (w.heap.size + 1) 0 _ HC.out (by omega)).mono ?_
  rintro e w1 ⟨g1, c1, l, rfl, hc1, hl, ho1, hcw1, hgw1⟩
  have HO := Lib.hid ho1
  have HCw1 := Lib.hid hcw1
  have HGw1 := Lib.hid hgw1
  clear ho1 hcw1 hgw1
  go_wp2_with fail
  refine (among_c [1, 4, 10, 20, 3, 0] 0 20 _ _ _ _ _ HCw1.out (by omega) rfl rfl (by decide) (by decide) (by decide)).mono ?_
  rintro e w2 ⟨i, rfl, i1, i2, hcw2, hgw2⟩
  have HCw2 := Lib.hid hcw2
  have HGw2 := Lib.hid hgw2
  clear hcw2 hgw2
  go_wp2_with fail
  refine (among_c [0, 5, 40] 0 40 _ _ _ _ _ HCw2.out (by omega) rfl rfl (by decide) (by decide) (by decide)).mono ?_
  rintro e w3 ⟨f, rfl, f1, f2, hcw3, hgw3⟩
  have HCw3 := Lib.hid hcw3
  have HGw3 := Lib.hid hgw3
  clear hcw3 hgw3
  go_wp2_with fail
  refine (among_c [1, 4, 10, 0] 0 10 _ _ _ _ _ HCw3.out (by omega) rfl rfl (by decide) (by decide) (by decide)).mono ?_
  rintro e w4 ⟨d, rfl, d1, d2, hcw4, hgw4⟩
  have HCw4 := Lib.hid hcw4
  have HGw4 := Lib.hid hgw4
  clear hcw4 hgw4
  go_wp2_with fail
  refine (among_c [8, 20, 60, 400, 401] 8 401 _ _ _ _ _ HCw4.out (by omega) rfl rfl (by decide) (by decide) (by decide)).mono ?_
  rintro e w5 ⟨u, rfl, u1, u2, hcw5, hgw5⟩
  have HCw5 := Lib.hid hcw5
  have HGw5 := Lib.hid hgw5
  clear hcw5 hgw5
  have HG := Lib.hid (but_trans (but_trans (but_trans HGw2.out HGw3.out) HGw4.out) HGw5.out)
  have HO5 := Lib.hid (HO.out.grown HG.out (by simp))
  have hbx := ((HX.out.alloc (.cells #[.slice A n cap, .int .i64 0, .int .u64 0] 81)).grown HGw1.out (by omega)).grown HG.out (by omega)
  have k0 := hbx.cell (j := 0) rfl
  have k1 := hbx.cell (j := 1) rfl
  have k2 := hbx.cell (j := 2) rfl
  have k3 := hbx.cell (j := 3) rfl
  have hfz := hbx.frozen
  have HB5 := Lib.hid (show Below w.heap.size w w5 from (((Below.refl _ _).alloc (Nat.le_refl _) _).alloc (by simp) _).trans ((grown_below HGw1.out (by omega) (by simp; omega)).trans (grown_below HG.out (by omega) (by have := HGw1.out.size; simp at this; omega))))
  clear hbx
  go_wp2_with fail
  have HS := Lib.hid (fun u0 u1 u2 u3 : Value => grown_set (s := 3) (v := u3) (grown_set (s := 2) (v := u2) (grown_set (s := 1) (v := u1) (grown_set (s := 0) (v := u0) (World.grownBy.refl w5 (some w.heap.size))))))
  exact bodyPost_ret (v := .tuple #[.slice (some ⟨g1, 0, none⟩) l.length c1, .agg #[.int .i64 i, .int .i64 f, .int .i64 u, .int .i64 d]]) (by simp [results, Try.results49, go_sem, k0, k1, k2, k3]) rfl
    ⟨g1, c1, l, ⟨i, f, u, d⟩, rfl, hc1, hl, (HO5.out.grown (HS.out _ _ _ _) (by simp; omega)).less (by simp; omega), (((HB5.out.setCell (p := ⟨w.heap.size, 0, none⟩) (Nat.le_refl _) _).setCell (p := ⟨w.heap.size, 1, none⟩) (Nat.le_refl _) _).setCell (p := ⟨w.heap.size, 2, none⟩) (Nat.le_refl _) _).setCell (p := ⟨w.heap.size, 3, none⟩) (Nat.le_refl _) _⟩
end Go.Proofs.Ytokddcnkfeimkaa
