/- The reference's AddTask returns the plain answer; no conditions but the length. -/
import Derived.Test.YtokddcnkfeimkaaAddImpl
import Derived.Test.YtokddcnkfeimkaaPut
namespace Go.Proofs.Ytokddcnkfeimkaa
open Go.RowKit Go.Lib

theorem good_n (l : List Tsk) (n : Nat) (A : Option Addr) (cap : Nat) (w : World) (hn : l.length = n) (hl : n ≤ 1048576) (hr : Rd w w.heap.size 4 Tsk.cells A l) :
    Calls Try.prog 53 #[.slice A n cap] w fun e w' => e = .returned (.bool (goodK l)) ∧ Below w.heap.size w w' := by
  subst hn
  exact l16Good_c l A cap w hl hr
theorem has16_n (l : List Tsk) (n : Nat) (A : Option Addr) (cap : Nat) (w : World) (hn : l.length = n) (hg : l.length ≤ 8 ∧ ∀ i, i < l.length → okK (nth l i) = true) (hr : Rd w w.heap.size 4 Tsk.cells A l) :
    Calls Try.prog 57 #[.slice A n cap] w fun e w' => e = .returned (.bool (has l)) ∧ Below w.heap.size w w' := by
  subst hn
  exact l16Has_c l A cap w hr hg
theorem no_newsT {l : List Tsk} {k : Nat} {P : Nat → Value → Prop} (h : l.length ≤ k) : ∀ j u, (flat Tsk.cells (l.drop k))[j]? = some u → P j u := fun j u hj => by
  rw [List.drop_eq_nil_of_le h] at hj
  simp [flat] at hj
set_option maxHeartbeats 3200000 in
theorem specAddTask_c (l : List Tsk) (x : Tsk) (b off cap : Nat) (w : World) (hl : l.length ≤ 1048576) (hcap : l.length ≤ cap) (hr : Rd w w.heap.size 4 Tsk.cells (some ⟨b, off, none⟩) l) :
    Calls Try.prog 38 #[.slice (some ⟨b, off, none⟩) l.length cap, .agg #[.int .i64 x.i, .int .i64 x.f, .int .i64 x.u, .int .i64 x.d]] w (ListPostT (addP l x) w) := by
  have hX := Box.new w x.cells 50
  have HX := Lib.hid hX
  have HR0 := Lib.hid (hr.alloc (.cells x.cells.toArray 50))
  clear hX hr
  go_enter Try.func38, Try.ntmps38
  go_wp2_with fail
  go_loopw [6] (fun i wr => ∃ k : Nat, k ≤ l.length ∧ i = .int .i64 k ∧ (∀ j, j < k → (nth l j).i < x.i) ∧ Below w.heap.size w wr ∧ Box wr w.heap.size 50 4 x.cells ∧ Rd wr wr.heap.size 4 Tsk.cells (some ⟨b, off, none⟩) l) (fun i _ => l.length - (intOf i).toNat)
  case atStart => exact ⟨0, Nat.zero_le _, rfl, fun j hj => absurd hj (by omega), (by repeat (first | (with_reducible exact Below.refl _ _) | ((with_reducible refine alloc_ ?_ ?_); (focus (first | exact Nat.le_refl _ | (simp; done) | (simp; omega) | omega))) | ((with_reducible refine set_ ?_ ?_); (focus (first | exact Nat.le_refl _ | (simp; done) | (simp; omega) | omega))) | (with_reducible refine Below.drew ?_) | ((with_reducible refine after_ ?_ (by assumption) ?_); (rotate_left; (focus (first | exact Nat.le_refl _ | (simp; done) | (simp; omega) | omega)))))), HX.out, HR0.out⟩
  case round =>
    obtain ⟨k, hk, rfl, hall, hbel, hbx, hrd⟩ := hrel
    have HB := Lib.hid hbel
    have HA := Lib.hid hall
    have HBx := Lib.hid hbx
    have HR := Lib.hid hrd
    have z1 := hbel.size
    have hxl := hbx.lt
    have y0 := hbx.cell (j := 0) rfl
    have y1 := hbx.cell (j := 1) rfl
    have y2 := hbx.cell (j := 2) rfl
    have y3 := hbx.cell (j := 3) rfl
    clear hall hbel hbx
    by_cases hc : k < l.length ∧ (nth l k).i < x.i
    · obtain ⟨hlt, hlx⟩ := hc
      obtain ⟨b', off', he, hb, hc0, hc1, hc2, hc3⟩ := Tsk.rd hrd hlt
      simp only [Option.some.injEq, Addr.mk.injEq, and_true] at he
      obtain ⟨rfl, rfl⟩ := he
      have H1 := Lib.hid (below_add (p := fun j => (nth l j).i < x.i) HA.out hlx)
      have i2 : (k : Int) < l.length := by omega
      clear hrd
      go_wp2_with fail
      refine wp_region_mem (by kernel_rfl) (by kernel_rfl) ?_
      repeat (go_big_quiet_step (fail))
      refine wpQuiet_nil ?_
      intro _ hw'
      obtain ⟨⟨wq, hbq⟩, hw''⟩ := hw'
      obtain rfl := hw''.symm
      obtain ⟨hcq, hfq, hzq⟩ := bcell hbq
      try simp [Nat.add_one_le_iff] at hzq
      go_wp2_with fail
      go_roundw
      case rel => exact ⟨k + 1, by omega, by go_num, H1.out, HB.out.trans (hbq.mono z1), HBx.out.carry hbq, HR.out.carry hbq⟩
      case measure => simp [intOf]; omega
    · have HK := Lib.hid (scan_eq (l := l) (x := x) (k := k) hk HA.out fun h hx => hc ⟨h, hx⟩)
      by_cases hlt : k < l.length
      · have hlx : decide ((nth l k).i < x.i) = false := decide_eq_false fun h => hc ⟨hlt, h⟩
        obtain ⟨b', off', he, hb, hc0, hc1, hc2, hc3⟩ := Tsk.rd hrd hlt
        simp only [Option.some.injEq, Addr.mk.injEq, and_true] at he
        obtain ⟨rfl, rfl⟩ := he
        have i2 : (k : Int) < l.length := by omega
        clear hrd hc
        go_wp2_with fail
        refine wp_region_mem (by kernel_rfl) (by kernel_rfl) ?_
        repeat (go_big_quiet_step (fail))
        refine wpQuiet_nil ?_
        intro _ hw'
        obtain ⟨⟨wq, hbq⟩, hw''⟩ := hw'
        obtain rfl := hw''.symm
        obtain ⟨hcq, hfq, hzq⟩ := bcell hbq
        try simp [Nat.add_one_le_iff] at hzq
        have HBq := Lib.hid (HB.out.trans (hbq.mono z1))
        have HBxq := Lib.hid (HBx.out.carry hbq)
        have HRq := Lib.hid (HR.out.carry hbq)
        have hxq := HBxq.out.lt
        have q0 := HBxq.out.cell (j := 0) rfl
        have q1 := HBxq.out.cell (j := 1) rfl
        have q2 := HBxq.out.cell (j := 2) rfl
        have q3 := HBxq.out.cell (j := 3) rfl
        obtain ⟨n4, hn4⟩ : ∃ n4, l.length + 1 = n4 := ⟨_, rfl⟩
        have HN := Lib.hid (show (ins l x).length = n4 by rw [ins_len]; exact hn4)
        go_wp2_with fail
        have s3 : (k : Int) ≤ l.length := by omega
        have s4 : (k : Int) ≤ cap := by omega
        have s5 : (k : Int) ≤ (k : Int) := by omega
        have hcj : ¬ cap = k := by omega
        go_region_law (first
          | (refine step_extend rfl (.tmp 24) (.tmp 27) 25 rfl wq.heap.size 50 _ 4 32 Try.underlying25 info_Task rfl (by decide) (by decide) _ 0 [] rfl ?_ b off k _ (flat Tsk.cells (l.take k)) rfl ?_ ((HRq.out.take k).news (by repeat (first | (with_reducible exact Below.refl _ _) | ((with_reducible refine alloc_ ?_ ?_); (focus (first | exact Nat.le_refl _ | (simp; done) | (simp; omega) | omega))) | ((with_reducible refine set_ ?_ ?_); (focus (first | exact Nat.le_refl _ | (simp; done) | (simp; omega) | omega))) | (with_reducible refine Below.drew ?_) | ((with_reducible refine after_ ?_ (by assumption) ?_); (rotate_left; (focus (first | exact Nat.le_refl _ | (simp; done) | (simp; omega) | omega)))))) Tsk.four (by decide)) (flat_cells Tsk.ones _) ?_ ?_ ?_; (focus (first | exact oe1 (Nat.le_refl _) | exact oe2 (Nat.le_refl _) | exact oe3 (Nat.le_refl _))); (focus (rw [flat_len Tsk.four, List.length_take]; omega)); (focus omega); (focus (first | omega | (simp; done) | (simp; omega))); intro v1 w1 hown1 hb1 hk1; have hz1 := hb1.size; (try simp at hz1); have HW1 := Lib.hid (show Below wq.heap.size wq w1 from (by repeat (first | (with_reducible exact Below.refl _ _) | ((with_reducible refine alloc_ ?_ ?_); (focus (first | exact Nat.le_refl _ | (simp; done) | (simp; omega) | omega))) | ((with_reducible refine set_ ?_ ?_); (focus (first | exact Nat.le_refl _ | (simp; done) | (simp; omega) | omega))) | (with_reducible refine Below.drew ?_) | ((with_reducible refine after_ ?_ (by assumption) ?_); (rotate_left; (focus (first | exact Nat.le_refl _ | (simp; done) | (simp; omega) | omega))))))); have e0 := (HBxq.out.below HW1.out hxq).cell (j := 0) rfl; have e1 := (HBxq.out.below HW1.out hxq).cell (j := 1) rfl; have e2 := (HBxq.out.below HW1.out hxq).cell (j := 2) rfl; have e3 := (HBxq.out.below HW1.out hxq).cell (j := 3) rfl)
          | (refine step_extend rfl (.tmp 28) (.tmp 30) 25 rfl wq.heap.size 50 _ 4 32 Try.underlying25 info_Task rfl (by decide) (by decide) _ ?_ ?_ rfl ?_ _ _ _ _ (flat Tsk.cells [x]) rfl rfl ?_ ?_ ?_ ?_ ?_; rotate_left 2; (focus (first | exact hown1 | exact hown1.alloc _)); (focus (first | exact news_one (cs := x.cells.toArray) (heap_alloc_new _ _) | exact news_one (cs := x.cells.toArray) (nk2 hk1) | exact news_one (cs := x.cells.toArray) (nk3 hk1))); (focus exact flat_cells Tsk.ones [x]); (focus omega); (focus (first | omega | (simp; omega))); intro v2 w2 hown2 hb2 hk2; have hz2 := hb2.size; (try simp at hz2))
          | (refine step_extend rfl (.tmp 31) (.tmp 34) 25 rfl wq.heap.size 50 _ 4 32 Try.underlying25 info_Task rfl (by decide) (by decide) _ _ _ rfl hown2 b (off + k * 4) (l.length - k) _ (flat Tsk.cells (l.drop k)) rfl ?_ ((HRq.out.drop k).news (by repeat (first | (with_reducible exact Below.refl _ _) | ((with_reducible refine alloc_ ?_ ?_); (focus (first | exact Nat.le_refl _ | (simp; done) | (simp; omega) | omega))) | ((with_reducible refine set_ ?_ ?_); (focus (first | exact Nat.le_refl _ | (simp; done) | (simp; omega) | omega))) | (with_reducible refine Below.drew ?_) | ((with_reducible refine after_ ?_ (by assumption) ?_); (rotate_left; (focus (first | exact Nat.le_refl _ | (simp; done) | (simp; omega) | omega)))))) Tsk.four (by decide)) (flat_cells Tsk.ones _) ?_ ?_ ?_; (focus (rw [flat_len Tsk.four, List.length_drop] <;> omega)); (focus omega); (focus (first | omega | (simp; omega))); intro v3 w3 hown3 hb3 hk3; have hz3 := hb3.size))
        all_goals
          clear s3 s4 s5
          try clear hcj
          rw [show 0 + k + 1 + (l.length - k) = n4 by omega] at hown3
          obtain ⟨A3, cap3, rfl⟩ := ownsRow_shape hown3
          have HO3 := Lib.hid (own_flat (l := ins l x) hown3 HN.out.symm (by unfold ins; rw [HK.out]; simp [flat]) Tsk.four)
          have HW3 := Lib.hid (show Below wq.heap.size wq w3 from (by repeat (first | (with_reducible exact Below.refl _ _) | ((with_reducible refine alloc_ ?_ ?_); (focus (first | exact Nat.le_refl _ | (simp; done) | (simp; omega) | omega))) | ((with_reducible refine set_ ?_ ?_); (focus (first | exact Nat.le_refl _ | (simp; done) | (simp; omega) | omega))) | (with_reducible refine Below.drew ?_) | ((with_reducible refine after_ ?_ (by assumption) ?_); (rotate_left; (focus (first | exact Nat.le_refl _ | (simp; done) | (simp; omega) | omega)))))))
          have HR3 := Lib.hid (HRq.out.carry HW3.out)
          have HB3 := Lib.hid (HBq.out.trans (HW3.out.mono HBq.out.size))
          clear hown3 hown2 hown1 hb1 hb2 hb3 hk1 hk2 hk3 e0 e1 e2 e3 y0 y1 y2 y3 hz1 hz2 hz3 HW1
          go_wp2_with fail
          refine (l16Good_c l _ _ _ hl HR3.out).mono ?_
          rintro e w4 ⟨rfl, hb4⟩
          have HO4 := Lib.hid (HO3.out.carry hb4)
          have HB4 := Lib.hid (HB3.out.trans (hb4.mono HB3.out.size))
          clear hb4
          rcases hg : goodK l with _ | _
          · have H := Lib.hid (show addP l x = ([], false) by simp [addP, hg])
            go_wp2_with fail
            go_ret2
            exact ⟨_, 0, retl H.out, by rw [H.out]; exact Own.nil, HB4.out.alloc HB4.out.size _⟩
          have HG := Lib.hid hg
          have hl8 := (goodK_true hg).1
          have hn8 : n4 ≤ 9 := by have h := HN.out; rw [ins_len] at h; omega
          clear hg
          go_wp2_with fail
          refine (good_n (ins l x) n4 A3 cap3 w4 HN.out (by omega) (HO4.out.rd Tsk.four)).mono ?_
          rintro e w5 ⟨rfl, hb5⟩
          have HO5 := Lib.hid (HO4.out.carry hb5)
          have HB5 := Lib.hid (HB4.out.trans (hb5.mono HB4.out.size))
          clear hb5
          rcases hg2 : goodK (ins l x) with _ | _
          · have H := Lib.hid (show addP l x = ([], false) by simp [addP, hg2])
            go_wp2_with fail
            go_ret2
            exact ⟨_, 0, retl H.out, by rw [H.out]; exact Own.nil, HB5.out.alloc HB5.out.size _⟩
          have HG2 := Lib.hid hg2
          clear hg2
          go_wp2_with fail
          refine (has16_n (ins l x) n4 A3 cap3 w5 HN.out (goodK_true HG2.out) (HO5.out.rd Tsk.four)).mono ?_
          rintro e w6 ⟨rfl, hb6⟩
          have HO6 := Lib.hid ((HO5.out.carry hb6).less (B := w.heap.size) HBq.out.size)
          have HB6 := Lib.hid (HB5.out.trans (hb6.mono HB5.out.size))
          clear hb6
          rcases hh : has (ins l x) with _ | _
          · have H := Lib.hid (show addP l x = ([], false) by simp [addP, hh])
            go_wp2_with fail
            go_ret2
            exact ⟨_, 0, retl H.out, by rw [H.out]; exact Own.nil, HB6.out.alloc HB6.out.size _⟩
          · have H := Lib.hid (show addP l x = (ins l x, true) by simp [addP, HG.out, HG2.out, hh])
            go_wp2_with fail
            go_ret2
            exact ⟨A3, cap3, by rw [H.out]; simp only [HN.out]; rfl, by rw [H.out]; exact HO6.out, HB6.out⟩
      · clear hrd hc
        go_wp2_with fail
        refine wp_region_mem (by kernel_rfl) (by kernel_rfl) ?_
        repeat (go_big_quiet_step (fail))
        refine wpQuiet_nil ?_
        intro _ hw'
        obtain ⟨⟨wq, hbq⟩, hw''⟩ := hw'
        obtain rfl := hw''.symm
        obtain ⟨hcq, hfq, hzq⟩ := bcell hbq
        try simp [Nat.add_one_le_iff] at hzq
        have HBq := Lib.hid (HB.out.trans (hbq.mono z1))
        have HBxq := Lib.hid (HBx.out.carry hbq)
        have HRq := Lib.hid (HR.out.carry hbq)
        have hxq := HBxq.out.lt
        have q0 := HBxq.out.cell (j := 0) rfl
        have q1 := HBxq.out.cell (j := 1) rfl
        have q2 := HBxq.out.cell (j := 2) rfl
        have q3 := HBxq.out.cell (j := 3) rfl
        obtain ⟨n4, hn4⟩ : ∃ n4, l.length + 1 = n4 := ⟨_, rfl⟩
        have HN := Lib.hid (show (ins l x).length = n4 by rw [ins_len]; exact hn4)
        go_wp2_with fail
        have s3 : (k : Int) ≤ l.length := by omega
        have s4 : (k : Int) ≤ cap := by omega
        have s5 : (k : Int) ≤ (k : Int) := by omega
        by_cases hcj : cap = k
        case pos =>
          have hcj2 := hcj.symm
          subst hcj2
          go_region_law (first
            | (refine step_extend rfl (.tmp 24) (.tmp 27) 25 rfl wq.heap.size 50 _ 4 32 Try.underlying25 info_Task rfl (by decide) (by decide) _ 0 [] rfl ?_ b off k _ (flat Tsk.cells (l.take k)) rfl ?_ ((HRq.out.take k).news (by repeat (first | (with_reducible exact Below.refl _ _) | ((with_reducible refine alloc_ ?_ ?_); (focus (first | exact Nat.le_refl _ | (simp; done) | (simp; omega) | omega))) | ((with_reducible refine set_ ?_ ?_); (focus (first | exact Nat.le_refl _ | (simp; done) | (simp; omega) | omega))) | (with_reducible refine Below.drew ?_) | ((with_reducible refine after_ ?_ (by assumption) ?_); (rotate_left; (focus (first | exact Nat.le_refl _ | (simp; done) | (simp; omega) | omega)))))) Tsk.four (by decide)) (flat_cells Tsk.ones _) ?_ ?_ ?_; (focus (first | exact oe1 (Nat.le_refl _) | exact oe2 (Nat.le_refl _) | exact oe3 (Nat.le_refl _))); (focus (rw [flat_len Tsk.four, List.length_take]; omega)); (focus omega); (focus (first | omega | (simp; done) | (simp; omega))); intro v1 w1 hown1 hb1 hk1; have hz1 := hb1.size; (try simp at hz1); have HW1 := Lib.hid (show Below wq.heap.size wq w1 from (by repeat (first | (with_reducible exact Below.refl _ _) | ((with_reducible refine alloc_ ?_ ?_); (focus (first | exact Nat.le_refl _ | (simp; done) | (simp; omega) | omega))) | ((with_reducible refine set_ ?_ ?_); (focus (first | exact Nat.le_refl _ | (simp; done) | (simp; omega) | omega))) | (with_reducible refine Below.drew ?_) | ((with_reducible refine after_ ?_ (by assumption) ?_); (rotate_left; (focus (first | exact Nat.le_refl _ | (simp; done) | (simp; omega) | omega))))))); have e0 := (HBxq.out.below HW1.out hxq).cell (j := 0) rfl; have e1 := (HBxq.out.below HW1.out hxq).cell (j := 1) rfl; have e2 := (HBxq.out.below HW1.out hxq).cell (j := 2) rfl; have e3 := (HBxq.out.below HW1.out hxq).cell (j := 3) rfl)
            | (refine step_extend rfl (.tmp 28) (.tmp 30) 25 rfl wq.heap.size 50 _ 4 32 Try.underlying25 info_Task rfl (by decide) (by decide) _ ?_ ?_ rfl ?_ _ _ _ _ (flat Tsk.cells [x]) rfl rfl ?_ ?_ ?_ ?_ ?_; rotate_left 2; (focus (first | exact hown1 | exact hown1.alloc _)); (focus (first | exact news_one (cs := x.cells.toArray) (heap_alloc_new _ _) | exact news_one (cs := x.cells.toArray) (nk2 hk1) | exact news_one (cs := x.cells.toArray) (nk3 hk1))); (focus exact flat_cells Tsk.ones [x]); (focus omega); (focus (first | omega | (simp; omega))); intro v2 w2 hown2 hb2 hk2; have hz2 := hb2.size; (try simp at hz2))
            | (refine step_extend rfl (.tmp 31) (.tmp 34) 25 rfl wq.heap.size 50 _ 4 32 Try.underlying25 info_Task rfl (by decide) (by decide) _ _ _ rfl hown2 b (off) (0) _ (flat Tsk.cells (l.drop k)) rfl ?_ (no_newsT (by omega)) (flat_cells Tsk.ones _) ?_ ?_ ?_; (focus (rw [flat_len Tsk.four, List.length_drop] <;> omega)); (focus omega); (focus (first | omega | (simp; omega))); intro v3 w3 hown3 hb3 hk3; have hz3 := hb3.size))
          all_goals
            clear s3 s4 s5
            try clear hcj
            rw [show 0 + k + 1 + (0) = n4 by omega] at hown3
            obtain ⟨A3, cap3, rfl⟩ := ownsRow_shape hown3
            have HO3 := Lib.hid (own_flat (l := ins l x) hown3 HN.out.symm (by unfold ins; rw [HK.out]; simp [flat]) Tsk.four)
            have HW3 := Lib.hid (show Below wq.heap.size wq w3 from (by repeat (first | (with_reducible exact Below.refl _ _) | ((with_reducible refine alloc_ ?_ ?_); (focus (first | exact Nat.le_refl _ | (simp; done) | (simp; omega) | omega))) | ((with_reducible refine set_ ?_ ?_); (focus (first | exact Nat.le_refl _ | (simp; done) | (simp; omega) | omega))) | (with_reducible refine Below.drew ?_) | ((with_reducible refine after_ ?_ (by assumption) ?_); (rotate_left; (focus (first | exact Nat.le_refl _ | (simp; done) | (simp; omega) | omega)))))))
            have HR3 := Lib.hid (HRq.out.carry HW3.out)
            have HB3 := Lib.hid (HBq.out.trans (HW3.out.mono HBq.out.size))
            clear hown3 hown2 hown1 hb1 hb2 hb3 hk1 hk2 hk3 e0 e1 e2 e3 y0 y1 y2 y3 hz1 hz2 hz3 HW1
            go_wp2_with fail
            refine (l16Good_c l _ _ _ hl HR3.out).mono ?_
            rintro e w4 ⟨rfl, hb4⟩
            have HO4 := Lib.hid (HO3.out.carry hb4)
            have HB4 := Lib.hid (HB3.out.trans (hb4.mono HB3.out.size))
            clear hb4
            rcases hg : goodK l with _ | _
            · have H := Lib.hid (show addP l x = ([], false) by simp [addP, hg])
              go_wp2_with fail
              go_ret2
              exact ⟨_, 0, retl H.out, by rw [H.out]; exact Own.nil, HB4.out.alloc HB4.out.size _⟩
            have HG := Lib.hid hg
            have hl8 := (goodK_true hg).1
            have hn8 : n4 ≤ 9 := by have h := HN.out; rw [ins_len] at h; omega
            clear hg
            go_wp2_with fail
            refine (good_n (ins l x) n4 A3 cap3 w4 HN.out (by omega) (HO4.out.rd Tsk.four)).mono ?_
            rintro e w5 ⟨rfl, hb5⟩
            have HO5 := Lib.hid (HO4.out.carry hb5)
            have HB5 := Lib.hid (HB4.out.trans (hb5.mono HB4.out.size))
            clear hb5
            rcases hg2 : goodK (ins l x) with _ | _
            · have H := Lib.hid (show addP l x = ([], false) by simp [addP, hg2])
              go_wp2_with fail
              go_ret2
              exact ⟨_, 0, retl H.out, by rw [H.out]; exact Own.nil, HB5.out.alloc HB5.out.size _⟩
            have HG2 := Lib.hid hg2
            clear hg2
            go_wp2_with fail
            refine (has16_n (ins l x) n4 A3 cap3 w5 HN.out (goodK_true HG2.out) (HO5.out.rd Tsk.four)).mono ?_
            rintro e w6 ⟨rfl, hb6⟩
            have HO6 := Lib.hid ((HO5.out.carry hb6).less (B := w.heap.size) HBq.out.size)
            have HB6 := Lib.hid (HB5.out.trans (hb6.mono HB5.out.size))
            clear hb6
            rcases hh : has (ins l x) with _ | _
            · have H := Lib.hid (show addP l x = ([], false) by simp [addP, hh])
              go_wp2_with fail
              go_ret2
              exact ⟨_, 0, retl H.out, by rw [H.out]; exact Own.nil, HB6.out.alloc HB6.out.size _⟩
            · have H := Lib.hid (show addP l x = (ins l x, true) by simp [addP, HG.out, HG2.out, hh])
              go_wp2_with fail
              go_ret2
              exact ⟨A3, cap3, by rw [H.out]; simp only [HN.out]; rfl, by rw [H.out]; exact HO6.out, HB6.out⟩
        case neg =>
          go_region_law (first
            | (refine step_extend rfl (.tmp 24) (.tmp 27) 25 rfl wq.heap.size 50 _ 4 32 Try.underlying25 info_Task rfl (by decide) (by decide) _ 0 [] rfl ?_ b off k _ (flat Tsk.cells (l.take k)) rfl ?_ ((HRq.out.take k).news (by repeat (first | (with_reducible exact Below.refl _ _) | ((with_reducible refine alloc_ ?_ ?_); (focus (first | exact Nat.le_refl _ | (simp; done) | (simp; omega) | omega))) | ((with_reducible refine set_ ?_ ?_); (focus (first | exact Nat.le_refl _ | (simp; done) | (simp; omega) | omega))) | (with_reducible refine Below.drew ?_) | ((with_reducible refine after_ ?_ (by assumption) ?_); (rotate_left; (focus (first | exact Nat.le_refl _ | (simp; done) | (simp; omega) | omega)))))) Tsk.four (by decide)) (flat_cells Tsk.ones _) ?_ ?_ ?_; (focus (first | exact oe1 (Nat.le_refl _) | exact oe2 (Nat.le_refl _) | exact oe3 (Nat.le_refl _))); (focus (rw [flat_len Tsk.four, List.length_take]; omega)); (focus omega); (focus (first | omega | (simp; done) | (simp; omega))); intro v1 w1 hown1 hb1 hk1; have hz1 := hb1.size; (try simp at hz1); have HW1 := Lib.hid (show Below wq.heap.size wq w1 from (by repeat (first | (with_reducible exact Below.refl _ _) | ((with_reducible refine alloc_ ?_ ?_); (focus (first | exact Nat.le_refl _ | (simp; done) | (simp; omega) | omega))) | ((with_reducible refine set_ ?_ ?_); (focus (first | exact Nat.le_refl _ | (simp; done) | (simp; omega) | omega))) | (with_reducible refine Below.drew ?_) | ((with_reducible refine after_ ?_ (by assumption) ?_); (rotate_left; (focus (first | exact Nat.le_refl _ | (simp; done) | (simp; omega) | omega))))))); have e0 := (HBxq.out.below HW1.out hxq).cell (j := 0) rfl; have e1 := (HBxq.out.below HW1.out hxq).cell (j := 1) rfl; have e2 := (HBxq.out.below HW1.out hxq).cell (j := 2) rfl; have e3 := (HBxq.out.below HW1.out hxq).cell (j := 3) rfl)
            | (refine step_extend rfl (.tmp 28) (.tmp 30) 25 rfl wq.heap.size 50 _ 4 32 Try.underlying25 info_Task rfl (by decide) (by decide) _ ?_ ?_ rfl ?_ _ _ _ _ (flat Tsk.cells [x]) rfl rfl ?_ ?_ ?_ ?_ ?_; rotate_left 2; (focus (first | exact hown1 | exact hown1.alloc _)); (focus (first | exact news_one (cs := x.cells.toArray) (heap_alloc_new _ _) | exact news_one (cs := x.cells.toArray) (nk2 hk1) | exact news_one (cs := x.cells.toArray) (nk3 hk1))); (focus exact flat_cells Tsk.ones [x]); (focus omega); (focus (first | omega | (simp; omega))); intro v2 w2 hown2 hb2 hk2; have hz2 := hb2.size; (try simp at hz2))
            | (refine step_extend rfl (.tmp 31) (.tmp 34) 25 rfl wq.heap.size 50 _ 4 32 Try.underlying25 info_Task rfl (by decide) (by decide) _ _ _ rfl hown2 b (off + k * 4) (l.length - k) _ (flat Tsk.cells (l.drop k)) rfl ?_ ((HRq.out.drop k).news (by repeat (first | (with_reducible exact Below.refl _ _) | ((with_reducible refine alloc_ ?_ ?_); (focus (first | exact Nat.le_refl _ | (simp; done) | (simp; omega) | omega))) | ((with_reducible refine set_ ?_ ?_); (focus (first | exact Nat.le_refl _ | (simp; done) | (simp; omega) | omega))) | (with_reducible refine Below.drew ?_) | ((with_reducible refine after_ ?_ (by assumption) ?_); (rotate_left; (focus (first | exact Nat.le_refl _ | (simp; done) | (simp; omega) | omega)))))) Tsk.four (by decide)) (flat_cells Tsk.ones _) ?_ ?_ ?_; (focus (rw [flat_len Tsk.four, List.length_drop] <;> omega)); (focus omega); (focus (first | omega | (simp; omega))); intro v3 w3 hown3 hb3 hk3; have hz3 := hb3.size))
          all_goals
            clear s3 s4 s5
            try clear hcj
            rw [show 0 + k + 1 + (l.length - k) = n4 by omega] at hown3
            obtain ⟨A3, cap3, rfl⟩ := ownsRow_shape hown3
            have HO3 := Lib.hid (own_flat (l := ins l x) hown3 HN.out.symm (by unfold ins; rw [HK.out]; simp [flat]) Tsk.four)
            have HW3 := Lib.hid (show Below wq.heap.size wq w3 from (by repeat (first | (with_reducible exact Below.refl _ _) | ((with_reducible refine alloc_ ?_ ?_); (focus (first | exact Nat.le_refl _ | (simp; done) | (simp; omega) | omega))) | ((with_reducible refine set_ ?_ ?_); (focus (first | exact Nat.le_refl _ | (simp; done) | (simp; omega) | omega))) | (with_reducible refine Below.drew ?_) | ((with_reducible refine after_ ?_ (by assumption) ?_); (rotate_left; (focus (first | exact Nat.le_refl _ | (simp; done) | (simp; omega) | omega)))))))
            have HR3 := Lib.hid (HRq.out.carry HW3.out)
            have HB3 := Lib.hid (HBq.out.trans (HW3.out.mono HBq.out.size))
            clear hown3 hown2 hown1 hb1 hb2 hb3 hk1 hk2 hk3 e0 e1 e2 e3 y0 y1 y2 y3 hz1 hz2 hz3 HW1
            go_wp2_with fail
            refine (l16Good_c l _ _ _ hl HR3.out).mono ?_
            rintro e w4 ⟨rfl, hb4⟩
            have HO4 := Lib.hid (HO3.out.carry hb4)
            have HB4 := Lib.hid (HB3.out.trans (hb4.mono HB3.out.size))
            clear hb4
            rcases hg : goodK l with _ | _
            · have H := Lib.hid (show addP l x = ([], false) by simp [addP, hg])
              go_wp2_with fail
              go_ret2
              exact ⟨_, 0, retl H.out, by rw [H.out]; exact Own.nil, HB4.out.alloc HB4.out.size _⟩
            have HG := Lib.hid hg
            have hl8 := (goodK_true hg).1
            have hn8 : n4 ≤ 9 := by have h := HN.out; rw [ins_len] at h; omega
            clear hg
            go_wp2_with fail
            refine (good_n (ins l x) n4 A3 cap3 w4 HN.out (by omega) (HO4.out.rd Tsk.four)).mono ?_
            rintro e w5 ⟨rfl, hb5⟩
            have HO5 := Lib.hid (HO4.out.carry hb5)
            have HB5 := Lib.hid (HB4.out.trans (hb5.mono HB4.out.size))
            clear hb5
            rcases hg2 : goodK (ins l x) with _ | _
            · have H := Lib.hid (show addP l x = ([], false) by simp [addP, hg2])
              go_wp2_with fail
              go_ret2
              exact ⟨_, 0, retl H.out, by rw [H.out]; exact Own.nil, HB5.out.alloc HB5.out.size _⟩
            have HG2 := Lib.hid hg2
            clear hg2
            go_wp2_with fail
            refine (has16_n (ins l x) n4 A3 cap3 w5 HN.out (goodK_true HG2.out) (HO5.out.rd Tsk.four)).mono ?_
            rintro e w6 ⟨rfl, hb6⟩
            have HO6 := Lib.hid ((HO5.out.carry hb6).less (B := w.heap.size) HBq.out.size)
            have HB6 := Lib.hid (HB5.out.trans (hb6.mono HB5.out.size))
            clear hb6
            rcases hh : has (ins l x) with _ | _
            · have H := Lib.hid (show addP l x = ([], false) by simp [addP, hh])
              go_wp2_with fail
              go_ret2
              exact ⟨_, 0, retl H.out, by rw [H.out]; exact Own.nil, HB6.out.alloc HB6.out.size _⟩
            · have H := Lib.hid (show addP l x = (ins l x, true) by simp [addP, HG.out, HG2.out, hh])
              go_wp2_with fail
              go_ret2
              exact ⟨A3, cap3, by rw [H.out]; simp only [HN.out]; rfl, by rw [H.out]; exact HO6.out, HB6.out⟩
end Go.Proofs.Ytokddcnkfeimkaa
