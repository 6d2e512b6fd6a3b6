/- CabinsIn and MoveCabin of the reference return the plain answers, and two lists of cabins that are one; no conditions but the length. -/
import Derived.Test.YteoajaichjojdaaDoorCbnMove
import Derived.Test.YteoajaichjojdaaDoorCbnSum
namespace Go.Proofs.YteoajaichjojdaaDoor
open Go.RowKit Go.Lib

set_option maxHeartbeats 1000000 in
theorem rCabins_same (l : List Cbn) (A B : Option Addr) (cap cap' : Nat) (w : World) (hl : l.length ≤ 1048576) (hr : Rd w w.heap.size 5 Cbn.cells A l) (hr' : Rd w w.heap.size 5 Cbn.cells B l) :
    Calls Tryd.prog 15 #[.slice A l.length cap, .slice B l.length cap'] w fun e w' => e = .returned (.bool true) ∧ Below w.heap.size w w' := by
  have hb : ((l.length : Int) != l.length) = false := by simp
  go_enter Tryd.func15, Tryd.ntmps15
  go_wp2_with fail
  go_loopw [5] (fun i wr => ∃ k : Nat, k ≤ l.length ∧ i = .int .i64 k ∧ Below w.heap.size w wr) (fun i _ => l.length - (intOf i).toNat)
  case atStart => exact ⟨0, Nat.zero_le _, rfl, Below.refl _ _⟩
  case round =>
    obtain ⟨k, hk, rfl, hbel⟩ := hrel
    have HB := Lib.hid hbel
    by_cases hlt : k < l.length
    · obtain ⟨b, off, rfl, hb1, hc0, hc1, hc2, hc3, hc4⟩ := Cbn.rd (hr.below hbel (Nat.le_refl _)) hlt
      obtain ⟨b', off', rfl, hb2, hd0, hd1, hd2, hd3, hd4⟩ := Cbn.rd (hr'.below hbel (Nat.le_refl _)) hlt
      have z1 := hbel.size
      have l1 : b < wr.heap.size := by omega
      have l2 : b' < wr.heap.size := by omega
      have i1 : (0 : Int) ≤ (k : Int) := by omega
      have i2 : (k : Int) < l.length := by omega
      clear hbel
      go_wp2_with fail
      refine wp_region_mem (by kernel_rfl) (by kernel_rfl) ?_
      repeat (go_big_quiet_step (fail))
      refine wpQuiet_nil ?_
      intro _ hw'
      obtain ⟨⟨wq, hbq⟩, hw''⟩ := hw'
      obtain rfl := hw''.symm
      obtain ⟨hcq, hfq, hzq⟩ := bcell hbq
      try simp [Nat.add_one_le_iff] at hzq
      go_wp2_with fail
      go_roundw
      case rel => exact ⟨k + 1, by omega, by go_num, HB.out.trans (hbq.mono z1)⟩
      case measure => simp [intOf]; omega
    · clear hbel
      obtain rfl : k = l.length := by omega
      go_wp2_with fail
      go_ret
      exact ⟨rfl, HB.out⟩
set_option maxHeartbeats 1000000 in
theorem specCabinsIn_c (l : List Cbn) (A : Option Addr) (cap : Nat) (t : Int) (w : World) (hl : l.length ≤ 1048576) (hr : Rd w w.heap.size 5 Cbn.cells A l) :
    Calls Tryd.prog 18 #[.slice A l.length cap, .int .i64 t] w (ListPost (cabsIn l t) w) := by
  have hr0 := hr.alloc (.cells #[] 3)
  rcases hg : goodC l with _ | _
  · have H := Lib.hid (show cabsIn l t = ([], false) by simp [cabsIn, hg])
    go_enter Tryd.func18, Tryd.ntmps18
    go_wp2_with fail
    refine (l5Good_c l _ _ _ hl hr0).mono ?_
    rintro e w1 ⟨rfl, hb1⟩
    rw [hg]
    clear hg
    go_wp2_with fail
    go_ret2
    exact ⟨_, 0, retl H.out, by rw [H.out]; exact Own.nil, (by repeat (first | (with_reducible exact Below.refl _ _) | ((with_reducible refine alloc_ ?_ ?_); (focus (first | exact Nat.le_refl _ | (simp; done) | (simp; omega) | omega))) | ((with_reducible refine set_ ?_ ?_); (focus (first | exact Nat.le_refl _ | (simp; done) | (simp; omega) | omega))) | (with_reducible refine Below.drew ?_) | ((with_reducible refine after_ ?_ (by assumption) ?_); (rotate_left; (focus (first | exact Nat.le_refl _ | (simp; done) | (simp; omega) | omega))))))⟩
  rcases h1 : inR t 0 3 with _ | _
  · have H := Lib.hid (show cabsIn l t = ([], false) by simp [cabsIn, h1])
    go_enter Tryd.func18, Tryd.ntmps18
    go_wp2_with fail
    refine (l5Good_c l _ _ _ hl hr0).mono ?_
    rintro e w1 ⟨rfl, hb1⟩
    rw [hg]
    clear hg
    go_wp2_with (go_at_call 45; refine (l5State_c _ _).mono ?_; rintro e w' ⟨rfl, rfl⟩)
    go_ret2
    exact ⟨_, 0, retl H.out, by rw [H.out]; exact Own.nil, (by repeat (first | (with_reducible exact Below.refl _ _) | ((with_reducible refine alloc_ ?_ ?_); (focus (first | exact Nat.le_refl _ | (simp; done) | (simp; omega) | omega))) | ((with_reducible refine set_ ?_ ?_); (focus (first | exact Nat.le_refl _ | (simp; done) | (simp; omega) | omega))) | (with_reducible refine Below.drew ?_) | ((with_reducible refine after_ ?_ (by assumption) ?_); (rotate_left; (focus (first | exact Nat.le_refl _ | (simp; done) | (simp; omega) | omega))))))⟩
  have H := Lib.hid (show cabsIn l t = (stTo l t l.length, true) by simp [cabsIn, hg, h1])
  have hl12 := (goodC_true hg).1
  go_enter Tryd.func18, Tryd.ntmps18
  go_wp2_with fail
  refine (l5Good_c l _ _ _ hl hr0).mono ?_
  rintro e w1 ⟨rfl, hb1⟩
  rw [hg]
  have HE1 := Lib.hid (ownsRow_below (ownsRow_empty w 3 1) hb1)
  have HB1 := Lib.hid (show Below w.heap.size w w1 from (by repeat (first | (with_reducible exact Below.refl _ _) | ((with_reducible refine alloc_ ?_ ?_); (focus (first | exact Nat.le_refl _ | (simp; done) | (simp; omega) | omega))) | ((with_reducible refine set_ ?_ ?_); (focus (first | exact Nat.le_refl _ | (simp; done) | (simp; omega) | omega))) | (with_reducible refine Below.drew ?_) | ((with_reducible refine after_ ?_ (by assumption) ?_); (rotate_left; (focus (first | exact Nat.le_refl _ | (simp; done) | (simp; omega) | omega)))))))
  clear hg hb1 hr0
  go_wp2_with (go_at_call 45; refine (l5State_c _ _).mono ?_; rintro e w' ⟨rfl, rfl⟩)
  clear h1
  go_loopw [6, 7] (fun v i wr => ∃ k : Nat, k ≤ l.length ∧ i = .int .i64 k ∧ wr.ownsRow w.heap.size 3 1 v (stTo l t k).length ((stTo l t k).map (Value.int .i64)) ∧ Below w.heap.size w wr) (fun _ i _ => l.length - (intOf i).toNat)
  case atStart => exact ⟨0, Nat.zero_le _, rfl, HE1.out, HB1.out⟩
  case round =>
    obtain ⟨k, hk, rfl, hown, hbel⟩ := hrel
    have HB := Lib.hid hbel
    have HO := Lib.hid hown
    have z1 := hbel.size
    by_cases hlt : k < l.length
    · obtain ⟨b, off, rfl, hb1, hc0, hc1, hc2, hc3, hc4⟩ := Cbn.rd (hr.below hbel (Nat.le_refl _)) hlt
      have hle := stTo_len (l := l) (t := t) k
      have l1 : b < wr.heap.size := by omega
      clear hbel hown
      by_cases hq : (nth l k).t = t
      · have HY := Lib.hid (show stTo l t (k + 1) = stTo l t k ++ [(nth l k).n] by simp [stTo, hq])
        have hq' : ((nth l k).t == t) = true := by simp [hq]
        clear hq
        obtain ⟨x, hx⟩ : ∃ x, (nth l k).n = x := ⟨_, rfl⟩
        rw [hx] at HY hc0
        clear hx
        go_wp2_with (at_builtin; refine wpList_push _ rfl _ _ 41 rfl w.heap.size 3 (.int .i64 0) 1 8 Tryd.underlying41 info_int rfl (by decide) (by decide) _ _ _ rfl (HO.out.alloc _) wr.heap.size [.int .i64 x] rfl rfl ?c1 ?c2 ?c3 ?c4 ?_)
        try case c1 =>
          intro j u hj
          match j, hj with
          | 0, hj => simp at hj; subst hj; simp [go_sem]
        case c2 => first | rfl | (intro u hu; simp at hu; subst hu; rfl)
        case c3 => omega
        case c4 => first | omega | (simp; omega)
        intro v' w' hown' hb'
        have HO' := Lib.hid hown'
        have HB' := Lib.hid (HB.out.trans ((((Below.refl _ _).alloc (Nat.le_refl _) _).mono z1).trans hb'))
        clear hown' hb'
        go_wp2_with fail
        go_roundw
        case rel => exact ⟨k + 1, by omega, by go_num, by rw [HY.out]; simpa using HO'.out, HB'.out⟩
        case measure => simp [intOf]; omega
      · have HY := Lib.hid (show stTo l t (k + 1) = stTo l t k by simp [stTo, hq])
        have hq' : ((nth l k).t == t) = false := by rw [beq_eq_false_iff_ne]; exact hq
        clear hq
        go_wp2_with fail
        go_roundw
        case rel => exact ⟨k + 1, by omega, by go_num, by rw [HY.out]; exact HO.out, HB.out⟩
        case measure => simp [intOf]; omega
    · obtain rfl : k = l.length := by omega
      clear hbel
      obtain ⟨A', cap', rfl⟩ := ownsRow_shape hown
      clear hown
      go_wp2_with fail
      go_ret2
      exact ⟨A', cap', retl H.out, by rw [H.out]; exact Own.of_row' HO.out rfl (flat_ints _).symm fun _ => rfl, HB.out⟩
theorem l5May_c (a b : Int) (w : World) (ha : inR a 0 3 = true) (hb : inR b 0 3 = true) : Calls Tryd.prog 46 #[.int .i64 a, .int .i64 b] w fun e w' => e = .returned (.bool (mayC a b)) ∧ w = w' := by
  obtain ⟨a0, a3⟩ := inR_true.1 ha
  obtain ⟨b0, b3⟩ := inR_true.1 hb
  clear ha hb
  have hA : a = 0 ∨ a = 1 ∨ a = 2 ∨ a = 3 := by omega
  have hB : b = 0 ∨ b = 1 ∨ b = 2 ∨ b = 3 := by omega
  clear a0 a3 b0 b3
  rcases hA with rfl | rfl | rfl | rfl <;> rcases hB with rfl | rfl | rfl | rfl
  all_goals
    go_enter Tryd.func46, Tryd.ntmps46
    go_wp2
    go_ret
    exact ⟨retb (by decide), rfl⟩
theorem moveC_no {l : List Cbn} {x t : Int} (hg : goodC l = true) (h : ∀ j, j < l.length → ¬ ((nth l j).n = x ∧ mayC (nth l j).t t = true)) : moveC l x t = ([], false) := by
  rcases atTo_bd (l := l) (x := x) l.length with ⟨h1, _⟩ | ⟨h1, h2, h3⟩
  · simp [moveC, canMove, h1]
  · have hk : (atTo l x l.length).toNat < l.length := by omega
    have := h _ hk
    have hm : mayC (nth l (atTo l x l.length).toNat).t t = false := by
      rcases e : mayC (nth l (atTo l x l.length).toNat).t t with _ | _
      · rfl
      · exact absurd ⟨h3, e⟩ this
    simp [moveC, canMove, hm]
theorem moveC_at {l : List Cbn} {x t : Int} {k : Nat} (hg : goodC l = true) (hk : k < l.length) (hn : (nth l k).n = x) (hm : mayC (nth l k).t t = true) :
    moveC l x t = (if goodC (l.set k (movedC (nth l k) t)) = true then (l.set k (movedC (nth l k) t), true) else ([], false)) ∧ ∀ j, k < j → j < l.length → (nth (l.set k (movedC (nth l k) t)) j).n ≠ x := by
  have g3 := (goodC_true hg).2.2
  have hat : atTo l x l.length = k := by rw [← hn]; exact atTo_at g3 hk
  refine ⟨?_, fun j h1 h2 => ?_⟩
  · have hml : moveL l x t = l.set k (movedC (nth l k) t) := by simp [moveL, hat]
    have hcm : canMove l x t = true := by simp [canMove, hg, hat, hm]
    rw [moveC, hcm, hml, Bool.true_and]
  · rw [nth_setC h2, if_neg (by omega), ← hn]
    have := rising g3 h1 h2
    omega
end Go.Proofs.YteoajaichjojdaaDoor
