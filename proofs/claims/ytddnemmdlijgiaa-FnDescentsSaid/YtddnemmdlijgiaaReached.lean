/- ReachedBy of the program and of the reference return one Lean function; no conditions but the length. -/
import Derived.Test.YtddnemmdlijgiaaEarlEnd
namespace Go.Proofs.Ytddnemmdlijgiaa
open Go.RowKit

def reachTo (o : List Int) (u : Int) : Nat → List Int
  | 0 => []
  | k + 1 => if nth o k ≤ u then reachTo o u k ++ [(k : Int)] else reachTo o u k
theorem reachTo_len {o : List Int} {u : Int} : ∀ k, (reachTo o u k).length ≤ k
  | 0 => Nat.le_refl _
  | k + 1 => by have := reachTo_len (o := o) (u := u) k; simp only [reachTo]; split <;> simp <;> omega
def reached (l : List Rid) (f m u : Int) : List Int × Bool := if okT l f f m && inR u 0 1439 then (reachTo (earL l f.toNat m) u 6, true) else ([], false)
theorem reachTo_yes {o : List Int} {u : Int} {k : Nat} (h : nth o k ≤ u) : reachTo o u (k + 1) = reachTo o u k ++ [(k : Int)] := by rw [reachTo, if_pos h]
theorem reachTo_no {o : List Int} {u : Int} {k : Nat} (h : ¬ nth o k ≤ u) : reachTo o u (k + 1) = reachTo o u k := by rw [reachTo, if_neg h]
theorem reached_no {l : List Rid} {f m u : Int} (h : (okT l f f m && inR u 0 1439) = false) : reached l f m u = ([], false) := by rw [reached, if_neg (by simp [h])]
set_option maxHeartbeats 800000 in
theorem implReachedBy_c (l : List Rid) (A : Option Addr) (cap : Nat) (f m u : Int) (w : World) (hl : l.length ≤ 1048576) (hr : Rd w w.heap.size 5 Rid.cells A l) :
    Calls Try.prog 39 #[.slice A l.length cap, .int .i64 f, .int .i64 m, .int .i64 u] w (ListPost (reached l f m u) w) := by
  rcases hg : okT l f f m with _ | _
  · have H := Lib.hid (reached_no (l := l) (f := f) (m := m) (u := u) (by simp [hg]))
    go_enter Try.func39, Try.ntmps39
    go_wp2_with fail
    refine (isTravel_c l _ _ _ _ _ _ hl hr).mono ?_
    rintro e w1 ⟨rfl, hb1⟩
    go_wp2_with fail
    go_ret2
    exact ⟨none, 0, retl H.out, by rw [H.out]; exact Own.nil, hb1⟩
  rcases hu : inR u 0 1439 with _ | _
  · have H := Lib.hid (reached_no (l := l) (f := f) (m := m) (u := u) (by simp [hu]))
    go_enter Try.func39, Try.ntmps39
    go_wp2_with fail
    refine (isTravel_c l _ _ _ _ _ _ hl hr).mono ?_
    rintro e w1 ⟨rfl, hb1⟩
    go_wp2_with (go_at_call 54; refine (isMinute_c _ _).mono ?_; rintro e w' ⟨rfl, rfl⟩)
    go_ret2
    exact ⟨none, 0, retl H.out, by rw [H.out]; exact Own.nil, hb1⟩
  obtain ⟨hgood, ⟨f1, f2⟩, _, m1, m2⟩ := okT_true hg
  obtain ⟨u1, u2⟩ := inR_true.1 hu
  have HG := Lib.hid (goodR_true hgood)
  clear hgood
  obtain ⟨f, rfl⟩ : ∃ f' : Nat, f = (f' : Int) := ⟨f.toNat, by omega⟩
  have H := Lib.hid (show reached l f m u = (reachTo (earL l f m) u 6, true) by simp [reached, hg, hu])
  obtain ⟨o, ho⟩ : ∃ o, earL l f m = o := ⟨_, rfl⟩
  have HL := Lib.hid (show o.length = 6 by rw [← ho]; exact earL_len _ _ _)
  rw [ho] at H
  have HO1 := Lib.hid ho
  clear ho
  go_enter Try.func39, Try.ntmps39
  go_wp2_with fail
  refine (isTravel_c l _ _ _ _ _ _ hl hr).mono ?_
  rintro e w1 ⟨rfl, hb1⟩
  have hr1 := hr.carry hb1
  have HB1 := Lib.hid hb1
  clear hb1
  go_wp2_with (go_at_call 54; refine (isMinute_c _ _).mono ?_; rintro e w' ⟨rfl, rfl⟩)
  refine (earliest_c l _ _ f m 6 _ (hr1.alloc _) HG.out (by omega) (by omega)).mono ?_
  rintro e w2 ⟨g, gc, rfl, hgb, harr, hb2⟩
  rw [show jacs l (start 1440 f m) 6 = o from HO1.out] at harr ⊢
  have HE := Lib.hid (ownsRow_below (ownsRow_empty w1 3 1) hb2)
  have HB2 := Lib.hid (((Below.refl _ _).alloc (Nat.le_refl _) _ : Below w1.heap.size w1 (w1.alloc (.cells #[] 3))).trans (hb2.mono (by simp)))
  have HA := Lib.hid harr
  have hgg : w1.heap.size < g := by simp at hgb; omega
  clear hb2 harr hg hu
  rw [HL.out]
  go_wp2_with fail
  go_loopw [10, 11, 12, 30] (fun v _ _ i wr => ∃ k : Nat, k ≤ 6 ∧ i = .int .i64 k ∧ wr.ownsRow w1.heap.size 3 1 v (reachTo o u k).length ((reachTo o u k).map (Value.int .i64)) ∧ Below w1.heap.size w1 wr ∧ Arr wr g o ∧ v.ownBlock ≠ some g) (fun _ _ _ i _ => 6 - (intOf i).toNat)
  case atStart => exact ⟨0, Nat.zero_le _, rfl, HE.out, HB2.out, HA.out, by simp [Value.ownBlock]; omega⟩
  case round =>
    obtain ⟨k, hk, rfl, hown, hbel, harr, hne⟩ := hrel
    have HB := Lib.hid hbel
    have HO := Lib.hid hown
    have HA := Lib.hid harr
    have HN := Lib.hid hne
    have z1 := hbel.size
    have hle := reachTo_len (o := o) (u := u) k
    have l2 := harr.lt
    clear hne
    by_cases hlt : k < 6
    · have hd := harr.cell (show k < o.length by have := HL.out; omega)
      clear hbel hown harr
      by_cases hq : nth o k ≤ u
      case pos =>
        have HY := Lib.hid (reachTo_yes hq)
        go_wp2_with (at_builtin; refine wpList_push2 _ rfl _ _ 32 rfl w1.heap.size 3 (.int .i64 0) 1 8 Try.underlying32 info_int rfl (by decide) (by decide) _ _ _ rfl (HO.out.alloc _) wr.heap.size [.int .i64 k] rfl rfl ?c1 ?c2 ?c3 ?c4 ?_)
        try case c1 =>
          intro j u hj
          match j, hj with
          | 0, hj => simp at hj; subst hj; simp [go_sem]
        case c2 => first | rfl | (intro u hu; simp at hu; subst hu; rfl)
        case c3 => omega
        case c4 => first | omega | (simp; omega)
        intro v' w' hown' hb' hk'
        have HO' := Lib.hid hown'
        have HB' := Lib.hid (HB.out.trans ((((Below.refl _ _).alloc (Nat.le_refl _) _).mono z1).trans hb'))
        have HK := Lib.hid (hk' g (by first | omega | (simp; omega)) HN.out)
        have HAa := Lib.hid ((HA.out.carry ((Below.refl _ _).alloc (Nat.le_refl _) (.cells #[.int .i64 k] 3))).keep HK.out.1)
        clear hown' hb' hk'
        go_wp2_with fail
        go_roundw
        case rel => exact ⟨k + 1, by omega, by go_num, by rw [HY.out]; simpa using HO'.out, HB'.out, HAa.out, HK.out.2⟩
        case measure => simp [intOf]; omega
      case neg =>
        have HY := Lib.hid (reachTo_no hq)
        go_wp2_with fail
        go_roundw
        case rel => exact ⟨k + 1, by omega, by go_num, by rw [HY.out]; exact HO.out, HB.out, HA.out, HN.out⟩
        case measure => simp [intOf]; omega
    · obtain rfl : k = 6 := by omega
      clear hbel harr
      obtain ⟨A', cap', rfl⟩ := ownsRow_shape hown
      clear hown
      go_wp2_with fail
      go_ret2
      exact ⟨A', cap', retl H.out, by rw [H.out]; exact (Own.of_row' HO.out rfl (flat_ints _).symm fun _ => rfl).less HB1.out.size, HB1.out.trans (HB.out.mono HB1.out.size)⟩
set_option maxHeartbeats 800000 in
theorem specReachedBy_c (l : List Rid) (A : Option Addr) (cap : Nat) (f m u : Int) (w : World) (hl : l.length ≤ 1048576) (hr : Rd w w.heap.size 5 Rid.cells A l) :
    Calls Try.prog 38 #[.slice A l.length cap, .int .i64 f, .int .i64 m, .int .i64 u] w (ListPost (reached l f m u) w) := by
  rcases hg : okT l f f m with _ | _
  · have H := Lib.hid (reached_no (l := l) (f := f) (m := m) (u := u) (by simp [hg]))
    go_enter Try.func38, Try.ntmps38
    go_wp2_with fail
    refine (l15Asked_c l _ _ _ _ _ _ hl (hr.alloc _)).mono ?_
    rintro e w1 ⟨rfl, hb1⟩
    go_wp2_with fail
    go_ret2
    exact ⟨_, 0, retl H.out, by rw [H.out]; exact Own.nil, (by repeat (first | (with_reducible exact Below.refl _ _) | ((with_reducible refine alloc_ ?_ ?_); (focus (first | exact Nat.le_refl _ | (simp; done) | (simp; omega) | omega))) | ((with_reducible refine set_ ?_ ?_); (focus (first | exact Nat.le_refl _ | (simp; done) | (simp; omega) | omega))) | (with_reducible refine Below.drew ?_) | ((with_reducible refine after_ ?_ (by assumption) ?_); (rotate_left; (focus (first | exact Nat.le_refl _ | (simp; done) | (simp; omega) | omega))))))⟩
  rcases hu : inR u 0 1439 with _ | _
  · have H := Lib.hid (reached_no (l := l) (f := f) (m := m) (u := u) (by simp [hu]))
    go_enter Try.func38, Try.ntmps38
    go_wp2_with fail
    refine (l15Asked_c l _ _ _ _ _ _ hl (hr.alloc _)).mono ?_
    rintro e w1 ⟨rfl, hb1⟩
    go_wp2_with (go_at_call 57; refine (l15Minute_c _ _).mono ?_; rintro e w' ⟨rfl, rfl⟩)
    go_ret2
    exact ⟨_, 0, retl H.out, by rw [H.out]; exact Own.nil, (by repeat (first | (with_reducible exact Below.refl _ _) | ((with_reducible refine alloc_ ?_ ?_); (focus (first | exact Nat.le_refl _ | (simp; done) | (simp; omega) | omega))) | ((with_reducible refine set_ ?_ ?_); (focus (first | exact Nat.le_refl _ | (simp; done) | (simp; omega) | omega))) | (with_reducible refine Below.drew ?_) | ((with_reducible refine after_ ?_ (by assumption) ?_); (rotate_left; (focus (first | exact Nat.le_refl _ | (simp; done) | (simp; omega) | omega))))))⟩
  obtain ⟨hgood, ⟨f1, f2⟩, _, m1, m2⟩ := okT_true hg
  obtain ⟨u1, u2⟩ := inR_true.1 hu
  have HG := Lib.hid (goodR_true hgood)
  clear hgood
  obtain ⟨f, rfl⟩ : ∃ f' : Nat, f = (f' : Int) := ⟨f.toNat, by omega⟩
  have H := Lib.hid (show reached l f m u = (reachTo (earL l f m) u 6, true) by simp [reached, hg, hu])
  have hM := earL_mins HG.out.2 (fr := f) m1 m2
  obtain ⟨o, ho⟩ : ∃ o, earL l f m = o := ⟨_, rfl⟩
  have HL := Lib.hid (show o.length = 6 by rw [← ho]; exact earL_len _ _ _)
  have HLd := Lib.hid (show (decL o).length = 6 by rw [decL_len]; exact HL.out)
  rw [ho] at H hM
  have HM := Lib.hid hM.2
  have HO1 := Lib.hid ho
  clear ho hM
  go_enter Try.func38, Try.ntmps38
  go_wp2_with fail
  refine (l15Asked_c l _ _ _ _ _ _ hl (hr.alloc _)).mono ?_
  rintro e w1 ⟨rfl, hb1⟩
  have hr1 := (hr.alloc (.cells #[] 3)).carry hb1
  have HB1 : Below w.heap.size w w1 := (by repeat (first | (with_reducible exact Below.refl _ _) | ((with_reducible refine alloc_ ?_ ?_); (focus (first | exact Nat.le_refl _ | (simp; done) | (simp; omega) | omega))) | ((with_reducible refine set_ ?_ ?_); (focus (first | exact Nat.le_refl _ | (simp; done) | (simp; omega) | omega))) | (with_reducible refine Below.drew ?_) | ((with_reducible refine after_ ?_ (by assumption) ?_); (rotate_left; (focus (first | exact Nat.le_refl _ | (simp; done) | (simp; omega) | omega))))))
  have HE1 := Lib.hid (ownsRow_below (ownsRow_empty w 3 1) hb1)
  have z1 := HB1.size
  have zz : w.heap.size < w1.heap.size := by have := hb1.size; simp at this; omega
  clear hb1
  go_wp2_with (go_at_call 57; refine (l15Minute_c _ _).mono ?_; rintro e w' ⟨rfl, rfl⟩)
  refine (l15Arrivals_c l _ _ f m _ hl hr1 HG.out.2 (by omega) ⟨m1, m2⟩).mono ?_
  rintro e w2 ⟨g, gc, rfl, hgb, harr, hb2⟩
  rw [HO1.out] at harr ⊢
  rw [HLd.out]
  have HE := Lib.hid (ownsRow_below HE1.out hb2)
  have HB2 := Lib.hid (HB1.trans (hb2.mono z1))
  have HA := Lib.hid harr
  have hgg : w.heap.size < g := by omega
  clear hb2 harr hg hu HB1
  go_wp2_with fail
  go_loopw [10, 12] (fun v i wr => ∃ k : Nat, k ≤ 6 ∧ i = .int .i64 k ∧ wr.ownsRow w.heap.size 3 1 v (reachTo o u k).length ((reachTo o u k).map (Value.int .i64)) ∧ Below w.heap.size w wr ∧ Arr wr g (decL o) ∧ v.ownBlock ≠ some g) (fun _ i _ => 6 - (intOf i).toNat)
  case atStart => exact ⟨0, Nat.zero_le _, rfl, HE.out, HB2.out, HA.out, by simp [Value.ownBlock]; omega⟩
  case round =>
    obtain ⟨k, hk, rfl, hown, hbel, harr, hne⟩ := hrel
    have HB := Lib.hid hbel
    have HO := Lib.hid hown
    have HA := Lib.hid harr
    have HN := Lib.hid hne
    have z1 := hbel.size
    have hle := reachTo_len (o := o) (u := u) k
    have l2 := harr.lt
    clear hne
    by_cases hlt : k < 6
    · have hd := harr.cell (show k < (decL o).length by have := HLd.out; omega)
      rw [decL_nth (by have := HL.out; omega)] at hd
      have hmn := HM.out k hlt
      clear hbel hown harr
      by_cases hneg : nth o k = 1440
      case pos =>
        have HY := Lib.hid (reachTo_no (o := o) (u := u) (k := k) (by omega))
        rw [hneg, show dec 1440 = -1 from rfl] at hd
        clear hneg hmn
        go_wp2_with fail
        go_roundw
        case rel => exact ⟨k + 1, by omega, by go_num, by rw [HY.out]; exact HO.out, HB.out, HA.out, HN.out⟩
        case measure => simp [intOf]; omega
      rw [dec, if_neg hneg] at hd
      have hpos : 0 ≤ nth o k := hmn.1
      have hpos' : decide (0 ≤ nth o k) = true := decide_eq_true hpos
      clear hmn hneg
      by_cases hq : nth o k ≤ u
      case pos =>
        have HY := Lib.hid (reachTo_yes hq)
        go_wp2_with (at_builtin; refine wpList_push2 _ rfl _ _ 32 rfl w.heap.size 3 (.int .i64 0) 1 8 Try.underlying32 info_int rfl (by decide) (by decide) _ _ _ rfl (HO.out.alloc _) wr.heap.size [.int .i64 k] rfl rfl ?c1 ?c2 ?c3 ?c4 ?_)
        try case c1 =>
          intro j u hj
          match j, hj with
          | 0, hj => simp at hj; subst hj; simp [go_sem]
        case c2 => first | rfl | (intro u hu; simp at hu; subst hu; rfl)
        case c3 => omega
        case c4 => first | omega | (simp; omega)
        intro v' w' hown' hb' hk'
        have HO' := Lib.hid hown'
        have HB' := Lib.hid (HB.out.trans ((((Below.refl _ _).alloc (Nat.le_refl _) _).mono z1).trans hb'))
        have HK := Lib.hid (hk' g (by first | omega | (simp; omega)) HN.out)
        have HAa := Lib.hid ((HA.out.carry ((Below.refl _ _).alloc (Nat.le_refl _) (.cells #[.int .i64 k] 3))).keep HK.out.1)
        clear hown' hb' hk'
        go_wp2_with fail
        go_roundw
        case rel => exact ⟨k + 1, by omega, by go_num, by rw [HY.out]; simpa using HO'.out, HB'.out, HAa.out, HK.out.2⟩
        case measure => simp [intOf]; omega
      case neg =>
        have HY := Lib.hid (reachTo_no hq)
        go_wp2_with fail
        go_roundw
        case rel => exact ⟨k + 1, by omega, by go_num, by rw [HY.out]; exact HO.out, HB.out, HA.out, HN.out⟩
        case measure => simp [intOf]; omega
    · obtain rfl : k = 6 := by omega
      clear hbel harr
      obtain ⟨A', cap', rfl⟩ := ownsRow_shape hown
      clear hown
      go_wp2_with fail
      go_ret2
      exact ⟨A', cap', retl H.out, by rw [H.out]; exact Own.of_row' HO.out rfl (flat_ints _).symm fun _ => rfl, HB.out⟩
end Go.Proofs.Ytddnemmdlijgiaa
