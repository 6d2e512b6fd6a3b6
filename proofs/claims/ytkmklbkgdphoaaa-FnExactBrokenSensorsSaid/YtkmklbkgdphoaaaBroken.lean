/- VoteOf of the reference, and BrokenSensors of both, return the plain answers; no conditions but the length. -/
import Derived.Test.YtkmklbkgdphoaaaVoteSpec
namespace Go.Proofs.Ytkmklbkgdphoaaa
open Go.RowKit Go.Lib

theorem specVoteOf_c (o : List Int) (A : Option Addr) (cap : Nat) (w : World) (hl : o.length ≤ 1048576) (hr : Rd w w.heap.size 1 intCells A o) :
    Calls Try.prog 5 #[.slice A o.length cap] w fun e w' => e = .returned (.tuple #[.int .i64 (voteP o).1, .bool (voteP o).2]) ∧ Below w.heap.size w w' := by
  rcases hg : okV o with _ | _
  · have H := Lib.hid (show voteP o = (0, false) by simp [voteP, hg])
    go_enter Try.func5, Try.ntmps5
    go_wp2_with fail
    refine (l12Sensors_c o _ _ _ hl hr).mono ?_
    rintro e w1 ⟨rfl, rfl⟩
    go_wp2_with fail
    go_ret2
    exact ⟨rett2 H.out rfl rfl, Below.refl _ _⟩
  · have H := Lib.hid (show voteP o = (voteV o, true) by simp [voteP, hg])
    have HG := Lib.hid hg
    go_enter Try.func5, Try.ntmps5
    go_wp2_with fail
    refine (l12Sensors_c o _ _ _ hl hr).mono ?_
    rintro e w1 ⟨rfl, rfl⟩
    rw [hg]
    clear hg
    go_wp2_with fail
    refine (l12Of_c o _ _ _ HG.out hr).mono ?_
    rintro e w1 ⟨rfl, hb1⟩
    go_wp2_with fail
    go_ret2
    exact ⟨rett2 H.out rfl rfl, hb1⟩
def farB (v x s : Int) : Bool := decide (x < 0) || decide (s < max (x - v) (v - x))
def brkTo (o : List Int) (v s : Int) : Nat → List Int
  | 0 => []
  | k + 1 => if farB v (nth o k) s = true then brkTo o v s k ++ [(k : Int)] else brkTo o v s k
theorem brkTo_yes {o : List Int} {v s : Int} {k : Nat} (h : farB v (nth o k) s = true) : brkTo o v s (k + 1) = brkTo o v s k ++ [(k : Int)] := by rw [brkTo, if_pos h]
theorem brkTo_no {o : List Int} {v s : Int} {k : Nat} (h : farB v (nth o k) s = false) : brkTo o v s (k + 1) = brkTo o v s k := by rw [brkTo, if_neg (by simp [h])]
theorem brkTo_len {o : List Int} {v s : Int} : ∀ k, (brkTo o v s k).length ≤ k
  | 0 => Nat.le_refl _
  | k + 1 => by
    have := brkTo_len (o := o) (v := v) (s := s) k
    rw [brkTo]; split
    · simp; omega
    · omega
def brkP (o : List Int) (s : Int) : List Int × Bool := if okV o && decide (0 ≤ s) then (brkTo o (voteV o) s o.length, true) else ([], false)
theorem isort_bd {o : List Int} (h : ∀ i, i < o.length → -1 ≤ nth o i ∧ nth o i ≤ 60) : -1 ≤ voteV o ∧ voteV o ≤ 60 := by
  unfold voteV; split
  · omega
  · next hn =>
    by_cases h0 : (posL o).length / 2 < (isort (posL o)).length
    · have hm := nth_mem h0
      rw [isort_mem] at hm
      have hm2 : nth (isort (posL o)) ((posL o).length / 2) ∈ o := (List.mem_filter.1 hm).1
      obtain ⟨i, hi, he⟩ := List.getElem_of_mem hm2
      have := h i hi
      rw [nth_eq hi, he] at this
      exact this
    · have e : nth (isort (posL o)) ((posL o).length / 2) = 0 := by
        unfold nth; rw [List.getD_eq_getElem?_getD, List.getElem?_eq_none (by omega)]; rfl
      rw [e]; omega
theorem distance_c (a b : Int) (w : World) (ha : -100 ≤ a ∧ a ≤ 100) (hb : -100 ≤ b ∧ b ≤ 100) : Calls Try.prog 17 #[.int .i64 a, .int .i64 b] w fun e w' => e = .returned (.int .i64 (max (a - b) (b - a))) ∧ w = w' := by
  go_enter Try.func17, Try.ntmps17
  go_wp2_with fail
  go_ret
  exact ⟨rfl, rfl⟩
theorem l1Most_c (a b : Int) (w : World) : Calls Try.prog 16 #[.int .i64 a, .int .i64 b] w fun e w' => e = .returned (.int .i64 (max a b)) ∧ w = w' := by
  by_cases h : b < a
  · have H := Lib.hid (show max a b = a by omega)
    go_enter Try.func16, Try.ntmps16
    go_wp2_with fail
    go_ret
    exact ⟨reti H.out.symm, rfl⟩
  · have H := Lib.hid (show max a b = b by omega)
    go_enter Try.func16, Try.ntmps16
    go_wp2_with fail
    go_ret
    exact ⟨reti H.out.symm, rfl⟩

set_option maxHeartbeats 800000 in
theorem implBrokenSensors_c (o : List Int) (A : Option Addr) (cap : Nat) (s : Int) (w : World) (hl : o.length ≤ 1048576) (hr : Rd w w.heap.size 1 intCells A o) :
    Calls Try.prog 10 #[.slice A o.length cap, .int .i64 s] w (ListPost (brkP o s) w) := by
  rcases hg : okV o with _ | _
  · have H := Lib.hid (show brkP o s = ([], false) by simp [brkP, hg])
    have HP := Lib.hid (show voteP o = (0, false) by simp [voteP, hg])
    go_enter Try.func10, Try.ntmps10
    go_wp2_with fail
    refine (voteOf_c o _ _ _ hl hr).mono ?_
    rintro e w1 ⟨rfl, hb1⟩
    rw [HP.out]
    go_wp2_with fail
    go_ret2
    exact ⟨none, 0, retl H.out, by rw [H.out]; exact Own.nil, hb1⟩
  have HP := Lib.hid (show voteP o = (voteV o, true) by simp [voteP, hg])
  by_cases hs : 0 ≤ s
  case neg =>
    have H := Lib.hid (show brkP o s = ([], false) by simp [brkP, hs])
    go_enter Try.func10, Try.ntmps10
    go_wp2_with fail
    refine (voteOf_c o _ _ _ hl hr).mono ?_
    rintro e w1 ⟨rfl, hb1⟩
    rw [HP.out]
    go_wp2_with fail
    go_ret2
    exact ⟨none, 0, retl H.out, by rw [H.out]; exact Own.nil, hb1⟩
  have H := Lib.hid (show brkP o s = (brkTo o (voteV o) s o.length, true) by simp [brkP, hg, hs])
  obtain ⟨⟨n1, n5⟩, hv⟩ := okV_true hg
  obtain ⟨b1, b2⟩ := isort_bd hv
  have HVs := Lib.hid hv
  obtain ⟨v, hvv⟩ : ∃ v, voteV o = v := ⟨_, rfl⟩
  rw [hvv] at HP H b1 b2
  clear hv hg hvv
  go_enter Try.func10, Try.ntmps10
  go_wp2_with fail
  refine (voteOf_c o _ _ _ hl hr).mono ?_
  rintro e w1 ⟨rfl, hb1⟩
  rw [HP.out]
  have HB1 := Lib.hid hb1
  clear hb1
  go_wp2_with fail
  go_loopw [8, 9, 10, 25] (fun u _ _ i wr => ∃ k : Nat, k ≤ o.length ∧ i = .int .i64 k ∧ wr.ownsRow w.heap.size 3 1 u (brkTo o v s k).length ((brkTo o v s k).map (Value.int .i64)) ∧ Below w.heap.size w wr) (fun _ _ _ i _ => o.length - (intOf i).toNat)
  case atStart => exact ⟨0, Nat.zero_le _, rfl, own_empty (heap_alloc_new w1 _) HB1.out.size, HB1.out.alloc HB1.out.size _⟩
  case round =>
    obtain ⟨k, hk, rfl, hown, hbel⟩ := hrel
    have HB := Lib.hid hbel
    have HO := Lib.hid hown
    have z1 := hbel.size
    have hle := brkTo_len (o := o) (v := v) (s := s) k
    by_cases hlt : k < o.length
    · obtain ⟨b, off, rfl, hb, hc⟩ := (hr.below hbel (Nat.le_refl _)).int hlt
      obtain ⟨x1, x2⟩ := HVs.out k hlt
      have l1 : b < wr.heap.size := by omega
      clear hbel hown
      by_cases hx : nth o k < 0
      · have HY := Lib.hid (brkTo_yes (o := o) (v := v) (s := s) (k := k) (by simp [farB, hx]))
        go_wp2_with (first | (go_at_call 17; refine (distance_c _ _ _ (by omega) (by omega)).mono ?_; rintro e w' ⟨rfl, rfl⟩) | (at_builtin; refine wpList_push _ rfl (.tmp 39) (.tmp 41) 22 rfl w.heap.size 3 (.int .i64 0) 1 8 Try.underlying22 info_int rfl (by decide) (by decide) _ _ _ rfl (HO.out.alloc _) wr.heap.size [.int .i64 k] rfl rfl ?c1 ?c2 ?c3 ?c4 ?_))
        try case c1 =>
          intro j u hj
          match j, hj with
          | 0, hj => simp at hj; subst hj; simp [go_sem]
        case c2 => first | rfl | (intro u hu; simp at hu; subst hu; rfl)
        case c3 => omega
        case c4 => first | omega | (simp; omega)
        intro v' w' hown' hb'
        have HO' := Lib.hid hown'
        have HB' := Lib.hid (HB.out.trans ((((Below.refl _ _).alloc (Nat.le_refl _) _).mono z1).trans hb'))
        clear hown' hb'
        go_wp2_with fail
        go_roundw
        case rel => exact ⟨k + 1, by omega, by go_num, by rw [HY.out]; simpa using HO'.out, HB'.out⟩
        case measure => simp [intOf]; omega
      have hx' : decide (nth o k < 0) = false := decide_eq_false hx
      by_cases hy : s < max (nth o k - v) (v - nth o k)
      · have HY := Lib.hid (brkTo_yes (o := o) (v := v) (s := s) (k := k) (by simp [farB, hy]))
        go_wp2_with (first | (go_at_call 17; refine (distance_c _ _ _ (by omega) (by omega)).mono ?_; rintro e w' ⟨rfl, rfl⟩) | (at_builtin; refine wpList_push _ rfl (.tmp 39) (.tmp 41) 22 rfl w.heap.size 3 (.int .i64 0) 1 8 Try.underlying22 info_int rfl (by decide) (by decide) _ _ _ rfl (HO.out.alloc _) wr.heap.size [.int .i64 k] rfl rfl ?c1 ?c2 ?c3 ?c4 ?_))
        try case c1 =>
          intro j u hj
          match j, hj with
          | 0, hj => simp at hj; subst hj; simp [go_sem]
        case c2 => first | rfl | (intro u hu; simp at hu; subst hu; rfl)
        case c3 => omega
        case c4 => first | omega | (simp; omega)
        intro v' w' hown' hb'
        have HO' := Lib.hid hown'
        have HB' := Lib.hid (HB.out.trans ((((Below.refl _ _).alloc (Nat.le_refl _) _).mono z1).trans hb'))
        clear hown' hb'
        go_wp2_with fail
        go_roundw
        case rel => exact ⟨k + 1, by omega, by go_num, by rw [HY.out]; simpa using HO'.out, HB'.out⟩
        case measure => simp [intOf]; omega
      · have hy' : decide (s < max (nth o k - v) (v - nth o k)) = false := decide_eq_false hy
        have HY := Lib.hid (brkTo_no (o := o) (v := v) (s := s) (k := k) (by rw [farB, hx', hy']; rfl))
        go_wp2_with (go_at_call 17; refine (distance_c _ _ _ (by omega) (by omega)).mono ?_; rintro e w' ⟨rfl, rfl⟩)
        go_roundw
        case rel => exact ⟨k + 1, by omega, by go_num, by rw [HY.out]; exact HO.out, HB.out⟩
        case measure => simp [intOf]; omega
    · obtain rfl : k = o.length := by omega
      obtain ⟨A', cap', rfl⟩ := ownsRow_shape HO.out
      clear hbel hown
      go_wp2_with fail
      go_ret2
      exact ⟨A', cap', retl H.out, by rw [H.out]; exact Own.of_row' HO.out rfl (flat_ints _).symm fun _ => rfl, HB.out⟩
set_option maxHeartbeats 800000 in
theorem specBrokenSensors_c (o : List Int) (A : Option Addr) (cap : Nat) (s : Int) (w : World) (hl : o.length ≤ 1048576) (hr : Rd w w.heap.size 1 intCells A o) :
    Calls Try.prog 9 #[.slice A o.length cap, .int .i64 s] w (ListPost (brkP o s) w) := by
  rcases hg : okV o with _ | _
  · have H := Lib.hid (show brkP o s = ([], false) by simp [brkP, hg])
    go_enter Try.func9, Try.ntmps9
    go_wp2_with fail
    refine (l12Sensors_c o _ _ _ hl (hr.alloc _)).mono ?_
    rintro e w1 ⟨rfl, rfl⟩
    go_wp2_with fail
    go_ret2
    exact ⟨_, 0, retl H.out, by rw [H.out]; exact Own.nil, (by repeat (first | (with_reducible exact Below.refl _ _) | ((with_reducible refine alloc_ ?_ ?_); (focus (first | exact Nat.le_refl _ | (simp; done) | (simp; omega) | omega))) | ((with_reducible refine set_ ?_ ?_); (focus (first | exact Nat.le_refl _ | (simp; done) | (simp; omega) | omega))) | (with_reducible refine Below.drew ?_) | ((with_reducible refine after_ ?_ (by assumption) ?_); (rotate_left; (focus (first | exact Nat.le_refl _ | (simp; done) | (simp; omega) | omega))))))⟩
  by_cases hs : 0 ≤ s
  case neg =>
    have H := Lib.hid (show brkP o s = ([], false) by simp [brkP, hs])
    go_enter Try.func9, Try.ntmps9
    go_wp2_with fail
    refine (l12Sensors_c o _ _ _ hl (hr.alloc _)).mono ?_
    rintro e w1 ⟨rfl, rfl⟩
    rw [hg]
    go_wp2_with fail
    go_ret2
    exact ⟨_, 0, retl H.out, by rw [H.out]; exact Own.nil, (by repeat (first | (with_reducible exact Below.refl _ _) | ((with_reducible refine alloc_ ?_ ?_); (focus (first | exact Nat.le_refl _ | (simp; done) | (simp; omega) | omega))) | ((with_reducible refine set_ ?_ ?_); (focus (first | exact Nat.le_refl _ | (simp; done) | (simp; omega) | omega))) | (with_reducible refine Below.drew ?_) | ((with_reducible refine after_ ?_ (by assumption) ?_); (rotate_left; (focus (first | exact Nat.le_refl _ | (simp; done) | (simp; omega) | omega))))))⟩
  have H := Lib.hid (show brkP o s = (brkTo o (voteV o) s o.length, true) by simp [brkP, hg, hs])
  obtain ⟨⟨n1, n5⟩, hv⟩ := okV_true hg
  obtain ⟨b1, b2⟩ := isort_bd hv
  have HVs := Lib.hid hv
  have HG := Lib.hid hg
  obtain ⟨v, hvv⟩ : ∃ v, voteV o = v := ⟨_, rfl⟩
  rw [hvv] at H b1 b2
  have HV := Lib.hid hvv
  clear hv hvv
  go_enter Try.func9, Try.ntmps9
  go_wp2_with fail
  refine (l12Sensors_c o _ _ _ hl (hr.alloc _)).mono ?_
  rintro e w1 ⟨rfl, rfl⟩
  rw [hg]
  clear hg
  go_wp2_with fail
  refine (l12Of_c o _ _ _ HG.out (hr.alloc _)).mono ?_
  rintro e w1 ⟨rfl, hb1⟩
  rw [HV.out]
  have HB1 := Lib.hid (show Below w.heap.size w w1 from (by repeat (first | (with_reducible exact Below.refl _ _) | ((with_reducible refine alloc_ ?_ ?_); (focus (first | exact Nat.le_refl _ | (simp; done) | (simp; omega) | omega))) | ((with_reducible refine set_ ?_ ?_); (focus (first | exact Nat.le_refl _ | (simp; done) | (simp; omega) | omega))) | (with_reducible refine Below.drew ?_) | ((with_reducible refine after_ ?_ (by assumption) ?_); (rotate_left; (focus (first | exact Nat.le_refl _ | (simp; done) | (simp; omega) | omega)))))))
  have HE1 := Lib.hid (ownsRow_below (ownsRow_empty w 3 1) hb1)
  clear hb1
  go_wp2_with fail
  go_loopw [6, 8, 9] (fun u i _ wr => ∃ k : Nat, k ≤ o.length ∧ i = .int .i64 k ∧ wr.ownsRow w.heap.size 3 1 u (brkTo o v s k).length ((brkTo o v s k).map (Value.int .i64)) ∧ Below w.heap.size w wr) (fun _ i _ _ => o.length - (intOf i).toNat)
  case atStart => exact ⟨0, Nat.zero_le _, rfl, HE1.out, HB1.out⟩
  case round =>
    obtain ⟨k, hk, rfl, hown, hbel⟩ := hrel
    have HB := Lib.hid hbel
    have HO := Lib.hid hown
    have z1 := hbel.size
    have hle := brkTo_len (o := o) (v := v) (s := s) k
    by_cases hlt : k < o.length
    · obtain ⟨b, off, rfl, hb, hc⟩ := (hr.below hbel (Nat.le_refl _)).int hlt
      obtain ⟨x1, x2⟩ := HVs.out k hlt
      have l1 : b < wr.heap.size := by omega
      have i1 : (k : Int) < o.length := by omega
      have e1 : -(nth o k - v) = v - nth o k := by omega
      clear hbel hown
      by_cases hx : nth o k < 0
      · have HY := Lib.hid (brkTo_yes (o := o) (v := v) (s := s) (k := k) (by simp [farB, hx]))
        go_wp2_with (first | (go_at_call 16; refine (l1Most_c _ _ _).mono ?_; rintro e w' ⟨rfl, rfl⟩) | (at_builtin; refine wpList_push _ rfl (.tmp 46) (.tmp 48) 22 rfl w.heap.size 3 (.int .i64 0) 1 8 Try.underlying22 info_int rfl (by decide) (by decide) _ _ _ rfl (HO.out.alloc _) wr.heap.size [.int .i64 k] rfl rfl ?c1 ?c2 ?c3 ?c4 ?_))
        try case c1 =>
          intro j u hj
          match j, hj with
          | 0, hj => simp at hj; subst hj; simp [go_sem]
        case c2 => first | rfl | (intro u hu; simp at hu; subst hu; rfl)
        case c3 => omega
        case c4 => first | omega | (simp; omega)
        intro v' w' hown' hb'
        have HO' := Lib.hid hown'
        have HB' := Lib.hid (HB.out.trans ((((Below.refl _ _).alloc (Nat.le_refl _) _).mono z1).trans hb'))
        clear hown' hb'
        go_wp2_with fail
        go_roundw
        case rel => exact ⟨k + 1, by omega, by go_num, by rw [HY.out]; simpa using HO'.out, HB'.out⟩
        case measure => simp [intOf]; omega
      have hx' : decide (nth o k < 0) = false := decide_eq_false hx
      by_cases hy : s < max (nth o k - v) (v - nth o k)
      · have HY := Lib.hid (brkTo_yes (o := o) (v := v) (s := s) (k := k) (by simp [farB, hy]))
        go_wp2_with (first | (go_at_call 16; refine (l1Most_c _ _ _).mono ?_; rintro e w' ⟨rfl, rfl⟩) | (at_builtin; refine wpList_push _ rfl (.tmp 46) (.tmp 48) 22 rfl w.heap.size 3 (.int .i64 0) 1 8 Try.underlying22 info_int rfl (by decide) (by decide) _ _ _ rfl (HO.out.alloc _) wr.heap.size [.int .i64 k] rfl rfl ?c1 ?c2 ?c3 ?c4 ?_))
        try case c1 =>
          intro j u hj
          match j, hj with
          | 0, hj => simp at hj; subst hj; simp [go_sem]
        case c2 => first | rfl | (intro u hu; simp at hu; subst hu; rfl)
        case c3 => omega
        case c4 => first | omega | (simp; omega)
        intro v' w' hown' hb'
        have HO' := Lib.hid hown'
        have HB' := Lib.hid (HB.out.trans ((((Below.refl _ _).alloc (Nat.le_refl _) _).mono z1).trans hb'))
        clear hown' hb'
        go_wp2_with fail
        go_roundw
        case rel => exact ⟨k + 1, by omega, by go_num, by rw [HY.out]; simpa using HO'.out, HB'.out⟩
        case measure => simp [intOf]; omega
      · have hy' : decide (s < max (nth o k - v) (v - nth o k)) = false := decide_eq_false hy
        have HY := Lib.hid (brkTo_no (o := o) (v := v) (s := s) (k := k) (by rw [farB, hx', hy']; rfl))
        go_wp2_with (go_at_call 16; refine (l1Most_c _ _ _).mono ?_; rintro e w' ⟨rfl, rfl⟩)
        go_roundw
        case rel => exact ⟨k + 1, by omega, by go_num, by rw [HY.out]; exact HO.out, HB.out⟩
        case measure => simp [intOf]; omega
    · obtain rfl : k = o.length := by omega
      obtain ⟨A', cap', rfl⟩ := ownsRow_shape HO.out
      clear hbel hown
      go_wp2_with fail
      go_ret2
      exact ⟨A', cap', retl H.out, by rw [H.out]; exact Own.of_row' HO.out rfl (flat_ints _).symm fun _ => rfl, HB.out⟩
end Go.Proofs.Ytkmklbkgdphoaaa
