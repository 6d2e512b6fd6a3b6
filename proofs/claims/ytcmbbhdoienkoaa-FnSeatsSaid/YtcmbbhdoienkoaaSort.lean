/- The library's sort of at most twelve ints, of the call's own: it comes to the list that insertion builds; no conditions but that length. -/
import Derived.Test.YtcmbbhdoienkoaaRise
import Derived.IntWalk
import Derived.BigRegion
namespace Go.Proofs.Ytcmbbhdoienkoaa
open Go.RowKit

/-- The list while an element is on its way. -/
def onWay (q m r : List Int) (x : Int) : List Int := q.reverse ++ x :: (m ++ r)
theorem onWay_len (q m r : List Int) (x : Int) : (onWay q m r x).length = q.length + 1 + m.length + r.length := by simp [onWay]; omega
theorem onWay_at (q m r : List Int) (x : Int) : nth (onWay q m r x) q.length = x := by
  rw [nth_eq (by rw [onWay_len]; omega)]
  simp [onWay]
theorem onWay_ahead (y : Int) (q m r : List Int) (x : Int) : nth (onWay (y :: q) m r x) q.length = y := by
  rw [nth_eq (by rw [onWay_len]; simp; omega)]
  simp [onWay]
theorem onWay_swap (y : Int) (q m r : List Int) (x : Int) : ((onWay (y :: q) m r x).set (q.length + 1) y).set q.length x = onWay q (y :: m) r x := by
  simp only [onWay, List.reverse_cons, List.append_assoc, List.cons_append, List.nil_append]
  rw [List.set_append_right _ _ (by simp), List.length_reverse, show q.length + 1 - q.length = 1 by omega]
  rw [List.set_append_right _ _ (by simp), List.length_reverse, Nat.sub_self]
  rfl
theorem isNaN_c (x : Int) (w : World) : Calls Try.prog 52 #[.int .i64 x] w fun e w' => e = .returned (.bool false) ∧ w = w' := by
  go_enter Try.func52, Try.ntmps52
  go_wp2_with fail
  go_ret
  exact ⟨retb (by simp), rfl⟩
theorem less_c (x y : Int) (w : World) : Calls Try.prog 64 #[.int .i64 x, .int .i64 y] w fun e w' => e = .returned (.bool (decide (x < y))) ∧ w = w' := by
  go_enter Try.func64, Try.ntmps64
  go_wp2_with (go_at_call 52; refine (isNaN_c _ _).mono ?_; rintro e w' ⟨rfl, rfl⟩)
  go_ret
  exact ⟨rfl, rfl⟩
def LenPost (w : World) (e : Ending) (w' : World) : Prop := ∃ r : Int, e = .returned (.int .i64 r) ∧ w = w'
set_option maxHeartbeats 4000000 in
set_option maxRecDepth 100000 in
theorem len64_c (n : Nat) (hn : n ≤ 12) (w : World) : Calls Try.prog 68 #[.int .u64 n] w (LenPost w) := by
  have h1 : ¬ (4294967296 : Int) ≤ n := by omega
  have h2 : ¬ (65536 : Int) ≤ n := by omega
  have h3 : ¬ (256 : Int) ≤ n := by omega
  go_enter Try.func68, Try.ntmps68
  go_wp2_with fail
  go_ret
  exact ⟨_, rfl, rfl⟩
theorem bitsLen_c (n : Nat) (hn : n ≤ 12) (w : World) : Calls Try.prog 54 #[.int .u64 n] w (LenPost w) := by
  go_enter Try.func54, Try.ntmps54
  go_wp2_with fail
  refine (len64_c n hn _).mono ?_
  rintro e w1 ⟨r, rfl, rfl⟩
  go_wp2_with fail
  go_ret
  exact ⟨r, rfl, rfl⟩
theorem wrapNat' {n : Nat} (h : n ≤ 9000000) : IntKind.i64.wrap (n : Int) = n := IntWalk.i64_in _ (by omega)
theorem grown_of_below {w w' : World} {r : Option Nat} (h : Below w.heap.size w w') : w.grownBy w' r := ⟨h.os, h.tape, h.output, h.size, fun i hi _ => h.block i hi⟩
theorem isort_start (o : List Int) : (isQ (o.take 1)).reverse ++ o.drop 1 = o := by
  cases o with
  | nil => rfl
  | cons x r => rfl
theorem isQ_more {o : List Int} {i : Nat} (hi : i < o.length) : isQ (o.take (i + 1)) = insQ (nth o i) (isQ (o.take i)) := by
  rw [List.take_succ_eq_append_getElem hi, isQ_snoc, nth_eq hi]
theorem onWay_start {o : List Int} {i : Nat} (hi : i < o.length) : (isQ (o.take i)).reverse ++ o.drop i = onWay (isQ (o.take i)) [] (o.drop (i + 1)) (nth o i) := by
  rw [onWay, List.nil_append, nth_eq hi, List.drop_eq_getElem_cons hi]
def SortPost (o : List Int) (g : Nat) (w : World) (e : Ending) (w' : World) : Prop := e = .returned (.tuple #[]) ∧ Arr w' g (isort o) ∧ w.grownBy w' (some g)
set_option maxHeartbeats 1600000 in
theorem insertion_c (o : List Int) (g cap : Nat) (w : World) (hl : o.length ≤ 12) (ha : Arr w g o) :
    Calls Try.prog 58 #[.slice (some ⟨g, 0, none⟩) o.length cap, .int .i64 0, .int .i64 o.length] w (SortPost o g w) := by
  have HA0 := Lib.hid ha
  clear ha
  go_enter Try.func58, Try.ntmps58
  go_wp2_with fail
  go_loopw [6, 7] (fun i _ wr => ∃ k : Nat, 1 ≤ k ∧ (k ≤ o.length ∨ k = 1) ∧ i = .int .i64 k ∧ Arr wr g ((isQ (o.take k)).reverse ++ o.drop k) ∧ w.grownBy wr (some g)) (fun i _ _ => o.length - (intOf i).toNat)
  case atStart => exact ⟨1, Nat.le_refl _, .inr rfl, rfl, by rw [isort_start]; exact HA0.out, World.grownBy.refl _ _⟩
  case round =>
    obtain ⟨k, hk1, hk, rfl, harr, hgr⟩ := hrel
    have HA := Lib.hid harr
    have HG := Lib.hid hgr
    clear harr hgr
    by_cases hlt : k < o.length
    · have HM := Lib.hid (isQ_more hlt)
      have HQl := Lib.hid (show (isQ (o.take k)).length = k by rw [isQ_len]; simp; omega)
      have HS := Lib.hid (onWay_start hlt)
      obtain ⟨x, hx⟩ : ∃ x, nth o k = x := ⟨_, rfl⟩
      rw [hx] at HM HS
      clear hx
      go_wp2_with fail
      go_loopw [7] (fun j wr => ∃ q m : List Int, j = .int .i64 q.length ∧ q.length ≤ k ∧ insQ x (isQ (o.take k)) = m.reverse ++ insQ x q ∧ q.length + m.length = k ∧ Arr wr g (onWay q m (o.drop (k + 1)) x) ∧ w.grownBy wr (some g)) (fun j _ => (intOf j).toNat)
      case atStart => exact ⟨isQ (o.take k), [], by rw [HQl.out], by rw [HQl.out]; exact Nat.le_refl _, rfl, by rw [HQl.out]; rfl, by rw [← HS.out]; exact HA.out, HG.out⟩
      case round =>
        obtain ⟨q, m, rfl, hqk, hins, hqm, harr, hgr⟩ := hrel
        have HI := Lib.hid hins
        have HA2 := Lib.hid harr
        have HG2 := Lib.hid hgr
        have HL := Lib.hid hqm
        clear hins hqm hgr
        rcases q with _ | ⟨y, q⟩
        · clear harr
          have hz : decide ((0 : Int) < (([] : List Int).length : Int)) = false := rfl
          simp only [List.length_nil]
          have hz0 : decide ((0 : Int) < ((0 : Nat) : Int)) = false := rfl
          have HN := Lib.hid (show onWay [] m (o.drop (k + 1)) x = (isQ (o.take (k + 1))).reverse ++ o.drop (k + 1) by
            rw [HM.out, HI.out]; simp [onWay, insQ])
          go_wp2_with fail
          refine wp_region_mem (by kernel_rfl) (by kernel_rfl) ?_
          repeat (go_big_quiet_step (fail))
          refine wpQuiet_nil ?_
          intro _ hw'
          obtain ⟨⟨wq, hbq⟩, hw''⟩ := hw'
          obtain rfl := hw''.symm
          obtain ⟨hcq, hfq, hzq⟩ := bcell hbq
          try simp [Nat.add_one_le_iff] at hzq
          have HD := Lib.hid (show Below wr.heap.size wr wq from (by repeat (first | (with_reducible exact Below.refl _ _) | ((with_reducible refine alloc_ ?_ ?_); (focus (first | exact Nat.le_refl _ | (simp; done) | (simp; omega) | omega))) | ((with_reducible refine set_ ?_ ?_); (focus (first | exact Nat.le_refl _ | (simp; done) | (simp; omega) | omega))) | (with_reducible refine Below.drew ?_) | ((with_reducible refine after_ ?_ (by assumption) ?_); (rotate_left; (focus (first | exact Nat.le_refl _ | (simp; done) | (simp; omega) | omega)))))))
          go_wp2_with fail
          go_roundw
          case rel => exact ⟨k + 1, by omega, .inl (by omega), by go_num, by rw [← HN.out]; exact HA2.out.carry HD.out, HG2.out.trans (grown_of_below HD.out)⟩
          case measure => simp [intOf]; omega
        · obtain ⟨J, hJ⟩ : ∃ J, q.length = J := ⟨_, rfl⟩
          have hL0 := HL.out
          simp only [List.length_cons] at hqk hL0 ⊢
          rw [hJ] at hqk hL0 ⊢
          have HJ := Lib.hid hJ
          have hlen : J + 1 < (onWay (y :: q) m (o.drop (k + 1)) x).length := by rw [onWay_len]; simp; omega
          have hfull := Lib.hid (show (onWay (y :: q) m (o.drop (k + 1)) x).length = o.length by rw [onWay_len]; simp; omega)
          have hc1 := harr.cell hlen
          have hc2 := harr.cell (show J < (onWay (y :: q) m (o.drop (k + 1)) x).length by omega)
          have hz1 := harr.frozen (J + 1)
          have hz2 := harr.frozen J
          rw [show J + 1 = (y :: q).length by simp [hJ], onWay_at] at hc1
          rw [← hJ, onWay_ahead] at hc2
          simp only [List.length_cons] at hc1
          rw [hJ] at hc1 hc2
          have hglt := harr.lt
          have wj := wrapNat' (show J ≤ 9000000 by omega)
          have i1 : (0 : Int) ≤ (J : Int) := by omega
          have i2 : (J : Int) < o.length := by omega
          have i3 : (J : Int) + 1 < o.length := by omega
          have i4 : decide ((0 : Int) < (J : Int) + 1) = true := decide_eq_true (by omega)
          clear harr hJ hlen
          by_cases hxy : x < y
          · have HN := Lib.hid (show insQ x (isQ (o.take k)) = (y :: m).reverse ++ insQ x q by rw [HI.out, insQ, if_pos hxy]; simp)
            go_wp2_with fail
            refine wp_region_mem (by kernel_rfl) (by kernel_rfl) ?_
            repeat (go_big_quiet_step ((go_at_call 64; exact same_bool (less_c _ _ _) (decide_eq_true hxy))))
            refine wpQuiet_nil ?_
            intro _ hw'
            obtain ⟨⟨wq, hbq⟩, hw''⟩ := hw'
            obtain rfl := hw''.symm
            obtain ⟨hcq, hfq, hzq⟩ := bcell hbq
            try simp [Nat.add_one_le_iff] at hzq
            go_wp2_with fail
            have HD := Lib.hid (show Below wr.heap.size wr wq from (by repeat (first | (with_reducible exact Below.refl _ _) | ((with_reducible refine alloc_ ?_ ?_); (focus (first | exact Nat.le_refl _ | (simp; done) | (simp; omega) | omega))) | ((with_reducible refine set_ ?_ ?_); (focus (first | exact Nat.le_refl _ | (simp; done) | (simp; omega) | omega))) | (with_reducible refine Below.drew ?_) | ((with_reducible refine after_ ?_ (by assumption) ?_); (rotate_left; (focus (first | exact Nat.le_refl _ | (simp; done) | (simp; omega) | omega)))))))
            have hA3 := HA2.out.carry HD.out
            have HA3 := Lib.hid hA3
            have d1 := HD.out.cell (p := ⟨g, J + 1, none⟩) hglt |>.trans hc1
            have d2 := HD.out.cell (p := ⟨g, J, none⟩) hglt |>.trans hc2
            have d3 := hA3.frozen (J + 1)
            have d4 := hA3.frozen J
            clear hcq hfq hw'' hbq hc1 hc2 hz1 hz2 hA3
            go_region
            go_wp2_with fail
            go_roundw
            case rel => exact ⟨q, y :: m, by rw [HJ.out], by rw [HJ.out]; omega, HN.out, by rw [HJ.out]; simp; omega, by
              have h9 := (HA3.out.set (J + 1) y).set J x
              rw [← HJ.out, onWay_swap, HJ.out] at h9
              exact h9.keep rfl, (grown_set (grown_set (HG2.out.trans (grown_of_below HD.out)))).trans (grown_of_below ((Below.refl _ _).drew))⟩
            case measure => simp [intOf]
          · have HN := Lib.hid (show onWay (y :: q) m (o.drop (k + 1)) x = (isQ (o.take (k + 1))).reverse ++ o.drop (k + 1) by
              rw [HM.out, HI.out, insQ, if_neg hxy]; simp [onWay])
            have hnd := Lib.hid (decide_eq_false hxy)
            clear hxy
            go_wp2_with fail
            refine wp_region_mem (by kernel_rfl) (by kernel_rfl) ?_
            repeat (go_big_quiet_step ((go_at_call 64; exact same_bool (less_c _ _ _) hnd.out)))
            refine wpQuiet_nil ?_
            intro _ hw'
            obtain ⟨⟨wq, hbq⟩, hw''⟩ := hw'
            obtain rfl := hw''.symm
            obtain ⟨hcq, hfq, hzq⟩ := bcell hbq
            try simp [Nat.add_one_le_iff] at hzq
            have HD := Lib.hid (show Below wr.heap.size wr wq from (by repeat (first | (with_reducible exact Below.refl _ _) | ((with_reducible refine alloc_ ?_ ?_); (focus (first | exact Nat.le_refl _ | (simp; done) | (simp; omega) | omega))) | ((with_reducible refine set_ ?_ ?_); (focus (first | exact Nat.le_refl _ | (simp; done) | (simp; omega) | omega))) | (with_reducible refine Below.drew ?_) | ((with_reducible refine after_ ?_ (by assumption) ?_); (rotate_left; (focus (first | exact Nat.le_refl _ | (simp; done) | (simp; omega) | omega)))))))
            go_wp2_with fail
            go_roundw
            case rel => exact ⟨k + 1, by omega, .inl (by omega), by go_num, by rw [← HN.out]; exact HA2.out.carry HD.out, HG2.out.trans (grown_of_below HD.out)⟩
            case measure => simp [intOf]; omega
    · have HE := Lib.hid (show (isQ (o.take k)).reverse ++ o.drop k = isort o by rw [List.take_of_length_le (by omega), List.drop_eq_nil_of_le (by omega), List.append_nil]; rfl)
      go_wp2_with fail
      go_end0
      exact ⟨rfl, by rw [← HE.out]; exact HA.out, HG.out⟩
set_option maxHeartbeats 800000 in
theorem pdqsort_c (o : List Int) (g cap : Nat) (r : Int) (w : World) (hl : o.length ≤ 12) (ha : Arr w g o) :
    Calls Try.prog 53 #[.slice (some ⟨g, 0, none⟩) o.length cap, .int .i64 0, .int .i64 o.length, .int .i64 r] w (SortPost o g w) := by
  have HA := Lib.hid ha
  clear ha
  go_enter Try.func53, Try.ntmps53
  go_wp2_with fail
  refine wp_loop_rounds 1 ?_
  rw [rounds_succ]
  go_wp2_with fail
  refine (insertion_c o g cap _ hl HA.out).mono ?_
  rintro e w1 ⟨rfl, ha1, hg1⟩
  have HA1 := Lib.hid ha1
  have HG1 := Lib.hid hg1
  clear ha1 hg1
  go_wp2_with fail
  go_end0
  exact ⟨rfl, HA1.out, HG1.out⟩
theorem sort_c (o : List Int) (g cap : Nat) (w : World) (hl : o.length ≤ 12) (ha : Arr w g o) :
    Calls Try.prog 35 #[.slice (some ⟨g, 0, none⟩) o.length cap] w (SortPost o g w) := by
  have HA := Lib.hid ha
  clear ha
  go_enter Try.func35, Try.ntmps35
  go_wp2_with fail
  refine (bitsLen_c o.length hl _).mono ?_
  rintro e w1 ⟨r, rfl, rfl⟩
  go_wp2_with fail
  refine (pdqsort_c o g cap r _ hl HA.out).mono ?_
  rintro e w1 ⟨rfl, ha1, hg1⟩
  have HA1 := Lib.hid ha1
  have HG1 := Lib.hid hg1
  clear ha1 hg1
  go_wp2_with fail
  go_end0
  exact ⟨rfl, HA1.out, HG1.out⟩
end Go.Proofs.Ytcmbbhdoienkoaa
