/- The library's stable sort of at most twelve cabins, of the call's own: it comes to the list that insertion builds; no conditions but that length. -/
import Derived.Test.YtcmbbhdoienkoaaCbnArr
import Derived.Test.YtcmbbhdoienkoaaRelyC
import Derived.IntWalk
import Derived.BigRegion
namespace Go.Proofs.Ytcmbbhdoienkoaa
open Go.RowKit

/-- The list while an element is on its way. -/
def onWayC (q m r : List Cbn) (x : Cbn) : List Cbn := q.reverse ++ x :: (m ++ r)
theorem onWayC_len (q m r : List Cbn) (x : Cbn) : (onWayC q m r x).length = q.length + 1 + m.length + r.length := by simp [onWayC]; omega
theorem onWayC_at (q m r : List Cbn) (x : Cbn) : nth (onWayC q m r x) q.length = x := by
  rw [nth_eq (by rw [onWayC_len]; omega)]
  simp [onWayC]
theorem onWayC_ahead (y : Cbn) (q m r : List Cbn) (x : Cbn) : nth (onWayC (y :: q) m r x) q.length = y := by
  rw [nth_eq (by rw [onWayC_len]; simp; omega)]
  simp [onWayC]
theorem onWayC_swap (y : Cbn) (q m r : List Cbn) (x : Cbn) : ((onWayC (y :: q) m r x).set (q.length + 1) y).set q.length x = onWayC q (y :: m) r x := by
  simp only [onWayC, List.reverse_cons, List.append_assoc, List.cons_append, List.nil_append]
  rw [List.set_append_right _ _ (by simp), List.length_reverse, show q.length + 1 - q.length = 1 by omega]
  rw [List.set_append_right _ _ (by simp), List.length_reverse, Nat.sub_self]
  rfl
def cmpI (x y : Int) : Int := if x < y then -1 else if y < x then 1 else 0
theorem cmpI_yes {x y : Int} (h : x < y) : cmpI x y = -1 := if_pos h
theorem cmpI_no {x y : Int} (h : ¬ x < y) : ∃ c, cmpI x y = c ∧ decide (c < 0) = false := ⟨_, rfl, by unfold cmpI; rw [if_neg h]; split <;> rfl⟩
theorem nanI_c (x : Int) (w : World) : Calls Try.prog 52 #[.int .i64 x] w fun e w' => e = .returned (.bool false) ∧ w = w' := by
  go_enter Try.func52, Try.ntmps52
  go_wp2_with fail
  go_ret
  exact ⟨retb (by simp), rfl⟩
theorem compare_c (x y : Int) (w : World) : Calls Try.prog 34 #[.int .i64 x, .int .i64 y] w fun e w' => e = .returned (.int .i64 (cmpI x y)) ∧ w = w' := by
  rcases Int.lt_trichotomy x y with h | h | h
  · have H := Lib.hid (cmpI_yes h)
    go_enter Try.func34, Try.ntmps34
    go_wp2_with (go_at_call 52; refine (nanI_c _ _).mono ?_; rintro e w' ⟨rfl, rfl⟩)
    go_ret
    exact ⟨reti H.out.symm, rfl⟩
  · subst h
    have H := Lib.hid (show cmpI x x = 0 by simp [cmpI])
    go_enter Try.func34, Try.ntmps34
    go_wp2_with (go_at_call 52; refine (nanI_c _ _).mono ?_; rintro e w' ⟨rfl, rfl⟩)
    go_ret
    exact ⟨reti H.out.symm, rfl⟩
  · have H := Lib.hid (show cmpI x y = 1 by simp [cmpI, h, show ¬ x < y by omega])
    have h' : ¬ x < y := by omega
    go_enter Try.func34, Try.ntmps34
    go_wp2_with (go_at_call 52; refine (nanI_c _ _).mono ?_; rintro e w' ⟨rfl, rfl⟩)
    go_ret
    exact ⟨reti H.out.symm, rfl⟩
theorem mem_int {P : Program} {f : FuncId} {args : Array Value} {w0 : World} {x : WIn w0} {b c : Int} (h : Calls P f args x.w fun e w' => e = .returned (.int .i64 b) ∧ Below x.w.heap.size x.w w') (e : b = c) : Calls P f args x.w fun e w'' => e = .returned (.int .i64 c) ∧ ∃ y : WIn w0, w'' = y.w := mem_of (e ▸ h)
theorem grown_of_below {w w' : World} {r : Option Nat} (h : Below w.heap.size w w') : w.grownBy w' r := ⟨h.os, h.tape, h.output, h.size, fun i hi _ => h.block i hi⟩
theorem ordC_start {key : Cbn → Int} (o : List Cbn) : (isC key (o.take 1)).reverse ++ o.drop 1 = o := by
  cases o with
  | nil => rfl
  | cons x r => rfl
theorem isC_more {key : Cbn → Int} {o : List Cbn} {i : Nat} (hi : i < o.length) : isC key (o.take (i + 1)) = insC key (nth o i) (isC key (o.take i)) := by
  rw [List.take_succ_eq_append_getElem hi, isC_snoc, nth_eq hi]
theorem onWayC_start {key : Cbn → Int} {o : List Cbn} {i : Nat} (hi : i < o.length) : (isC key (o.take i)).reverse ++ o.drop i = onWayC (isC key (o.take i)) [] (o.drop (i + 1)) (nth o i) := by
  rw [onWayC, List.nil_append, nth_eq hi, List.drop_eq_getElem_cons hi]
/-- What the operations of an exchange give. -/
def swapV (g n cap J : Nat) (x y : Cbn) (i : Nat) (v : Value) : Prop := match i with
  | 0 => v = .slice (some ⟨g, 0, none⟩) n cap
  | 1 => v = .int .i64 ((J : Int) + 1)
  | 2 => v = .slice (some ⟨g, 0, none⟩) n cap
  | 3 => v = .int .i64 ((J : Int) + 1)
  | 4 => v = .int .i64 J
  | 5 => v = .slice (some ⟨g, 0, none⟩) n cap
  | 6 => v = .int .i64 ((J : Int) + 1)
  | 7 => v = .int .i64 J
  | 8 => v = .pointer (some ⟨g, J * 5, none⟩)
  | 9 => v = .agg #[.int .i64 y.n, .int .i64 y.s, .int .i64 y.e, .int .i64 y.t, .int .i64 y.r]
  | 10 => v = .slice (some ⟨g, 0, none⟩) n cap
  | 11 => v = .int .i64 ((J : Int) + 1)
  | 12 => v = .pointer (some ⟨g, (J + 1) * 5, none⟩)
  | 13 => v = .agg #[.int .i64 x.n, .int .i64 x.s, .int .i64 x.e, .int .i64 x.t, .int .i64 x.r]
  | 14 => v = .pointer (some ⟨g, (J + 1) * 5, none⟩)
  | 16 => v = .pointer (some ⟨g, J * 5, none⟩)
  | _ => True

theorem grown_puts {w wr : World} {g : Nat} : ∀ (vs : List Value) (s : Nat), w.grownBy wr (some g) → w.grownBy (puts wr g s vs) (some g)
  | [], _, h => h
  | _ :: vs, s, h => grown_puts vs (s + 1) (grown_set h)
def SortPostC (key : Cbn → Int) (o : List Cbn) (g : Nat) (w : World) (e : Ending) (w' : World) : Prop := e = .returned (.tuple #[]) ∧ ArrC w' g (ordC key o) ∧ w.grownBy w' (some g)
theorem cloFew_c (x y : Cbn) (w : World) : Calls Try.prog 33 #[.agg #[.int .i64 x.n, .int .i64 x.s, .int .i64 x.e, .int .i64 x.t, .int .i64 x.r], .agg #[.int .i64 y.n, .int .i64 y.s, .int .i64 y.e, .int .i64 y.t, .int .i64 y.r]] w fun e w' => e = .returned (.int .i64 (cmpI y.s x.s)) ∧ Below w.heap.size w w' := by
  go_enter Try.func33, Try.ntmps33
  go_wp2_with (go_at_call 34; refine (compare_c _ _ _).mono ?_; rintro e w' ⟨rfl, rfl⟩)
  go_ret
  exact ⟨rfl, (by repeat (first | (with_reducible exact Below.refl _ _) | ((with_reducible refine alloc_ ?_ ?_); (focus (first | exact Nat.le_refl _ | (simp; done) | (simp; omega) | omega))) | ((with_reducible refine set_ ?_ ?_); (focus (first | exact Nat.le_refl _ | (simp; done) | (simp; omega) | omega))) | (with_reducible refine Below.drew ?_) | ((with_reducible refine after_ ?_ (by assumption) ?_); (rotate_left; (focus (first | exact Nat.le_refl _ | (simp; done) | (simp; omega) | omega))))))⟩
set_option maxHeartbeats 3200000 in
theorem insertionFew_c (o : List Cbn) (g cap : Nat) (w : World) (hl : o.length ≤ 12) (ha : ArrC w g o) :
    Calls Try.prog 56 #[.slice (some ⟨g, 0, none⟩) o.length cap, .int .i64 0, .int .i64 o.length, .func (.func 33) #[] #[]] w (SortPostC Cbn.s o g w) := by
  have HA0 := Lib.hid ha
  clear ha
  go_enter Try.func56, Try.ntmps56
  go_wp2_with fail
  go_loopw [8, 9] (fun i _ wr => ∃ k : Nat, 1 ≤ k ∧ (k ≤ o.length ∨ k = 1) ∧ i = .int .i64 k ∧ ArrC wr g ((isC Cbn.s (o.take k)).reverse ++ o.drop k) ∧ w.grownBy wr (some g)) (fun i _ _ => o.length - (intOf i).toNat)
  case atStart => exact ⟨1, Nat.le_refl _, .inr rfl, rfl, by rw [ordC_start]; exact HA0.out, World.grownBy.refl _ _⟩
  case round =>
    obtain ⟨k, hk1, hk, rfl, harr, hgr⟩ := hrel
    have HA := Lib.hid harr
    have HG := Lib.hid hgr
    clear harr hgr
    by_cases hlt : k < o.length
    · have HM := Lib.hid (isC_more (key := Cbn.s) hlt)
      have HQl := Lib.hid (show (isC Cbn.s (o.take k)).length = k by rw [isC_len]; simp; omega)
      have HS := Lib.hid (onWayC_start (key := Cbn.s) hlt)
      obtain ⟨x, hx⟩ : ∃ x, nth o k = x := ⟨_, rfl⟩
      rw [hx] at HM HS
      clear hx
      go_wp2_with fail
      go_loopw [9] (fun j wr => ∃ q m : List Cbn, j = .int .i64 q.length ∧ q.length ≤ k ∧ insC Cbn.s x (isC Cbn.s (o.take k)) = m.reverse ++ insC Cbn.s x q ∧ q.length + m.length = k ∧ ArrC wr g (onWayC q m (o.drop (k + 1)) x) ∧ w.grownBy wr (some g)) (fun j _ => (intOf j).toNat)
      case atStart => exact ⟨isC Cbn.s (o.take k), [], by rw [HQl.out], by rw [HQl.out]; exact Nat.le_refl _, rfl, by rw [HQl.out]; rfl, by rw [← HS.out]; exact HA.out, HG.out⟩
      case round =>
        obtain ⟨q, m, rfl, hqk, hins, hqm, harr, hgr⟩ := hrel
        have HI := Lib.hid hins
        have HA2 := Lib.hid harr
        have HG2 := Lib.hid hgr
        have HL := Lib.hid hqm
        clear hins hqm hgr
        rcases q with _ | ⟨y, q⟩
        · clear harr
          simp only [List.length_nil]
          have hz0 : decide ((0 : Int) < ((0 : Nat) : Int)) = false := rfl
          have HN := Lib.hid (show onWayC [] m (o.drop (k + 1)) x = (isC Cbn.s (o.take (k + 1))).reverse ++ o.drop (k + 1) by
            rw [HM.out, HI.out]; simp [onWayC, insC])
          go_wp2_with fail
          refine wp_region_mem (by kernel_rfl) (by kernel_rfl) ?_
          repeat (go_big_quiet_step (fail))
          refine wpQuiet_nil ?_
          intro _ hw'
          obtain ⟨⟨wq, hbq⟩, hw''⟩ := hw'
          obtain rfl := hw''.symm
          obtain ⟨hcq, hfq, hzq⟩ := bcell hbq
          try simp [Nat.add_one_le_iff] at hzq
          have HD := Lib.hid (show Below wr.heap.size wr wq from (by repeat (first | (with_reducible exact Below.refl _ _) | ((with_reducible refine alloc_ ?_ ?_); (focus (first | exact Nat.le_refl _ | (simp; done) | (simp; omega) | omega))) | ((with_reducible refine set_ ?_ ?_); (focus (first | exact Nat.le_refl _ | (simp; done) | (simp; omega) | omega))) | (with_reducible refine Below.drew ?_) | ((with_reducible refine after_ ?_ (by assumption) ?_); (rotate_left; (focus (first | exact Nat.le_refl _ | (simp; done) | (simp; omega) | omega)))))))
          go_wp2_with fail
          go_roundw
          case rel => exact ⟨k + 1, by omega, .inl (by omega), by go_num, by rw [← HN.out]; exact HA2.out.carry HD.out, HG2.out.trans (grown_of_below HD.out)⟩
          case measure => simp [intOf]; omega
        · obtain ⟨J, hJ⟩ : ∃ J, q.length = J := ⟨_, rfl⟩
          have hL0 := HL.out
          simp only [List.length_cons] at hqk hL0 ⊢
          rw [hJ] at hqk hL0 ⊢
          have HJ := Lib.hid hJ
          have hlen : J + 1 < (onWayC (y :: q) m (o.drop (k + 1)) x).length := by rw [onWayC_len]; simp; omega
          have hlen2 : J < (onWayC (y :: q) m (o.drop (k + 1)) x).length := by omega
          have hc1 := harr.cell hlen
          have hc2 := harr.cell hlen2
          have hz1 := harr.frozen
          rw [show J + 1 = (y :: q).length by simp [hJ], onWayC_at] at hc1
          rw [← hJ, onWayC_ahead] at hc2
          simp only [List.length_cons] at hc1
          rw [hJ] at hc1 hc2
          obtain ⟨u0, u1, u2, u3, u4⟩ := hc1
          obtain ⟨v0, v1, v2, v3, v4⟩ := hc2
          have hglt := harr.lt
          have wj := wrapNat (show J ≤ 9000000 by omega)
          have i1 : (0 : Int) ≤ (J : Int) := by omega
          have i2 : (J : Int) < o.length := by omega
          have i3 : (J : Int) + 1 < o.length := by omega
          have i4 : decide ((0 : Int) < (J : Int) + 1) = true := decide_eq_true (by omega)
          clear harr hJ hlen hlen2
          by_cases hxy : Cbn.s y < Cbn.s x
          · have HN := Lib.hid (show insC Cbn.s x (isC Cbn.s (o.take k)) = (y :: m).reverse ++ insC Cbn.s x q by rw [HI.out, insC, if_pos hxy]; simp)
            have HY := Lib.hid (cmpI_yes hxy)
            go_wp2_with fail
            refine wp_region_mem (by kernel_rfl) (by kernel_rfl) ?_
            repeat (go_big_quiet_step ((go_at_call 33; exact mem_int (cloFew_c x y _) HY.out)))
            refine wpQuiet_nil ?_
            intro _ hw'
            obtain ⟨⟨wq, hbq⟩, hw''⟩ := hw'
            obtain rfl := hw''.symm
            obtain ⟨hcq, hfq, hzq⟩ := bcell hbq
            try simp [Nat.add_one_le_iff] at hzq
            go_wp2_with fail
            have HD := Lib.hid (show Below wr.heap.size wr wq from (by repeat (first | (with_reducible exact Below.refl _ _) | ((with_reducible refine alloc_ ?_ ?_); (focus (first | exact Nat.le_refl _ | (simp; done) | (simp; omega) | omega))) | ((with_reducible refine set_ ?_ ?_); (focus (first | exact Nat.le_refl _ | (simp; done) | (simp; omega) | omega))) | (with_reducible refine Below.drew ?_) | ((with_reducible refine after_ ?_ (by assumption) ?_); (rotate_left; (focus (first | exact Nat.le_refl _ | (simp; done) | (simp; omega) | omega)))))))
            have hA3 := HA2.out.carry HD.out
            have HA3 := Lib.hid hA3
            have d0 := (HD.out.cell (p := ⟨g, (J + 1) * 5, none⟩) hglt).trans u0
            have d1 := (HD.out.cell (p := ⟨g, (J + 1) * 5 + 1, none⟩) hglt).trans u1
            have d2 := (HD.out.cell (p := ⟨g, (J + 1) * 5 + 2, none⟩) hglt).trans u2
            have d3 := (HD.out.cell (p := ⟨g, (J + 1) * 5 + 3, none⟩) hglt).trans u3
            have d4 := (HD.out.cell (p := ⟨g, (J + 1) * 5 + 4, none⟩) hglt).trans u4
            have e0 := (HD.out.cell (p := ⟨g, J * 5, none⟩) hglt).trans v0
            have e1 := (HD.out.cell (p := ⟨g, J * 5 + 1, none⟩) hglt).trans v1
            have e2 := (HD.out.cell (p := ⟨g, J * 5 + 2, none⟩) hglt).trans v2
            have e3 := (HD.out.cell (p := ⟨g, J * 5 + 3, none⟩) hglt).trans v3
            have e4 := (HD.out.cell (p := ⟨g, J * 5 + 4, none⟩) hglt).trans v4
            have dz := hA3.frozen
            clear hcq hfq hw'' hbq u0 u1 u2 u3 u4 v0 v1 v2 v3 v4 hz1 hA3
            obtain ⟨wd, hwd⟩ : ∃ wd, wd = wq.drew := ⟨_, rfl⟩
            have d0' := (congrArg (fun w => World.cell? w _) hwd).trans d0
            have d1' := (congrArg (fun w => World.cell? w _) hwd).trans d1
            have d2' := (congrArg (fun w => World.cell? w _) hwd).trans d2
            have d3' := (congrArg (fun w => World.cell? w _) hwd).trans d3
            have d4' := (congrArg (fun w => World.cell? w _) hwd).trans d4
            have e0' := (congrArg (fun w => World.cell? w _) hwd).trans e0
            have e1' := (congrArg (fun w => World.cell? w _) hwd).trans e1
            have e2' := (congrArg (fun w => World.cell? w _) hwd).trans e2
            have e3' := (congrArg (fun w => World.cell? w _) hwd).trans e3
            have e4' := (congrArg (fun w => World.cell? w _) hwd).trans e4
            have dz' : ∀ i, wd.frozen? ⟨g, i, none⟩ = false := fun i => by rw [hwd]; exact dz i
            have HWD := Lib.hid hwd
            have hAm := (HA3.out.keep (w' := wd) (by rw [hwd]; rfl)).put (J + 1) y
            have hAn := hAm.cell (i := J) (by have := HJ.out; rw [List.length_set, onWayC_len]; simp; omega)
            rw [nth_setC (by have := HJ.out; rw [onWayC_len]; simp; omega), if_neg (show ¬ J + 1 = J by omega), ← HJ.out, onWayC_ahead, HJ.out] at hAn
            have HM0 := Lib.hid hAn.1
            have HM1 := Lib.hid hAn.2.1
            have HM2 := Lib.hid hAn.2.2.1
            have HM3 := Lib.hid hAn.2.2.2.1
            have HM4 := Lib.hid hAn.2.2.2.2
            have HMZ := Lib.hid hAm.frozen
            clear hAm hAn
            clear d0 d1 d2 d3 d4 e0 e1 e2 e3 e4 dz
            have hst : SwapJ 9 13 15 17 wd (puts wd g ((J + 1) * 5) (Cbn.cells y)) (puts (puts wd g ((J + 1) * 5) (Cbn.cells y)) g (J * 5) (Cbn.cells x)) (Array.replicate 18 false) wq.drew := by rw [← hwd]; exact SwapJ.start
            clear hwd
            refine wp_region_relyC (swapV g o.length cap J x y) (fun L _ w => SwapJ 9 13 15 17 wd (puts wd g ((J + 1) * 5) (Cbn.cells y)) (puts (puts wd g ((J + 1) * 5) (Cbn.cells y)) g (J * 5) (Cbn.cells x)) L w) (by kernel_rfl) (by kernel_rfl) hst ⟨?_, ?_, ?_, ?_, ?_, ?_, ?_, ?_, ?_, ?_, ?_, ?_, ?_, ?_, ?_, ?_, ?_, ?_, trivial⟩ ?_
            · intro L a' w' hs hsz hl hj hf hd KK hK
              have HJ := Lib.hid hj
              have e100 : a'.tmps[0]?.getD undef = .slice (some ⟨g, 0, none⟩) o.length cap := by simpa [Act.eval] using hf 0 (unwritten_of (by kernel_rfl))
              clear hf hd hj hs hl hsz
              go_simp
              exact hK _ _ rfl (HJ.out.put (by decide) (by decide))
            · intro L a' w' hs hsz hl hj hf hd KK hK
              have HJ := Lib.hid hj
              have e109 : a'.tmps[9]?.getD undef = .int .i64 ((J : Int) + 1) := by simpa [Act.eval] using hf 9 (unwritten_of (by kernel_rfl))
              clear hf hd hj hs hl hsz
              go_simp
              exact hK _ _ rfl (HJ.out.put (by decide) (by decide))
            · intro L a' w' hs hsz hl hj hf hd KK hK
              have HJ := Lib.hid hj
              have e100 : a'.tmps[0]?.getD undef = .slice (some ⟨g, 0, none⟩) o.length cap := by simpa [Act.eval] using hf 0 (unwritten_of (by kernel_rfl))
              clear hf hd hj hs hl hsz
              go_simp
              exact hK _ _ rfl (HJ.out.put (by decide) (by decide))
            · intro L a' w' hs hsz hl hj hf hd KK hK
              have HJ := Lib.hid hj
              have e109 : a'.tmps[9]?.getD undef = .int .i64 ((J : Int) + 1) := by simpa [Act.eval] using hf 9 (unwritten_of (by kernel_rfl))
              clear hf hd hj hs hl hsz
              go_simp
              exact hK _ _ rfl (HJ.out.put (by decide) (by decide))
            · intro L a' w' hs hsz hl hj hf hd KK hK
              have HJ := Lib.hid hj
              have e40 : swapV g o.length cap J x y 3 (a'.tmps[40]?.getD undef) := by simpa [Act.eval] using (relyC_dep hd 3 (by kernel_rfl)).2 40 (by kernel_rfl)
              simp only [swapV] at e40
              clear hf hd hj hs hl hsz
              go_simp
              exact hK _ _ rfl (HJ.out.put (by decide) (by decide))
            · intro L a' w' hs hsz hl hj hf hd KK hK
              have HJ := Lib.hid hj
              have e100 : a'.tmps[0]?.getD undef = .slice (some ⟨g, 0, none⟩) o.length cap := by simpa [Act.eval] using hf 0 (unwritten_of (by kernel_rfl))
              clear hf hd hj hs hl hsz
              go_simp
              exact hK _ _ rfl (HJ.out.put (by decide) (by decide))
            · intro L a' w' hs hsz hl hj hf hd KK hK
              have HJ := Lib.hid hj
              have e109 : a'.tmps[9]?.getD undef = .int .i64 ((J : Int) + 1) := by simpa [Act.eval] using hf 9 (unwritten_of (by kernel_rfl))
              clear hf hd hj hs hl hsz
              go_simp
              exact hK _ _ rfl (HJ.out.put (by decide) (by decide))
            · intro L a' w' hs hsz hl hj hf hd KK hK
              have HJ := Lib.hid hj
              have e43 : swapV g o.length cap J x y 6 (a'.tmps[43]?.getD undef) := by simpa [Act.eval] using (relyC_dep hd 6 (by kernel_rfl)).2 43 (by kernel_rfl)
              simp only [swapV] at e43
              clear hf hd hj hs hl hsz
              go_simp
              exact hK _ _ rfl (HJ.out.put (by decide) (by decide))
            · intro L a' w' hs hsz hl hj hf hd KK hK
              have HJ := Lib.hid hj
              have e42 : swapV g o.length cap J x y 5 (a'.tmps[42]?.getD undef) := by simpa [Act.eval] using (relyC_dep hd 5 (by kernel_rfl)).2 42 (by kernel_rfl)
              simp only [swapV] at e42
              have e44 : swapV g o.length cap J x y 7 (a'.tmps[44]?.getD undef) := by simpa [Act.eval] using (relyC_dep hd 7 (by kernel_rfl)).2 44 (by kernel_rfl)
              simp only [swapV] at e44
              clear hf hd hj hs hl hsz
              go_simp
              exact hK _ _ rfl (HJ.out.put (by decide) (by decide))
            · intro L a' w' hs hsz hl hj hf hd KK hK
              have HJ := Lib.hid hj
              have e45 : swapV g o.length cap J x y 8 (a'.tmps[45]?.getD undef) := by simpa [Act.eval] using (relyC_dep hd 8 (by kernel_rfl)).2 45 (by kernel_rfl)
              simp only [swapV] at e45
              obtain rfl := HJ.out.none (.inl hl)
              clear hf hd hj hs hl hsz
              go_simp
              exact hK _ _ rfl (HJ.out.put (by decide) (by decide))
            · intro L a' w' hs hsz hl hj hf hd KK hK
              have HJ := Lib.hid hj
              have e100 : a'.tmps[0]?.getD undef = .slice (some ⟨g, 0, none⟩) o.length cap := by simpa [Act.eval] using hf 0 (unwritten_of (by kernel_rfl))
              clear hf hd hj hs hl hsz
              go_simp
              exact hK _ _ rfl (HJ.out.put (by decide) (by decide))
            · intro L a' w' hs hsz hl hj hf hd KK hK
              have HJ := Lib.hid hj
              have e109 : a'.tmps[9]?.getD undef = .int .i64 ((J : Int) + 1) := by simpa [Act.eval] using hf 9 (unwritten_of (by kernel_rfl))
              clear hf hd hj hs hl hsz
              go_simp
              exact hK _ _ rfl (HJ.out.put (by decide) (by decide))
            · intro L a' w' hs hsz hl hj hf hd KK hK
              have HJ := Lib.hid hj
              have e47 : swapV g o.length cap J x y 10 (a'.tmps[47]?.getD undef) := by simpa [Act.eval] using (relyC_dep hd 10 (by kernel_rfl)).2 47 (by kernel_rfl)
              simp only [swapV] at e47
              have e48 : swapV g o.length cap J x y 11 (a'.tmps[48]?.getD undef) := by simpa [Act.eval] using (relyC_dep hd 11 (by kernel_rfl)).2 48 (by kernel_rfl)
              simp only [swapV] at e48
              clear hf hd hj hs hl hsz
              go_simp
              exact hK _ _ rfl (HJ.out.put (by decide) (by decide))
            · intro L a' w' hs hsz hl hj hf hd KK hK
              have HJ := Lib.hid hj
              have e49 : swapV g o.length cap J x y 12 (a'.tmps[49]?.getD undef) := by simpa [Act.eval] using (relyC_dep hd 12 (by kernel_rfl)).2 49 (by kernel_rfl)
              simp only [swapV] at e49
              obtain rfl := HJ.out.none (.inr (.inl hl))
              clear hf hd hj hs hl hsz
              go_simp
              exact hK _ _ rfl (HJ.out.put (by decide) (by decide))
            · intro L a' w' hs hsz hl hj hf hd KK hK
              have HJ := Lib.hid hj
              have e37 : swapV g o.length cap J x y 0 (a'.tmps[37]?.getD undef) := by simpa [Act.eval] using (relyC_dep hd 0 (by kernel_rfl)).2 37 (by kernel_rfl)
              simp only [swapV] at e37
              have e38 : swapV g o.length cap J x y 1 (a'.tmps[38]?.getD undef) := by simpa [Act.eval] using (relyC_dep hd 1 (by kernel_rfl)).2 38 (by kernel_rfl)
              simp only [swapV] at e38
              clear hf hd hj hs hl hsz
              go_simp
              exact hK _ _ rfl (HJ.out.put (by decide) (by decide))
            · intro L a' w' hs hsz hl hj hf hd KK hK
              have HJ := Lib.hid hj
              have e51 : swapV g o.length cap J x y 14 (a'.tmps[51]?.getD undef) := by simpa [Act.eval] using (relyC_dep hd 14 (by kernel_rfl)).2 51 (by kernel_rfl)
              simp only [swapV] at e51
              have e46 : swapV g o.length cap J x y 9 (a'.tmps[46]?.getD undef) := by simpa [Act.eval] using (relyC_dep hd 9 (by kernel_rfl)).2 46 (by kernel_rfl)
              simp only [swapV] at e46
              obtain rfl := HJ.out.none (.inr (.inr hl))
              have HN := Lib.hid (HJ.out.one hl (relyC_dep hd 9 (by kernel_rfl)).1 (relyC_dep hd 13 (by kernel_rfl)).1 (by decide) (by decide) (by decide))
              clear hf hd hj hs hl hsz
              go_simp
              exact hK (.bool false) _ trivial HN.out
            · intro L a' w' hs hsz hl hj hf hd KK hK
              have HJ := Lib.hid hj
              have e39 : swapV g o.length cap J x y 2 (a'.tmps[39]?.getD undef) := by simpa [Act.eval] using (relyC_dep hd 2 (by kernel_rfl)).2 39 (by kernel_rfl)
              simp only [swapV] at e39
              have e41 : swapV g o.length cap J x y 4 (a'.tmps[41]?.getD undef) := by simpa [Act.eval] using (relyC_dep hd 4 (by kernel_rfl)).2 41 (by kernel_rfl)
              simp only [swapV] at e41
              clear hf hd hj hs hl hsz
              go_simp
              exact hK _ _ rfl (HJ.out.put (by decide) (by decide))
            · intro L a' w' hs hsz hl hj hf hd KK hK
              have HJ := Lib.hid hj
              have e52 : swapV g o.length cap J x y 16 (a'.tmps[52]?.getD undef) := by simpa [Act.eval] using (relyC_dep hd 16 (by kernel_rfl)).2 52 (by kernel_rfl)
              simp only [swapV] at e52
              have e50 : swapV g o.length cap J x y 13 (a'.tmps[50]?.getD undef) := by simpa [Act.eval] using (relyC_dep hd 13 (by kernel_rfl)).2 50 (by kernel_rfl)
              simp only [swapV] at e50
              obtain rfl := HJ.out.mid hl (relyC_dep hd 15 (by kernel_rfl)).1
              have HN := Lib.hid (HJ.out.two hl (relyC_dep hd 15 (by kernel_rfl)).1 (by decide) (by decide) (by decide))
              obtain ⟨wm, hwm⟩ : ∃ wm, wm = (puts wd g ((J + 1) * 5) (Cbn.cells y)) := ⟨_, rfl⟩
              have m0 : wm.cell? ⟨g, J * 5, none⟩ = some (.int .i64 y.n) := by rw [hwm]; exact HM0.out
              have m1 : wm.cell? ⟨g, J * 5 + 1, none⟩ = some (.int .i64 y.s) := by rw [hwm]; exact HM1.out
              have m2 : wm.cell? ⟨g, J * 5 + 2, none⟩ = some (.int .i64 y.e) := by rw [hwm]; exact HM2.out
              have m3 : wm.cell? ⟨g, J * 5 + 3, none⟩ = some (.int .i64 y.t) := by rw [hwm]; exact HM3.out
              have m4 : wm.cell? ⟨g, J * 5 + 4, none⟩ = some (.int .i64 y.r) := by rw [hwm]; exact HM4.out
              have mz : ∀ i, wm.frozen? ⟨g, i, none⟩ = false := fun i => by rw [hwm]; exact HMZ.out i
              have HWM := Lib.hid hwm
              rw [← hwm]
              clear hwm HJ hf hd hj hs hl hsz
              go_simp
              exact hK (.bool false) _ trivial (by rw [HWM.out]; exact HN.out)
            intro L a' w' hj hL hsz hdf hfr hvs
            obtain rfl := hj.done hL (by decide)
            obtain ⟨tm, df⟩ := a'
            obtain ⟨ts, rfl⟩ : ∃ ts : List Value, tm = ts.toArray := ⟨tm.toList, by simp⟩
            simp only at hdf
            subst hdf
            have hlen : ts.length = 53 := by simpa using hsz
            have f0 := hfr 0 (unwritten_of (by kernel_rfl))
            have f1 := hfr 1 (unwritten_of (by kernel_rfl))
            have f2 := hfr 2 (unwritten_of (by kernel_rfl))
            have f3 := hfr 3 (unwritten_of (by kernel_rfl))
            have f4 := hfr 4 (unwritten_of (by kernel_rfl))
            have f5 := hfr 5 (unwritten_of (by kernel_rfl))
            have f6 := hfr 6 (unwritten_of (by kernel_rfl))
            have f7 := hfr 7 (unwritten_of (by kernel_rfl))
            have f8 := hfr 8 (unwritten_of (by kernel_rfl))
            have f9 := hfr 9 (unwritten_of (by kernel_rfl))
            have f10 := hfr 10 (unwritten_of (by kernel_rfl))
            have f11 := hfr 11 (unwritten_of (by kernel_rfl))
            have f12 := hfr 12 (unwritten_of (by kernel_rfl))
            have f13 := hfr 13 (unwritten_of (by kernel_rfl))
            have f14 := hfr 14 (unwritten_of (by kernel_rfl))
            have f15 := hfr 15 (unwritten_of (by kernel_rfl))
            have f16 := hfr 16 (unwritten_of (by kernel_rfl))
            have f17 := hfr 17 (unwritten_of (by kernel_rfl))
            have f18 := hfr 18 (unwritten_of (by kernel_rfl))
            have f19 := hfr 19 (unwritten_of (by kernel_rfl))
            have f20 := hfr 20 (unwritten_of (by kernel_rfl))
            have f21 := hfr 21 (unwritten_of (by kernel_rfl))
            have f22 := hfr 22 (unwritten_of (by kernel_rfl))
            have f23 := hfr 23 (unwritten_of (by kernel_rfl))
            have f24 := hfr 24 (unwritten_of (by kernel_rfl))
            have f25 := hfr 25 (unwritten_of (by kernel_rfl))
            have f26 := hfr 26 (unwritten_of (by kernel_rfl))
            have f27 := hfr 27 (unwritten_of (by kernel_rfl))
            have f28 := hfr 28 (unwritten_of (by kernel_rfl))
            have f29 := hfr 29 (unwritten_of (by kernel_rfl))
            have f30 := hfr 30 (unwritten_of (by kernel_rfl))
            have f31 := hfr 31 (unwritten_of (by kernel_rfl))
            have f32 := hfr 32 (unwritten_of (by kernel_rfl))
            have f33 := hfr 33 (unwritten_of (by kernel_rfl))
            have f34 := hfr 34 (unwritten_of (by kernel_rfl))
            have f35 := hfr 35 (unwritten_of (by kernel_rfl))
            have f36 := hfr 36 (unwritten_of (by kernel_rfl))
            clear hfr hvs hsz hj hL
            rcases ts with _ | ⟨y0, ts⟩
            · simp at hlen
            rcases ts with _ | ⟨y1, ts⟩
            · simp at hlen
            rcases ts with _ | ⟨y2, ts⟩
            · simp at hlen
            rcases ts with _ | ⟨y3, ts⟩
            · simp at hlen
            rcases ts with _ | ⟨y4, ts⟩
            · simp at hlen
            rcases ts with _ | ⟨y5, ts⟩
            · simp at hlen
            rcases ts with _ | ⟨y6, ts⟩
            · simp at hlen
            rcases ts with _ | ⟨y7, ts⟩
            · simp at hlen
            rcases ts with _ | ⟨y8, ts⟩
            · simp at hlen
            rcases ts with _ | ⟨y9, ts⟩
            · simp at hlen
            rcases ts with _ | ⟨y10, ts⟩
            · simp at hlen
            rcases ts with _ | ⟨y11, ts⟩
            · simp at hlen
            rcases ts with _ | ⟨y12, ts⟩
            · simp at hlen
            rcases ts with _ | ⟨y13, ts⟩
            · simp at hlen
            rcases ts with _ | ⟨y14, ts⟩
            · simp at hlen
            rcases ts with _ | ⟨y15, ts⟩
            · simp at hlen
            rcases ts with _ | ⟨y16, ts⟩
            · simp at hlen
            rcases ts with _ | ⟨y17, ts⟩
            · simp at hlen
            rcases ts with _ | ⟨y18, ts⟩
            · simp at hlen
            rcases ts with _ | ⟨y19, ts⟩
            · simp at hlen
            rcases ts with _ | ⟨y20, ts⟩
            · simp at hlen
            rcases ts with _ | ⟨y21, ts⟩
            · simp at hlen
            rcases ts with _ | ⟨y22, ts⟩
            · simp at hlen
            rcases ts with _ | ⟨y23, ts⟩
            · simp at hlen
            rcases ts with _ | ⟨y24, ts⟩
            · simp at hlen
            rcases ts with _ | ⟨y25, ts⟩
            · simp at hlen
            rcases ts with _ | ⟨y26, ts⟩
            · simp at hlen
            rcases ts with _ | ⟨y27, ts⟩
            · simp at hlen
            rcases ts with _ | ⟨y28, ts⟩
            · simp at hlen
            rcases ts with _ | ⟨y29, ts⟩
            · simp at hlen
            rcases ts with _ | ⟨y30, ts⟩
            · simp at hlen
            rcases ts with _ | ⟨y31, ts⟩
            · simp at hlen
            rcases ts with _ | ⟨y32, ts⟩
            · simp at hlen
            rcases ts with _ | ⟨y33, ts⟩
            · simp at hlen
            rcases ts with _ | ⟨y34, ts⟩
            · simp at hlen
            rcases ts with _ | ⟨y35, ts⟩
            · simp at hlen
            rcases ts with _ | ⟨y36, ts⟩
            · simp at hlen
            rcases ts with _ | ⟨y37, ts⟩
            · simp at hlen
            rcases ts with _ | ⟨y38, ts⟩
            · simp at hlen
            rcases ts with _ | ⟨y39, ts⟩
            · simp at hlen
            rcases ts with _ | ⟨y40, ts⟩
            · simp at hlen
            rcases ts with _ | ⟨y41, ts⟩
            · simp at hlen
            rcases ts with _ | ⟨y42, ts⟩
            · simp at hlen
            rcases ts with _ | ⟨y43, ts⟩
            · simp at hlen
            rcases ts with _ | ⟨y44, ts⟩
            · simp at hlen
            rcases ts with _ | ⟨y45, ts⟩
            · simp at hlen
            rcases ts with _ | ⟨y46, ts⟩
            · simp at hlen
            rcases ts with _ | ⟨y47, ts⟩
            · simp at hlen
            rcases ts with _ | ⟨y48, ts⟩
            · simp at hlen
            rcases ts with _ | ⟨y49, ts⟩
            · simp at hlen
            rcases ts with _ | ⟨y50, ts⟩
            · simp at hlen
            rcases ts with _ | ⟨y51, ts⟩
            · simp at hlen
            rcases ts with _ | ⟨y52, ts⟩
            · simp at hlen
            obtain rfl : ts = [] := List.eq_nil_of_length_eq_zero (by simpa using hlen)
            simp only [Act.eval, Array.getD_eq_getD_getElem?, List.getElem?_toArray, List.getElem?_cons_succ, List.getElem?_cons_zero, Option.getD_some] at f0 f1 f2 f3 f4 f5 f6 f7 f8 f9 f10 f11 f12 f13 f14 f15 f16 f17 f18 f19 f20 f21 f22 f23 f24 f25 f26 f27 f28 f29 f30 f31 f32 f33 f34 f35 f36
            subst f0 f1 f2 f3 f4 f5 f6 f7 f8 f9 f10 f11 f12 f13 f14 f15 f16 f17 f18 f19 f20 f21 f22 f23 f24 f25 f26 f27 f28 f29 f30 f31 f32 f33 f34 f35 f36
            clear hlen
            go_wp2_with fail
            go_roundw
            case rel => exact ⟨q, y :: m, by rw [HJ.out], by rw [HJ.out]; omega, HN.out, by rw [HJ.out]; simp; omega, by
              have h9 := (HA3.out.put (J + 1) y).put J x
              rw [← HJ.out, onWayC_swap, HJ.out] at h9
              exact h9.keep (by rw [HWD.out]; rfl), by
              rw [HWD.out]
              exact grown_puts _ _ (grown_puts _ _ ((HG2.out.trans (grown_of_below HD.out)).trans (grown_of_below (Below.refl _ _).drew)))⟩
            case measure => simp [intOf]
          · have HN := Lib.hid (show onWayC (y :: q) m (o.drop (k + 1)) x = (isC Cbn.s (o.take (k + 1))).reverse ++ o.drop (k + 1) by
              rw [HM.out, HI.out, insC, if_neg hxy]; simp [onWayC])
            obtain ⟨c, hc, hc0⟩ := cmpI_no hxy
            have HY := Lib.hid hc
            clear hxy hc
            go_wp2_with fail
            refine wp_region_mem (by kernel_rfl) (by kernel_rfl) ?_
            repeat (go_big_quiet_step ((go_at_call 33; exact mem_int (cloFew_c x y _) HY.out)))
            refine wpQuiet_nil ?_
            intro _ hw'
            obtain ⟨⟨wq, hbq⟩, hw''⟩ := hw'
            obtain rfl := hw''.symm
            obtain ⟨hcq, hfq, hzq⟩ := bcell hbq
            try simp [Nat.add_one_le_iff] at hzq
            have HD := Lib.hid (show Below wr.heap.size wr wq from (by repeat (first | (with_reducible exact Below.refl _ _) | ((with_reducible refine alloc_ ?_ ?_); (focus (first | exact Nat.le_refl _ | (simp; done) | (simp; omega) | omega))) | ((with_reducible refine set_ ?_ ?_); (focus (first | exact Nat.le_refl _ | (simp; done) | (simp; omega) | omega))) | (with_reducible refine Below.drew ?_) | ((with_reducible refine after_ ?_ (by assumption) ?_); (rotate_left; (focus (first | exact Nat.le_refl _ | (simp; done) | (simp; omega) | omega)))))))
            go_wp2_with fail
            go_roundw
            case rel => exact ⟨k + 1, by omega, .inl (by omega), by go_num, by rw [← HN.out]; exact HA2.out.carry HD.out, HG2.out.trans (grown_of_below HD.out)⟩
            case measure => simp [intOf]; omega
    · have HE := Lib.hid (show (isC Cbn.s (o.take k)).reverse ++ o.drop k = ordC Cbn.s o by rw [List.take_of_length_le (by omega), List.drop_eq_nil_of_le (by omega), List.append_nil]; rfl)
      go_wp2_with fail
      go_end0
      exact ⟨rfl, by rw [← HE.out]; exact HA.out, HG.out⟩
theorem stableFew_c (o : List Cbn) (g cap : Nat) (w : World) (hl : o.length ≤ 12) (ha : ArrC w g o) :
    Calls Try.prog 51 #[.slice (some ⟨g, 0, none⟩) o.length cap, .int .i64 o.length, .func (.func 33) #[] #[]] w (SortPostC Cbn.s o g w) := by
  have HA := Lib.hid ha
  have n1 : ¬ (20 : Int) ≤ o.length := by omega
  have n2 : ¬ (20 : Int) < o.length := by omega
  clear ha
  go_enter Try.func51, Try.ntmps51
  go_wp2_with fail
  refine wp_loop_rounds 1 ?_
  rw [rounds_succ]
  go_wp2_with fail
  refine (insertionFew_c o g cap _ hl HA.out).mono ?_
  rintro e w1 ⟨rfl, ha1, hg1⟩
  have HA1 := Lib.hid ha1
  have HG1 := Lib.hid hg1
  clear ha1 hg1
  go_wp2_with fail
  refine wp_loop_rounds 1 ?_
  rw [rounds_succ]
  go_wp2_with fail
  go_end0
  exact ⟨rfl, HA1.out, HG1.out⟩
theorem sortFew_c (o : List Cbn) (g cap : Nat) (w : World) (hl : o.length ≤ 12) (ha : ArrC w g o) :
    Calls Try.prog 32 #[.slice (some ⟨g, 0, none⟩) o.length cap, .func (.func 33) #[] #[]] w (SortPostC Cbn.s o g w) := by
  have HA := Lib.hid ha
  clear ha
  go_enter Try.func32, Try.ntmps32
  go_wp2_with fail
  refine (stableFew_c o g cap _ hl HA.out).mono ?_
  rintro e w1 ⟨rfl, ha1, hg1⟩
  have HA1 := Lib.hid ha1
  have HG1 := Lib.hid hg1
  clear ha1 hg1
  go_wp2_with fail
  go_end0
  exact ⟨rfl, HA1.out, HG1.out⟩
theorem cloWorn_c (x y : Cbn) (w : World) : Calls Try.prog 44 #[.agg #[.int .i64 x.n, .int .i64 x.s, .int .i64 x.e, .int .i64 x.t, .int .i64 x.r], .agg #[.int .i64 y.n, .int .i64 y.s, .int .i64 y.e, .int .i64 y.t, .int .i64 y.r]] w fun e w' => e = .returned (.int .i64 (cmpI y.r x.r)) ∧ Below w.heap.size w w' := by
  go_enter Try.func44, Try.ntmps44
  go_wp2_with (go_at_call 34; refine (compare_c _ _ _).mono ?_; rintro e w' ⟨rfl, rfl⟩)
  go_ret
  exact ⟨rfl, (by repeat (first | (with_reducible exact Below.refl _ _) | ((with_reducible refine alloc_ ?_ ?_); (focus (first | exact Nat.le_refl _ | (simp; done) | (simp; omega) | omega))) | ((with_reducible refine set_ ?_ ?_); (focus (first | exact Nat.le_refl _ | (simp; done) | (simp; omega) | omega))) | (with_reducible refine Below.drew ?_) | ((with_reducible refine after_ ?_ (by assumption) ?_); (rotate_left; (focus (first | exact Nat.le_refl _ | (simp; done) | (simp; omega) | omega))))))⟩
set_option maxHeartbeats 3200000 in
theorem insertionWorn_c (o : List Cbn) (g cap : Nat) (w : World) (hl : o.length ≤ 12) (ha : ArrC w g o) :
    Calls Try.prog 56 #[.slice (some ⟨g, 0, none⟩) o.length cap, .int .i64 0, .int .i64 o.length, .func (.func 44) #[] #[]] w (SortPostC Cbn.r o g w) := by
  have HA0 := Lib.hid ha
  clear ha
  go_enter Try.func56, Try.ntmps56
  go_wp2_with fail
  go_loopw [8, 9] (fun i _ wr => ∃ k : Nat, 1 ≤ k ∧ (k ≤ o.length ∨ k = 1) ∧ i = .int .i64 k ∧ ArrC wr g ((isC Cbn.r (o.take k)).reverse ++ o.drop k) ∧ w.grownBy wr (some g)) (fun i _ _ => o.length - (intOf i).toNat)
  case atStart => exact ⟨1, Nat.le_refl _, .inr rfl, rfl, by rw [ordC_start]; exact HA0.out, World.grownBy.refl _ _⟩
  case round =>
    obtain ⟨k, hk1, hk, rfl, harr, hgr⟩ := hrel
    have HA := Lib.hid harr
    have HG := Lib.hid hgr
    clear harr hgr
    by_cases hlt : k < o.length
    · have HM := Lib.hid (isC_more (key := Cbn.r) hlt)
      have HQl := Lib.hid (show (isC Cbn.r (o.take k)).length = k by rw [isC_len]; simp; omega)
      have HS := Lib.hid (onWayC_start (key := Cbn.r) hlt)
      obtain ⟨x, hx⟩ : ∃ x, nth o k = x := ⟨_, rfl⟩
      rw [hx] at HM HS
      clear hx
      go_wp2_with fail
      go_loopw [9] (fun j wr => ∃ q m : List Cbn, j = .int .i64 q.length ∧ q.length ≤ k ∧ insC Cbn.r x (isC Cbn.r (o.take k)) = m.reverse ++ insC Cbn.r x q ∧ q.length + m.length = k ∧ ArrC wr g (onWayC q m (o.drop (k + 1)) x) ∧ w.grownBy wr (some g)) (fun j _ => (intOf j).toNat)
      case atStart => exact ⟨isC Cbn.r (o.take k), [], by rw [HQl.out], by rw [HQl.out]; exact Nat.le_refl _, rfl, by rw [HQl.out]; rfl, by rw [← HS.out]; exact HA.out, HG.out⟩
      case round =>
        obtain ⟨q, m, rfl, hqk, hins, hqm, harr, hgr⟩ := hrel
        have HI := Lib.hid hins
        have HA2 := Lib.hid harr
        have HG2 := Lib.hid hgr
        have HL := Lib.hid hqm
        clear hins hqm hgr
        rcases q with _ | ⟨y, q⟩
        · clear harr
          simp only [List.length_nil]
          have hz0 : decide ((0 : Int) < ((0 : Nat) : Int)) = false := rfl
          have HN := Lib.hid (show onWayC [] m (o.drop (k + 1)) x = (isC Cbn.r (o.take (k + 1))).reverse ++ o.drop (k + 1) by
            rw [HM.out, HI.out]; simp [onWayC, insC])
          go_wp2_with fail
          refine wp_region_mem (by kernel_rfl) (by kernel_rfl) ?_
          repeat (go_big_quiet_step (fail))
          refine wpQuiet_nil ?_
          intro _ hw'
          obtain ⟨⟨wq, hbq⟩, hw''⟩ := hw'
          obtain rfl := hw''.symm
          obtain ⟨hcq, hfq, hzq⟩ := bcell hbq
          try simp [Nat.add_one_le_iff] at hzq
          have HD := Lib.hid (show Below wr.heap.size wr wq from (by repeat (first | (with_reducible exact Below.refl _ _) | ((with_reducible refine alloc_ ?_ ?_); (focus (first | exact Nat.le_refl _ | (simp; done) | (simp; omega) | omega))) | ((with_reducible refine set_ ?_ ?_); (focus (first | exact Nat.le_refl _ | (simp; done) | (simp; omega) | omega))) | (with_reducible refine Below.drew ?_) | ((with_reducible refine after_ ?_ (by assumption) ?_); (rotate_left; (focus (first | exact Nat.le_refl _ | (simp; done) | (simp; omega) | omega)))))))
          go_wp2_with fail
          go_roundw
          case rel => exact ⟨k + 1, by omega, .inl (by omega), by go_num, by rw [← HN.out]; exact HA2.out.carry HD.out, HG2.out.trans (grown_of_below HD.out)⟩
          case measure => simp [intOf]; omega
        · obtain ⟨J, hJ⟩ : ∃ J, q.length = J := ⟨_, rfl⟩
          have hL0 := HL.out
          simp only [List.length_cons] at hqk hL0 ⊢
          rw [hJ] at hqk hL0 ⊢
          have HJ := Lib.hid hJ
          have hlen : J + 1 < (onWayC (y :: q) m (o.drop (k + 1)) x).length := by rw [onWayC_len]; simp; omega
          have hlen2 : J < (onWayC (y :: q) m (o.drop (k + 1)) x).length := by omega
          have hc1 := harr.cell hlen
          have hc2 := harr.cell hlen2
          have hz1 := harr.frozen
          rw [show J + 1 = (y :: q).length by simp [hJ], onWayC_at] at hc1
          rw [← hJ, onWayC_ahead] at hc2
          simp only [List.length_cons] at hc1
          rw [hJ] at hc1 hc2
          obtain ⟨u0, u1, u2, u3, u4⟩ := hc1
          obtain ⟨v0, v1, v2, v3, v4⟩ := hc2
          have hglt := harr.lt
          have wj := wrapNat (show J ≤ 9000000 by omega)
          have i1 : (0 : Int) ≤ (J : Int) := by omega
          have i2 : (J : Int) < o.length := by omega
          have i3 : (J : Int) + 1 < o.length := by omega
          have i4 : decide ((0 : Int) < (J : Int) + 1) = true := decide_eq_true (by omega)
          clear harr hJ hlen hlen2
          by_cases hxy : Cbn.r y < Cbn.r x
          · have HN := Lib.hid (show insC Cbn.r x (isC Cbn.r (o.take k)) = (y :: m).reverse ++ insC Cbn.r x q by rw [HI.out, insC, if_pos hxy]; simp)
            have HY := Lib.hid (cmpI_yes hxy)
            go_wp2_with fail
            refine wp_region_mem (by kernel_rfl) (by kernel_rfl) ?_
            repeat (go_big_quiet_step ((go_at_call 44; exact mem_int (cloWorn_c x y _) HY.out)))
            refine wpQuiet_nil ?_
            intro _ hw'
            obtain ⟨⟨wq, hbq⟩, hw''⟩ := hw'
            obtain rfl := hw''.symm
            obtain ⟨hcq, hfq, hzq⟩ := bcell hbq
            try simp [Nat.add_one_le_iff] at hzq
            go_wp2_with fail
            have HD := Lib.hid (show Below wr.heap.size wr wq from (by repeat (first | (with_reducible exact Below.refl _ _) | ((with_reducible refine alloc_ ?_ ?_); (focus (first | exact Nat.le_refl _ | (simp; done) | (simp; omega) | omega))) | ((with_reducible refine set_ ?_ ?_); (focus (first | exact Nat.le_refl _ | (simp; done) | (simp; omega) | omega))) | (with_reducible refine Below.drew ?_) | ((with_reducible refine after_ ?_ (by assumption) ?_); (rotate_left; (focus (first | exact Nat.le_refl _ | (simp; done) | (simp; omega) | omega)))))))
            have hA3 := HA2.out.carry HD.out
            have HA3 := Lib.hid hA3
            have d0 := (HD.out.cell (p := ⟨g, (J + 1) * 5, none⟩) hglt).trans u0
            have d1 := (HD.out.cell (p := ⟨g, (J + 1) * 5 + 1, none⟩) hglt).trans u1
            have d2 := (HD.out.cell (p := ⟨g, (J + 1) * 5 + 2, none⟩) hglt).trans u2
            have d3 := (HD.out.cell (p := ⟨g, (J + 1) * 5 + 3, none⟩) hglt).trans u3
            have d4 := (HD.out.cell (p := ⟨g, (J + 1) * 5 + 4, none⟩) hglt).trans u4
            have e0 := (HD.out.cell (p := ⟨g, J * 5, none⟩) hglt).trans v0
            have e1 := (HD.out.cell (p := ⟨g, J * 5 + 1, none⟩) hglt).trans v1
            have e2 := (HD.out.cell (p := ⟨g, J * 5 + 2, none⟩) hglt).trans v2
            have e3 := (HD.out.cell (p := ⟨g, J * 5 + 3, none⟩) hglt).trans v3
            have e4 := (HD.out.cell (p := ⟨g, J * 5 + 4, none⟩) hglt).trans v4
            have dz := hA3.frozen
            clear hcq hfq hw'' hbq u0 u1 u2 u3 u4 v0 v1 v2 v3 v4 hz1 hA3
            obtain ⟨wd, hwd⟩ : ∃ wd, wd = wq.drew := ⟨_, rfl⟩
            have d0' := (congrArg (fun w => World.cell? w _) hwd).trans d0
            have d1' := (congrArg (fun w => World.cell? w _) hwd).trans d1
            have d2' := (congrArg (fun w => World.cell? w _) hwd).trans d2
            have d3' := (congrArg (fun w => World.cell? w _) hwd).trans d3
            have d4' := (congrArg (fun w => World.cell? w _) hwd).trans d4
            have e0' := (congrArg (fun w => World.cell? w _) hwd).trans e0
            have e1' := (congrArg (fun w => World.cell? w _) hwd).trans e1
            have e2' := (congrArg (fun w => World.cell? w _) hwd).trans e2
            have e3' := (congrArg (fun w => World.cell? w _) hwd).trans e3
            have e4' := (congrArg (fun w => World.cell? w _) hwd).trans e4
            have dz' : ∀ i, wd.frozen? ⟨g, i, none⟩ = false := fun i => by rw [hwd]; exact dz i
            have HWD := Lib.hid hwd
            have hAm := (HA3.out.keep (w' := wd) (by rw [hwd]; rfl)).put (J + 1) y
            have hAn := hAm.cell (i := J) (by have := HJ.out; rw [List.length_set, onWayC_len]; simp; omega)
            rw [nth_setC (by have := HJ.out; rw [onWayC_len]; simp; omega), if_neg (show ¬ J + 1 = J by omega), ← HJ.out, onWayC_ahead, HJ.out] at hAn
            have HM0 := Lib.hid hAn.1
            have HM1 := Lib.hid hAn.2.1
            have HM2 := Lib.hid hAn.2.2.1
            have HM3 := Lib.hid hAn.2.2.2.1
            have HM4 := Lib.hid hAn.2.2.2.2
            have HMZ := Lib.hid hAm.frozen
            clear hAm hAn
            clear d0 d1 d2 d3 d4 e0 e1 e2 e3 e4 dz
            have hst : SwapJ 9 13 15 17 wd (puts wd g ((J + 1) * 5) (Cbn.cells y)) (puts (puts wd g ((J + 1) * 5) (Cbn.cells y)) g (J * 5) (Cbn.cells x)) (Array.replicate 18 false) wq.drew := by rw [← hwd]; exact SwapJ.start
            clear hwd
            refine wp_region_relyC (swapV g o.length cap J x y) (fun L _ w => SwapJ 9 13 15 17 wd (puts wd g ((J + 1) * 5) (Cbn.cells y)) (puts (puts wd g ((J + 1) * 5) (Cbn.cells y)) g (J * 5) (Cbn.cells x)) L w) (by kernel_rfl) (by kernel_rfl) hst ⟨?_, ?_, ?_, ?_, ?_, ?_, ?_, ?_, ?_, ?_, ?_, ?_, ?_, ?_, ?_, ?_, ?_, ?_, trivial⟩ ?_
            · intro L a' w' hs hsz hl hj hf hd KK hK
              have HJ := Lib.hid hj
              have e100 : a'.tmps[0]?.getD undef = .slice (some ⟨g, 0, none⟩) o.length cap := by simpa [Act.eval] using hf 0 (unwritten_of (by kernel_rfl))
              clear hf hd hj hs hl hsz
              go_simp
              exact hK _ _ rfl (HJ.out.put (by decide) (by decide))
            · intro L a' w' hs hsz hl hj hf hd KK hK
              have HJ := Lib.hid hj
              have e109 : a'.tmps[9]?.getD undef = .int .i64 ((J : Int) + 1) := by simpa [Act.eval] using hf 9 (unwritten_of (by kernel_rfl))
              clear hf hd hj hs hl hsz
              go_simp
              exact hK _ _ rfl (HJ.out.put (by decide) (by decide))
            · intro L a' w' hs hsz hl hj hf hd KK hK
              have HJ := Lib.hid hj
              have e100 : a'.tmps[0]?.getD undef = .slice (some ⟨g, 0, none⟩) o.length cap := by simpa [Act.eval] using hf 0 (unwritten_of (by kernel_rfl))
              clear hf hd hj hs hl hsz
              go_simp
              exact hK _ _ rfl (HJ.out.put (by decide) (by decide))
            · intro L a' w' hs hsz hl hj hf hd KK hK
              have HJ := Lib.hid hj
              have e109 : a'.tmps[9]?.getD undef = .int .i64 ((J : Int) + 1) := by simpa [Act.eval] using hf 9 (unwritten_of (by kernel_rfl))
              clear hf hd hj hs hl hsz
              go_simp
              exact hK _ _ rfl (HJ.out.put (by decide) (by decide))
            · intro L a' w' hs hsz hl hj hf hd KK hK
              have HJ := Lib.hid hj
              have e40 : swapV g o.length cap J x y 3 (a'.tmps[40]?.getD undef) := by simpa [Act.eval] using (relyC_dep hd 3 (by kernel_rfl)).2 40 (by kernel_rfl)
              simp only [swapV] at e40
              clear hf hd hj hs hl hsz
              go_simp
              exact hK _ _ rfl (HJ.out.put (by decide) (by decide))
            · intro L a' w' hs hsz hl hj hf hd KK hK
              have HJ := Lib.hid hj
              have e100 : a'.tmps[0]?.getD undef = .slice (some ⟨g, 0, none⟩) o.length cap := by simpa [Act.eval] using hf 0 (unwritten_of (by kernel_rfl))
              clear hf hd hj hs hl hsz
              go_simp
              exact hK _ _ rfl (HJ.out.put (by decide) (by decide))
            · intro L a' w' hs hsz hl hj hf hd KK hK
              have HJ := Lib.hid hj
              have e109 : a'.tmps[9]?.getD undef = .int .i64 ((J : Int) + 1) := by simpa [Act.eval] using hf 9 (unwritten_of (by kernel_rfl))
              clear hf hd hj hs hl hsz
              go_simp
              exact hK _ _ rfl (HJ.out.put (by decide) (by decide))
            · intro L a' w' hs hsz hl hj hf hd KK hK
              have HJ := Lib.hid hj
              have e43 : swapV g o.length cap J x y 6 (a'.tmps[43]?.getD undef) := by simpa [Act.eval] using (relyC_dep hd 6 (by kernel_rfl)).2 43 (by kernel_rfl)
              simp only [swapV] at e43
              clear hf hd hj hs hl hsz
              go_simp
              exact hK _ _ rfl (HJ.out.put (by decide) (by decide))
            · intro L a' w' hs hsz hl hj hf hd KK hK
              have HJ := Lib.hid hj
              have e42 : swapV g o.length cap J x y 5 (a'.tmps[42]?.getD undef) := by simpa [Act.eval] using (relyC_dep hd 5 (by kernel_rfl)).2 42 (by kernel_rfl)
              simp only [swapV] at e42
              have e44 : swapV g o.length cap J x y 7 (a'.tmps[44]?.getD undef) := by simpa [Act.eval] using (relyC_dep hd 7 (by kernel_rfl)).2 44 (by kernel_rfl)
              simp only [swapV] at e44
              clear hf hd hj hs hl hsz
              go_simp
              exact hK _ _ rfl (HJ.out.put (by decide) (by decide))
            · intro L a' w' hs hsz hl hj hf hd KK hK
              have HJ := Lib.hid hj
              have e45 : swapV g o.length cap J x y 8 (a'.tmps[45]?.getD undef) := by simpa [Act.eval] using (relyC_dep hd 8 (by kernel_rfl)).2 45 (by kernel_rfl)
              simp only [swapV] at e45
              obtain rfl := HJ.out.none (.inl hl)
              clear hf hd hj hs hl hsz
              go_simp
              exact hK _ _ rfl (HJ.out.put (by decide) (by decide))
            · intro L a' w' hs hsz hl hj hf hd KK hK
              have HJ := Lib.hid hj
              have e100 : a'.tmps[0]?.getD undef = .slice (some ⟨g, 0, none⟩) o.length cap := by simpa [Act.eval] using hf 0 (unwritten_of (by kernel_rfl))
              clear hf hd hj hs hl hsz
              go_simp
              exact hK _ _ rfl (HJ.out.put (by decide) (by decide))
            · intro L a' w' hs hsz hl hj hf hd KK hK
              have HJ := Lib.hid hj
              have e109 : a'.tmps[9]?.getD undef = .int .i64 ((J : Int) + 1) := by simpa [Act.eval] using hf 9 (unwritten_of (by kernel_rfl))
              clear hf hd hj hs hl hsz
              go_simp
              exact hK _ _ rfl (HJ.out.put (by decide) (by decide))
            · intro L a' w' hs hsz hl hj hf hd KK hK
              have HJ := Lib.hid hj
              have e47 : swapV g o.length cap J x y 10 (a'.tmps[47]?.getD undef) := by simpa [Act.eval] using (relyC_dep hd 10 (by kernel_rfl)).2 47 (by kernel_rfl)
              simp only [swapV] at e47
              have e48 : swapV g o.length cap J x y 11 (a'.tmps[48]?.getD undef) := by simpa [Act.eval] using (relyC_dep hd 11 (by kernel_rfl)).2 48 (by kernel_rfl)
              simp only [swapV] at e48
              clear hf hd hj hs hl hsz
              go_simp
              exact hK _ _ rfl (HJ.out.put (by decide) (by decide))
            · intro L a' w' hs hsz hl hj hf hd KK hK
              have HJ := Lib.hid hj
              have e49 : swapV g o.length cap J x y 12 (a'.tmps[49]?.getD undef) := by simpa [Act.eval] using (relyC_dep hd 12 (by kernel_rfl)).2 49 (by kernel_rfl)
              simp only [swapV] at e49
              obtain rfl := HJ.out.none (.inr (.inl hl))
              clear hf hd hj hs hl hsz
              go_simp
              exact hK _ _ rfl (HJ.out.put (by decide) (by decide))
            · intro L a' w' hs hsz hl hj hf hd KK hK
              have HJ := Lib.hid hj
              have e37 : swapV g o.length cap J x y 0 (a'.tmps[37]?.getD undef) := by simpa [Act.eval] using (relyC_dep hd 0 (by kernel_rfl)).2 37 (by kernel_rfl)
              simp only [swapV] at e37
              have e38 : swapV g o.length cap J x y 1 (a'.tmps[38]?.getD undef) := by simpa [Act.eval] using (relyC_dep hd 1 (by kernel_rfl)).2 38 (by kernel_rfl)
              simp only [swapV] at e38
              clear hf hd hj hs hl hsz
              go_simp
              exact hK _ _ rfl (HJ.out.put (by decide) (by decide))
            · intro L a' w' hs hsz hl hj hf hd KK hK
              have HJ := Lib.hid hj
              have e51 : swapV g o.length cap J x y 14 (a'.tmps[51]?.getD undef) := by simpa [Act.eval] using (relyC_dep hd 14 (by kernel_rfl)).2 51 (by kernel_rfl)
              simp only [swapV] at e51
              have e46 : swapV g o.length cap J x y 9 (a'.tmps[46]?.getD undef) := by simpa [Act.eval] using (relyC_dep hd 9 (by kernel_rfl)).2 46 (by kernel_rfl)
              simp only [swapV] at e46
              obtain rfl := HJ.out.none (.inr (.inr hl))
              have HN := Lib.hid (HJ.out.one hl (relyC_dep hd 9 (by kernel_rfl)).1 (relyC_dep hd 13 (by kernel_rfl)).1 (by decide) (by decide) (by decide))
              clear hf hd hj hs hl hsz
              go_simp
              exact hK (.bool false) _ trivial HN.out
            · intro L a' w' hs hsz hl hj hf hd KK hK
              have HJ := Lib.hid hj
              have e39 : swapV g o.length cap J x y 2 (a'.tmps[39]?.getD undef) := by simpa [Act.eval] using (relyC_dep hd 2 (by kernel_rfl)).2 39 (by kernel_rfl)
              simp only [swapV] at e39
              have e41 : swapV g o.length cap J x y 4 (a'.tmps[41]?.getD undef) := by simpa [Act.eval] using (relyC_dep hd 4 (by kernel_rfl)).2 41 (by kernel_rfl)
              simp only [swapV] at e41
              clear hf hd hj hs hl hsz
              go_simp
              exact hK _ _ rfl (HJ.out.put (by decide) (by decide))
            · intro L a' w' hs hsz hl hj hf hd KK hK
              have HJ := Lib.hid hj
              have e52 : swapV g o.length cap J x y 16 (a'.tmps[52]?.getD undef) := by simpa [Act.eval] using (relyC_dep hd 16 (by kernel_rfl)).2 52 (by kernel_rfl)
              simp only [swapV] at e52
              have e50 : swapV g o.length cap J x y 13 (a'.tmps[50]?.getD undef) := by simpa [Act.eval] using (relyC_dep hd 13 (by kernel_rfl)).2 50 (by kernel_rfl)
              simp only [swapV] at e50
              obtain rfl := HJ.out.mid hl (relyC_dep hd 15 (by kernel_rfl)).1
              have HN := Lib.hid (HJ.out.two hl (relyC_dep hd 15 (by kernel_rfl)).1 (by decide) (by decide) (by decide))
              obtain ⟨wm, hwm⟩ : ∃ wm, wm = (puts wd g ((J + 1) * 5) (Cbn.cells y)) := ⟨_, rfl⟩
              have m0 : wm.cell? ⟨g, J * 5, none⟩ = some (.int .i64 y.n) := by rw [hwm]; exact HM0.out
              have m1 : wm.cell? ⟨g, J * 5 + 1, none⟩ = some (.int .i64 y.s) := by rw [hwm]; exact HM1.out
              have m2 : wm.cell? ⟨g, J * 5 + 2, none⟩ = some (.int .i64 y.e) := by rw [hwm]; exact HM2.out
              have m3 : wm.cell? ⟨g, J * 5 + 3, none⟩ = some (.int .i64 y.t) := by rw [hwm]; exact HM3.out
              have m4 : wm.cell? ⟨g, J * 5 + 4, none⟩ = some (.int .i64 y.r) := by rw [hwm]; exact HM4.out
              have mz : ∀ i, wm.frozen? ⟨g, i, none⟩ = false := fun i => by rw [hwm]; exact HMZ.out i
              have HWM := Lib.hid hwm
              rw [← hwm]
              clear hwm HJ hf hd hj hs hl hsz
              go_simp
              exact hK (.bool false) _ trivial (by rw [HWM.out]; exact HN.out)
            intro L a' w' hj hL hsz hdf hfr hvs
            obtain rfl := hj.done hL (by decide)
            obtain ⟨tm, df⟩ := a'
            obtain ⟨ts, rfl⟩ : ∃ ts : List Value, tm = ts.toArray := ⟨tm.toList, by simp⟩
            simp only at hdf
            subst hdf
            have hlen : ts.length = 53 := by simpa using hsz
            have f0 := hfr 0 (unwritten_of (by kernel_rfl))
            have f1 := hfr 1 (unwritten_of (by kernel_rfl))
            have f2 := hfr 2 (unwritten_of (by kernel_rfl))
            have f3 := hfr 3 (unwritten_of (by kernel_rfl))
            have f4 := hfr 4 (unwritten_of (by kernel_rfl))
            have f5 := hfr 5 (unwritten_of (by kernel_rfl))
            have f6 := hfr 6 (unwritten_of (by kernel_rfl))
            have f7 := hfr 7 (unwritten_of (by kernel_rfl))
            have f8 := hfr 8 (unwritten_of (by kernel_rfl))
            have f9 := hfr 9 (unwritten_of (by kernel_rfl))
            have f10 := hfr 10 (unwritten_of (by kernel_rfl))
            have f11 := hfr 11 (unwritten_of (by kernel_rfl))
            have f12 := hfr 12 (unwritten_of (by kernel_rfl))
            have f13 := hfr 13 (unwritten_of (by kernel_rfl))
            have f14 := hfr 14 (unwritten_of (by kernel_rfl))
            have f15 := hfr 15 (unwritten_of (by kernel_rfl))
            have f16 := hfr 16 (unwritten_of (by kernel_rfl))
            have f17 := hfr 17 (unwritten_of (by kernel_rfl))
            have f18 := hfr 18 (unwritten_of (by kernel_rfl))
            have f19 := hfr 19 (unwritten_of (by kernel_rfl))
            have f20 := hfr 20 (unwritten_of (by kernel_rfl))
            have f21 := hfr 21 (unwritten_of (by kernel_rfl))
            have f22 := hfr 22 (unwritten_of (by kernel_rfl))
            have f23 := hfr 23 (unwritten_of (by kernel_rfl))
            have f24 := hfr 24 (unwritten_of (by kernel_rfl))
            have f25 := hfr 25 (unwritten_of (by kernel_rfl))
            have f26 := hfr 26 (unwritten_of (by kernel_rfl))
            have f27 := hfr 27 (unwritten_of (by kernel_rfl))
            have f28 := hfr 28 (unwritten_of (by kernel_rfl))
            have f29 := hfr 29 (unwritten_of (by kernel_rfl))
            have f30 := hfr 30 (unwritten_of (by kernel_rfl))
            have f31 := hfr 31 (unwritten_of (by kernel_rfl))
            have f32 := hfr 32 (unwritten_of (by kernel_rfl))
            have f33 := hfr 33 (unwritten_of (by kernel_rfl))
            have f34 := hfr 34 (unwritten_of (by kernel_rfl))
            have f35 := hfr 35 (unwritten_of (by kernel_rfl))
            have f36 := hfr 36 (unwritten_of (by kernel_rfl))
            clear hfr hvs hsz hj hL
            rcases ts with _ | ⟨y0, ts⟩
            · simp at hlen
            rcases ts with _ | ⟨y1, ts⟩
            · simp at hlen
            rcases ts with _ | ⟨y2, ts⟩
            · simp at hlen
            rcases ts with _ | ⟨y3, ts⟩
            · simp at hlen
            rcases ts with _ | ⟨y4, ts⟩
            · simp at hlen
            rcases ts with _ | ⟨y5, ts⟩
            · simp at hlen
            rcases ts with _ | ⟨y6, ts⟩
            · simp at hlen
            rcases ts with _ | ⟨y7, ts⟩
            · simp at hlen
            rcases ts with _ | ⟨y8, ts⟩
            · simp at hlen
            rcases ts with _ | ⟨y9, ts⟩
            · simp at hlen
            rcases ts with _ | ⟨y10, ts⟩
            · simp at hlen
            rcases ts with _ | ⟨y11, ts⟩
            · simp at hlen
            rcases ts with _ | ⟨y12, ts⟩
            · simp at hlen
            rcases ts with _ | ⟨y13, ts⟩
            · simp at hlen
            rcases ts with _ | ⟨y14, ts⟩
            · simp at hlen
            rcases ts with _ | ⟨y15, ts⟩
            · simp at hlen
            rcases ts with _ | ⟨y16, ts⟩
            · simp at hlen
            rcases ts with _ | ⟨y17, ts⟩
            · simp at hlen
            rcases ts with _ | ⟨y18, ts⟩
            · simp at hlen
            rcases ts with _ | ⟨y19, ts⟩
            · simp at hlen
            rcases ts with _ | ⟨y20, ts⟩
            · simp at hlen
            rcases ts with _ | ⟨y21, ts⟩
            · simp at hlen
            rcases ts with _ | ⟨y22, ts⟩
            · simp at hlen
            rcases ts with _ | ⟨y23, ts⟩
            · simp at hlen
            rcases ts with _ | ⟨y24, ts⟩
            · simp at hlen
            rcases ts with _ | ⟨y25, ts⟩
            · simp at hlen
            rcases ts with _ | ⟨y26, ts⟩
            · simp at hlen
            rcases ts with _ | ⟨y27, ts⟩
            · simp at hlen
            rcases ts with _ | ⟨y28, ts⟩
            · simp at hlen
            rcases ts with _ | ⟨y29, ts⟩
            · simp at hlen
            rcases ts with _ | ⟨y30, ts⟩
            · simp at hlen
            rcases ts with _ | ⟨y31, ts⟩
            · simp at hlen
            rcases ts with _ | ⟨y32, ts⟩
            · simp at hlen
            rcases ts with _ | ⟨y33, ts⟩
            · simp at hlen
            rcases ts with _ | ⟨y34, ts⟩
            · simp at hlen
            rcases ts with _ | ⟨y35, ts⟩
            · simp at hlen
            rcases ts with _ | ⟨y36, ts⟩
            · simp at hlen
            rcases ts with _ | ⟨y37, ts⟩
            · simp at hlen
            rcases ts with _ | ⟨y38, ts⟩
            · simp at hlen
            rcases ts with _ | ⟨y39, ts⟩
            · simp at hlen
            rcases ts with _ | ⟨y40, ts⟩
            · simp at hlen
            rcases ts with _ | ⟨y41, ts⟩
            · simp at hlen
            rcases ts with _ | ⟨y42, ts⟩
            · simp at hlen
            rcases ts with _ | ⟨y43, ts⟩
            · simp at hlen
            rcases ts with _ | ⟨y44, ts⟩
            · simp at hlen
            rcases ts with _ | ⟨y45, ts⟩
            · simp at hlen
            rcases ts with _ | ⟨y46, ts⟩
            · simp at hlen
            rcases ts with _ | ⟨y47, ts⟩
            · simp at hlen
            rcases ts with _ | ⟨y48, ts⟩
            · simp at hlen
            rcases ts with _ | ⟨y49, ts⟩
            · simp at hlen
            rcases ts with _ | ⟨y50, ts⟩
            · simp at hlen
            rcases ts with _ | ⟨y51, ts⟩
            · simp at hlen
            rcases ts with _ | ⟨y52, ts⟩
            · simp at hlen
            obtain rfl : ts = [] := List.eq_nil_of_length_eq_zero (by simpa using hlen)
            simp only [Act.eval, Array.getD_eq_getD_getElem?, List.getElem?_toArray, List.getElem?_cons_succ, List.getElem?_cons_zero, Option.getD_some] at f0 f1 f2 f3 f4 f5 f6 f7 f8 f9 f10 f11 f12 f13 f14 f15 f16 f17 f18 f19 f20 f21 f22 f23 f24 f25 f26 f27 f28 f29 f30 f31 f32 f33 f34 f35 f36
            subst f0 f1 f2 f3 f4 f5 f6 f7 f8 f9 f10 f11 f12 f13 f14 f15 f16 f17 f18 f19 f20 f21 f22 f23 f24 f25 f26 f27 f28 f29 f30 f31 f32 f33 f34 f35 f36
            clear hlen
            go_wp2_with fail
            go_roundw
            case rel => exact ⟨q, y :: m, by rw [HJ.out], by rw [HJ.out]; omega, HN.out, by rw [HJ.out]; simp; omega, by
              have h9 := (HA3.out.put (J + 1) y).put J x
              rw [← HJ.out, onWayC_swap, HJ.out] at h9
              exact h9.keep (by rw [HWD.out]; rfl), by
              rw [HWD.out]
              exact grown_puts _ _ (grown_puts _ _ ((HG2.out.trans (grown_of_below HD.out)).trans (grown_of_below (Below.refl _ _).drew)))⟩
            case measure => simp [intOf]
          · have HN := Lib.hid (show onWayC (y :: q) m (o.drop (k + 1)) x = (isC Cbn.r (o.take (k + 1))).reverse ++ o.drop (k + 1) by
              rw [HM.out, HI.out, insC, if_neg hxy]; simp [onWayC])
            obtain ⟨c, hc, hc0⟩ := cmpI_no hxy
            have HY := Lib.hid hc
            clear hxy hc
            go_wp2_with fail
            refine wp_region_mem (by kernel_rfl) (by kernel_rfl) ?_
            repeat (go_big_quiet_step ((go_at_call 44; exact mem_int (cloWorn_c x y _) HY.out)))
            refine wpQuiet_nil ?_
            intro _ hw'
            obtain ⟨⟨wq, hbq⟩, hw''⟩ := hw'
            obtain rfl := hw''.symm
            obtain ⟨hcq, hfq, hzq⟩ := bcell hbq
            try simp [Nat.add_one_le_iff] at hzq
            have HD := Lib.hid (show Below wr.heap.size wr wq from (by repeat (first | (with_reducible exact Below.refl _ _) | ((with_reducible refine alloc_ ?_ ?_); (focus (first | exact Nat.le_refl _ | (simp; done) | (simp; omega) | omega))) | ((with_reducible refine set_ ?_ ?_); (focus (first | exact Nat.le_refl _ | (simp; done) | (simp; omega) | omega))) | (with_reducible refine Below.drew ?_) | ((with_reducible refine after_ ?_ (by assumption) ?_); (rotate_left; (focus (first | exact Nat.le_refl _ | (simp; done) | (simp; omega) | omega)))))))
            go_wp2_with fail
            go_roundw
            case rel => exact ⟨k + 1, by omega, .inl (by omega), by go_num, by rw [← HN.out]; exact HA2.out.carry HD.out, HG2.out.trans (grown_of_below HD.out)⟩
            case measure => simp [intOf]; omega
    · have HE := Lib.hid (show (isC Cbn.r (o.take k)).reverse ++ o.drop k = ordC Cbn.r o by rw [List.take_of_length_le (by omega), List.drop_eq_nil_of_le (by omega), List.append_nil]; rfl)
      go_wp2_with fail
      go_end0
      exact ⟨rfl, by rw [← HE.out]; exact HA.out, HG.out⟩
theorem stableWorn_c (o : List Cbn) (g cap : Nat) (w : World) (hl : o.length ≤ 12) (ha : ArrC w g o) :
    Calls Try.prog 51 #[.slice (some ⟨g, 0, none⟩) o.length cap, .int .i64 o.length, .func (.func 44) #[] #[]] w (SortPostC Cbn.r o g w) := by
  have HA := Lib.hid ha
  have n1 : ¬ (20 : Int) ≤ o.length := by omega
  have n2 : ¬ (20 : Int) < o.length := by omega
  clear ha
  go_enter Try.func51, Try.ntmps51
  go_wp2_with fail
  refine wp_loop_rounds 1 ?_
  rw [rounds_succ]
  go_wp2_with fail
  refine (insertionWorn_c o g cap _ hl HA.out).mono ?_
  rintro e w1 ⟨rfl, ha1, hg1⟩
  have HA1 := Lib.hid ha1
  have HG1 := Lib.hid hg1
  clear ha1 hg1
  go_wp2_with fail
  refine wp_loop_rounds 1 ?_
  rw [rounds_succ]
  go_wp2_with fail
  go_end0
  exact ⟨rfl, HA1.out, HG1.out⟩
theorem sortWorn_c (o : List Cbn) (g cap : Nat) (w : World) (hl : o.length ≤ 12) (ha : ArrC w g o) :
    Calls Try.prog 32 #[.slice (some ⟨g, 0, none⟩) o.length cap, .func (.func 44) #[] #[]] w (SortPostC Cbn.r o g w) := by
  have HA := Lib.hid ha
  clear ha
  go_enter Try.func32, Try.ntmps32
  go_wp2_with fail
  refine (stableWorn_c o g cap _ hl HA.out).mono ?_
  rintro e w1 ⟨rfl, ha1, hg1⟩
  have HA1 := Lib.hid ha1
  have HG1 := Lib.hid hg1
  clear ha1 hg1
  go_wp2_with fail
  go_end0
  exact ⟨rfl, HA1.out, HG1.out⟩
end Go.Proofs.Ytcmbbhdoienkoaa
