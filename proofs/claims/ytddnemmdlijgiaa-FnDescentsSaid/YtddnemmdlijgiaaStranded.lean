/- StrandedRides of the program and of the reference return one Lean function; no conditions but the length. -/
import Derived.Test.YtddnemmdlijgiaaLateEnd
namespace Go.Proofs.Ytddnemmdlijgiaa
open Go.RowKit

def strTo (l : List Rid) (o : List Int) : Nat → List Int
  | 0 => []
  | k + 1 => if nth o (nth l k).t.toNat < (nth l k).a then strTo l o k ++ [(k : Int)] else strTo l o k
theorem strTo_len {l : List Rid} {o : List Int} : ∀ k, (strTo l o k).length ≤ k
  | 0 => Nat.le_refl _
  | k + 1 => by have := strTo_len (l := l) (o := o) k; simp only [strTo]; split <;> simp <;> omega
def stranded (l : List Rid) : List Int × Bool := if goodR l then (strTo l (lateL l 0 1439) l.length, true) else ([], false)
theorem strTo_yes {l : List Rid} {o : List Int} {k t : Nat} (ht : (nth l k).t = t) (h : nth o t < (nth l k).a) : strTo l o (k + 1) = strTo l o k ++ [(k : Int)] := by
  rw [strTo, ht]; simp [h]
theorem strTo_no {l : List Rid} {o : List Int} {k t : Nat} (ht : (nth l k).t = t) (h : ¬ nth o t < (nth l k).a) : strTo l o (k + 1) = strTo l o k := by
  rw [strTo, ht]; simp [h]
theorem lateL_valley {l : List Rid} (hg : ∀ i, i < l.length → okR (nth l i) = true) : 1439 ≤ nth (lateL l 0 1439) 0 := by
  have h : ∀ n, 1439 ≤ nth (sweeps lateR l (start (-1) 0 1439) n) 0 := fun n => by
    induction n with
    | zero => exact Int.le_refl _
    | succ n ih =>
      have := (late_pass hg ((sweeps_len lateR_len l (start (-1) 0 1439) n).trans (start_len _ _ _))).1.le 0 (by simp [lateNet])
      rw [sweeps]; omega
  exact h 6
theorem implStrandedRides_c (l : List Rid) (A : Option Addr) (cap : Nat) (w : World) (hl : l.length ≤ 1048576) (hr : Rd w w.heap.size 5 Rid.cells A l) :
    Calls Try.prog 37 #[.slice A l.length cap] w (ListPost (stranded l) w) := by
  rcases hg : goodR l with _ | _
  · have H := Lib.hid (show stranded l = ([], false) by simp [stranded, hg])
    have HD := Lib.hid (show descents l = ([], false) by simp [descents, hg])
    go_enter Try.func37, Try.ntmps37
    go_wp2_with fail
    refine (implLastDescents_c l _ _ _ hl hr).mono ?_
    rintro e w1 ⟨A1, gc1, rfl, ho1, hb1⟩
    rw [HD.out]
    clear ho1
    go_wp2_with fail
    go_ret2
    exact ⟨none, 0, retl H.out, by rw [H.out]; exact Own.nil, hb1⟩
  have HG := Lib.hid (goodR_true hg)
  have H := Lib.hid (show stranded l = (strTo l (lateL l 0 1439) l.length, true) by simp [stranded, hg])
  have HD := Lib.hid (show descents l = (lateL l 0 1439, true) by simp [descents, hg])
  have hl12 := HG.out.1
  obtain ⟨o, ho⟩ : ∃ o, lateL l 0 1439 = o := ⟨_, rfl⟩
  have HL := Lib.hid (show o.length = 6 by rw [← ho]; exact lateL_len _ _ _)
  rw [ho] at H HD
  clear ho
  go_enter Try.func37, Try.ntmps37
  go_wp2_with fail
  refine (implLastDescents_c l _ _ _ hl hr).mono ?_
  rintro e w1 ⟨A1, gc1, rfl, ho1, hb1⟩
  rw [HD.out] at ho1 ⊢
  have hv := ho1.rd (fun _ => rfl)
  have hr1 := hr.carry hb1
  have HB1 := Lib.hid hb1
  clear hb1 ho1 hg
  go_wp2_with fail
  go_loopw [6, 7, 8, 19] (fun v _ _ i wr => ∃ k : Nat, k ≤ l.length ∧ i = .int .i64 k ∧ wr.ownsRow w1.heap.size 3 1 v (strTo l o k).length ((strTo l o k).map (Value.int .i64)) ∧ Below w1.heap.size w1 wr) (fun _ _ _ i _ => l.length - (intOf i).toNat)
  case atStart => exact ⟨0, Nat.zero_le _, rfl, ownsRow_empty w1 3 1, (by repeat (first | (with_reducible exact Below.refl _ _) | ((with_reducible refine alloc_ ?_ ?_); (focus (first | exact Nat.le_refl _ | (simp; done) | (simp; omega) | omega))) | ((with_reducible refine set_ ?_ ?_); (focus (first | exact Nat.le_refl _ | (simp; done) | (simp; omega) | omega))) | (with_reducible refine Below.drew ?_) | ((with_reducible refine after_ ?_ (by assumption) ?_); (rotate_left; (focus (first | exact Nat.le_refl _ | (simp; done) | (simp; omega) | omega))))))⟩
  case round =>
    obtain ⟨k, hk, rfl, hown, hbel⟩ := hrel
    have HB := Lib.hid hbel
    have HO := Lib.hid hown
    have z1 := hbel.size
    by_cases hlt : k < l.length
    · obtain ⟨b, off, rfl, hb1, hc0, hc1, hc2, hc3, hc4⟩ := Rid.rd (hr1.below hbel (Nat.le_refl _)) hlt
      obtain ⟨⟨e1, e2⟩, ⟨e3, e4⟩, _, ⟨e5, e6⟩, ⟨e7, e8⟩, _⟩ := okR_true.1 (HG.out.2 k hlt)
      obtain ⟨t, ht⟩ : ∃ t : Nat, (nth l k).t = (t : Int) := ⟨(nth l k).t.toNat, by omega⟩
      rw [ht] at hc1 e3 e4
      have HT := Lib.hid ht
      obtain ⟨b', off', rfl, hb2, hd⟩ := (hv.below hbel (Nat.le_refl _)).int (show t < o.length by have := HL.out; omega)
      have hle := strTo_len (l := l) (o := o) k
      have l1 : b < wr.heap.size := by omega
      have l2 : b' < wr.heap.size := by omega
      have i3 : (0 : Int) ≤ (t : Int) := by omega
      have i4 : (t : Int) < o.length := by have := HL.out; omega
      clear hbel hown ht
      by_cases hq : nth o t < (nth l k).a
      · have HY := Lib.hid (strTo_yes HT.out hq)
        go_wp2_with fail
        refine wp_region_mem (by kernel_rfl) (by kernel_rfl) ?_
        repeat (go_big_quiet_step (fail))
        refine wpQuiet_nil ?_
        intro _ hw'
        obtain ⟨⟨wq, hbq⟩, hw''⟩ := hw'
        obtain rfl := hw''.symm
        obtain ⟨hcq, hfq, hzq⟩ := bcell hbq
        try simp [Nat.add_one_le_iff] at hzq
        have HQ := Lib.hid (show Below wr.heap.size wr wq from (by repeat (first | (with_reducible exact Below.refl _ _) | ((with_reducible refine alloc_ ?_ ?_); (focus (first | exact Nat.le_refl _ | (simp; done) | (simp; omega) | omega))) | ((with_reducible refine set_ ?_ ?_); (focus (first | exact Nat.le_refl _ | (simp; done) | (simp; omega) | omega))) | (with_reducible refine Below.drew ?_) | ((with_reducible refine after_ ?_ (by assumption) ?_); (rotate_left; (focus (first | exact Nat.le_refl _ | (simp; done) | (simp; omega) | omega)))))))
        have HOq := Lib.hid (ownsRow_below HO.out HQ.out)
        have zq := HQ.out.size
        clear hcq hfq
        go_wp2_with (at_builtin; refine wpList_push _ rfl _ _ 32 rfl w1.heap.size 3 (.int .i64 0) 1 8 Try.underlying32 info_int rfl (by decide) (by decide) _ _ _ rfl (HOq.out.alloc _) wq.heap.size [.int .i64 k] rfl rfl ?c1 ?c2 ?c3 ?c4 ?_)
        try case c1 =>
          intro j u hj
          match j, hj with
          | 0, hj => simp at hj; subst hj; simp [go_sem]
        case c2 => first | rfl | (intro u hu; simp at hu; subst hu; rfl)
        case c3 => omega
        case c4 => first | omega | (simp; omega)
        intro v' w' hown' hb'
        have HO' := Lib.hid hown'
        have HB' := Lib.hid (HB.out.trans ((HQ.out.mono z1).trans ((((Below.refl _ _).alloc (Nat.le_refl _) _).mono (Nat.le_trans z1 zq)).trans hb')))
        clear hown' hb' hw'' hbq
        go_wp2_with fail
        go_roundw
        case rel => exact ⟨k + 1, by omega, by go_num, by rw [HY.out]; simpa using HO'.out, HB'.out⟩
        case measure => simp [intOf]; omega
      · have HY := Lib.hid (strTo_no HT.out hq)
        go_wp2_with fail
        refine wp_region_mem (by kernel_rfl) (by kernel_rfl) ?_
        repeat (go_big_quiet_step (fail))
        refine wpQuiet_nil ?_
        intro _ hw'
        obtain ⟨⟨wq, hbq⟩, hw''⟩ := hw'
        obtain rfl := hw''.symm
        obtain ⟨hcq, hfq, hzq⟩ := bcell hbq
        try simp [Nat.add_one_le_iff] at hzq
        go_wp2_with fail
        go_roundw
        case rel => exact ⟨k + 1, by omega, by go_num, by rw [HY.out]; exact ownsRow_below HO.out (by repeat (first | (with_reducible exact Below.refl _ _) | ((with_reducible refine alloc_ ?_ ?_); (focus (first | exact Nat.le_refl _ | (simp; done) | (simp; omega) | omega))) | ((with_reducible refine set_ ?_ ?_); (focus (first | exact Nat.le_refl _ | (simp; done) | (simp; omega) | omega))) | (with_reducible refine Below.drew ?_) | ((with_reducible refine after_ ?_ (by assumption) ?_); (rotate_left; (focus (first | exact Nat.le_refl _ | (simp; done) | (simp; omega) | omega)))))), (HB.out.trans (Below.mono (B := wr.heap.size) (by repeat (first | (with_reducible exact Below.refl _ _) | ((with_reducible refine alloc_ ?_ ?_); (focus (first | exact Nat.le_refl _ | (simp; done) | (simp; omega) | omega))) | ((with_reducible refine set_ ?_ ?_); (focus (first | exact Nat.le_refl _ | (simp; done) | (simp; omega) | omega))) | (with_reducible refine Below.drew ?_) | ((with_reducible refine after_ ?_ (by assumption) ?_); (rotate_left; (focus (first | exact Nat.le_refl _ | (simp; done) | (simp; omega) | omega)))))) z1))⟩
        case measure => simp [intOf]; omega
    · obtain rfl : k = l.length := by omega
      clear hbel
      obtain ⟨A', cap', rfl⟩ := ownsRow_shape hown
      clear hown
      go_wp2_with fail
      go_ret2
      exact ⟨A', cap', retl H.out, by rw [H.out]; exact (Own.of_row' HO.out rfl (flat_ints _).symm fun _ => rfl).less HB1.out.size, HB1.out.trans (HB.out.mono HB1.out.size)⟩
theorem specStrandedRides_c (l : List Rid) (A : Option Addr) (cap : Nat) (w : World) (hl : l.length ≤ 1048576) (hr : Rd w w.heap.size 5 Rid.cells A l) :
    Calls Try.prog 36 #[.slice A l.length cap] w (ListPost (stranded l) w) := by
  rcases hg : goodR l with _ | _
  · have H := Lib.hid (show stranded l = ([], false) by simp [stranded, hg])
    go_enter Try.func36, Try.ntmps36
    go_wp2_with fail
    refine (l15Good_c l _ _ _ hl (hr.alloc _)).mono ?_
    rintro e w1 ⟨rfl, hb1⟩
    go_wp2_with fail
    go_ret2
    exact ⟨_, 0, retl H.out, by rw [H.out]; exact Own.nil, (by repeat (first | (with_reducible exact Below.refl _ _) | ((with_reducible refine alloc_ ?_ ?_); (focus (first | exact Nat.le_refl _ | (simp; done) | (simp; omega) | omega))) | ((with_reducible refine set_ ?_ ?_); (focus (first | exact Nat.le_refl _ | (simp; done) | (simp; omega) | omega))) | (with_reducible refine Below.drew ?_) | ((with_reducible refine after_ ?_ (by assumption) ?_); (rotate_left; (focus (first | exact Nat.le_refl _ | (simp; done) | (simp; omega) | omega))))))⟩
  have HG := Lib.hid (goodR_true hg)
  have H := Lib.hid (show stranded l = (strTo l (lateL l 0 1439) l.length, true) by simp [stranded, hg])
  have hl12 := HG.out.1
  have HV := Lib.hid (lateL_valley HG.out.2)
  obtain ⟨o, ho⟩ : ∃ o, lateL l 0 1439 = o := ⟨_, rfl⟩
  have HL := Lib.hid (show o.length = 6 by rw [← ho]; exact lateL_len _ _ _)
  rw [ho] at H HV
  have HO1 := Lib.hid ho
  clear ho
  go_enter Try.func36, Try.ntmps36
  go_wp2_with fail
  refine (l15Good_c l _ _ _ hl (hr.alloc _)).mono ?_
  rintro e w1 ⟨rfl, hb1⟩
  have hr1 := (hr.alloc (.cells #[] 3)).carry hb1
  have HB1 : Below w.heap.size w w1 := (by repeat (first | (with_reducible exact Below.refl _ _) | ((with_reducible refine alloc_ ?_ ?_); (focus (first | exact Nat.le_refl _ | (simp; done) | (simp; omega) | omega))) | ((with_reducible refine set_ ?_ ?_); (focus (first | exact Nat.le_refl _ | (simp; done) | (simp; omega) | omega))) | (with_reducible refine Below.drew ?_) | ((with_reducible refine after_ ?_ (by assumption) ?_); (rotate_left; (focus (first | exact Nat.le_refl _ | (simp; done) | (simp; omega) | omega))))))
  have HE1 := Lib.hid (ownsRow_below (ownsRow_empty w 3 1) hb1)
  have z1 := HB1.size
  have zz : w.heap.size < w1.heap.size := by have := hb1.size; simp at this; omega
  clear hb1
  go_wp2_with fail
  clear hg
  refine (l15Latest_c l _ _ 0 1439 _ hl hr1 HG.out.2 (by omega)).mono ?_
  rintro e w2 ⟨g, gc, rfl, hgb, harr, hb2⟩
  rw [HO1.out] at harr ⊢
  have HE2 := Lib.hid (ownsRow_below HE1.out hb2)
  have hA := harr
  have glt := harr.lt
  have HB2 := Lib.hid (HB1.trans (hb2.mono z1))
  have HA := Lib.hid harr
  have hr2 := (hr1.carry hb2)
  have z2 := hb2.size
  clear hb2 HB1 hA harr
  go_wp2_with fail
  go_loopw [4, 6] (fun v i wr => ∃ k : Nat, k ≤ l.length ∧ i = .int .i64 k ∧ wr.ownsRow w.heap.size 3 1 v (strTo l o k).length ((strTo l o k).map (Value.int .i64)) ∧ Below w.heap.size w wr ∧ Arr wr g o ∧ v.ownBlock ≠ some g) (fun _ i _ => l.length - (intOf i).toNat)
  case atStart => exact ⟨0, Nat.zero_le _, rfl, HE2.out, HB2.out, HA.out, by simp [Value.ownBlock]; omega⟩
  case round =>
    obtain ⟨k, hk, rfl, hown, hbel, harr, hne⟩ := hrel
    have HB := Lib.hid hbel
    have HO := Lib.hid hown
    have HA := Lib.hid harr
    have HN := Lib.hid hne
    have z1 := hbel.size
    clear hne
    by_cases hlt : k < l.length
    · obtain ⟨b, off, rfl, hb1, hc0, hc1, hc2, hc3, hc4⟩ := Rid.rd (hr.below hbel (Nat.le_refl _)) hlt
      obtain ⟨⟨e1, e2⟩, ⟨e3, e4⟩, _, ⟨e5, e6⟩, ⟨e7, e8⟩, _⟩ := okR_true.1 (HG.out.2 k hlt)
      obtain ⟨t, ht⟩ : ∃ t : Nat, (nth l k).t = (t : Int) := ⟨(nth l k).t.toNat, by omega⟩
      rw [ht] at hc1 e3 e4
      have HT := Lib.hid ht
      have hd := harr.cell (show t < o.length by have := HL.out; omega)
      have hle := strTo_len (l := l) (o := o) k
      have l1 : b < wr.heap.size := by omega
      have l2 := harr.lt
      have i1 : (0 : Int) ≤ (k : Int) := by omega
      have i2 : (k : Int) < l.length := by omega
      have i3 : (0 : Int) ≤ (t : Int) := by omega
      have i4 : (t : Int) < o.length := by have := HL.out; omega
      clear hbel hown ht harr
      by_cases ht0 : t = 0
      · subst ht0
        have hd0 : (((0 : Nat) : Int) != 0) = false := rfl
        have HY := Lib.hid (strTo_no (o := o) HT.out (by have := HV.out; omega))
        go_wp2_with fail
        refine wp_region_mem (by kernel_rfl) (by kernel_rfl) ?_
        repeat (go_big_quiet_step (fail))
        refine wpQuiet_nil ?_
        intro _ hw'
        obtain ⟨⟨wq, hbq⟩, hw''⟩ := hw'
        obtain rfl := hw''.symm
        obtain ⟨hcq, hfq, hzq⟩ := bcell hbq
        try simp [Nat.add_one_le_iff] at hzq
        go_wp2_with fail
        go_roundw
        case rel => exact ⟨k + 1, by omega, by go_num, by rw [HY.out]; exact ownsRow_below HO.out (by repeat (first | (with_reducible exact Below.refl _ _) | ((with_reducible refine alloc_ ?_ ?_); (focus (first | exact Nat.le_refl _ | (simp; done) | (simp; omega) | omega))) | ((with_reducible refine set_ ?_ ?_); (focus (first | exact Nat.le_refl _ | (simp; done) | (simp; omega) | omega))) | (with_reducible refine Below.drew ?_) | ((with_reducible refine after_ ?_ (by assumption) ?_); (rotate_left; (focus (first | exact Nat.le_refl _ | (simp; done) | (simp; omega) | omega)))))), (HB.out.trans (Below.mono (B := wr.heap.size) (by repeat (first | (with_reducible exact Below.refl _ _) | ((with_reducible refine alloc_ ?_ ?_); (focus (first | exact Nat.le_refl _ | (simp; done) | (simp; omega) | omega))) | ((with_reducible refine set_ ?_ ?_); (focus (first | exact Nat.le_refl _ | (simp; done) | (simp; omega) | omega))) | (with_reducible refine Below.drew ?_) | ((with_reducible refine after_ ?_ (by assumption) ?_); (rotate_left; (focus (first | exact Nat.le_refl _ | (simp; done) | (simp; omega) | omega)))))) z1)), HA.out.carry (by repeat (first | (with_reducible exact Below.refl _ _) | ((with_reducible refine alloc_ ?_ ?_); (focus (first | exact Nat.le_refl _ | (simp; done) | (simp; omega) | omega))) | ((with_reducible refine set_ ?_ ?_); (focus (first | exact Nat.le_refl _ | (simp; done) | (simp; omega) | omega))) | (with_reducible refine Below.drew ?_) | ((with_reducible refine after_ ?_ (by assumption) ?_); (rotate_left; (focus (first | exact Nat.le_refl _ | (simp; done) | (simp; omega) | omega)))))), HN.out⟩
        case measure => simp [intOf]; omega
      have hd0 : ((t : Int) != 0) = true := by rw [bne_iff_ne]; omega
      by_cases hq : nth o t < (nth l k).a
      · have HY := Lib.hid (strTo_yes HT.out hq)
        go_wp2_with fail
        refine wp_region_mem (by kernel_rfl) (by kernel_rfl) ?_
        repeat (go_big_quiet_step (fail))
        refine wpQuiet_nil ?_
        intro _ hw'
        obtain ⟨⟨wq, hbq⟩, hw''⟩ := hw'
        obtain rfl := hw''.symm
        obtain ⟨hcq, hfq, hzq⟩ := bcell hbq
        try simp [Nat.add_one_le_iff] at hzq
        have HQ := Lib.hid (show Below wr.heap.size wr wq from (by repeat (first | (with_reducible exact Below.refl _ _) | ((with_reducible refine alloc_ ?_ ?_); (focus (first | exact Nat.le_refl _ | (simp; done) | (simp; omega) | omega))) | ((with_reducible refine set_ ?_ ?_); (focus (first | exact Nat.le_refl _ | (simp; done) | (simp; omega) | omega))) | (with_reducible refine Below.drew ?_) | ((with_reducible refine after_ ?_ (by assumption) ?_); (rotate_left; (focus (first | exact Nat.le_refl _ | (simp; done) | (simp; omega) | omega)))))))
        have HOq := Lib.hid (ownsRow_below HO.out HQ.out)
        have HAq := Lib.hid (HA.out.carry HQ.out)
        have zq := HQ.out.size
        clear hcq hfq
        go_wp2_with (at_builtin; refine wpList_push2 _ rfl _ _ 32 rfl w.heap.size 3 (.int .i64 0) 1 8 Try.underlying32 info_int rfl (by decide) (by decide) _ _ _ rfl (HOq.out.alloc _) wq.heap.size [.int .i64 k] rfl rfl ?c1 ?c2 ?c3 ?c4 ?_)
        try case c1 =>
          intro j u hj
          match j, hj with
          | 0, hj => simp at hj; subst hj; simp [go_sem]
        case c2 => first | rfl | (intro u hu; simp at hu; subst hu; rfl)
        case c3 => omega
        case c4 => first | omega | (simp; omega)
        intro v' w' hown' hb' hk'
        have HO' := Lib.hid hown'
        have HB' := Lib.hid (HB.out.trans ((HQ.out.mono z1).trans ((((Below.refl _ _).alloc (Nat.le_refl _) _).mono (Nat.le_trans z1 zq)).trans hb')))
        have HK := Lib.hid (hk' g (by first | omega | (simp; omega)) HN.out)
        have HAa := Lib.hid ((HAq.out.carry ((Below.refl _ _).alloc (Nat.le_refl _) (.cells #[.int .i64 k] 3))).keep HK.out.1)
        clear hown' hb' hw'' hbq hk'
        go_wp2_with fail
        go_roundw
        case rel => exact ⟨k + 1, by omega, by go_num, by rw [HY.out]; simpa using HO'.out, HB'.out, HAa.out, HK.out.2⟩
        case measure => simp [intOf]; omega
      · have HY := Lib.hid (strTo_no HT.out hq)
        have hq' : decide (nth o t < (nth l k).a) = false := decide_eq_false hq
        go_wp2_with fail
        refine wp_region_mem (by kernel_rfl) (by kernel_rfl) ?_
        repeat (go_big_quiet_step (fail))
        refine wpQuiet_nil ?_
        intro _ hw'
        obtain ⟨⟨wq, hbq⟩, hw''⟩ := hw'
        obtain rfl := hw''.symm
        obtain ⟨hcq, hfq, hzq⟩ := bcell hbq
        try simp [Nat.add_one_le_iff] at hzq
        go_wp2_with fail
        go_roundw
        case rel => exact ⟨k + 1, by omega, by go_num, by rw [HY.out]; exact ownsRow_below HO.out (by repeat (first | (with_reducible exact Below.refl _ _) | ((with_reducible refine alloc_ ?_ ?_); (focus (first | exact Nat.le_refl _ | (simp; done) | (simp; omega) | omega))) | ((with_reducible refine set_ ?_ ?_); (focus (first | exact Nat.le_refl _ | (simp; done) | (simp; omega) | omega))) | (with_reducible refine Below.drew ?_) | ((with_reducible refine after_ ?_ (by assumption) ?_); (rotate_left; (focus (first | exact Nat.le_refl _ | (simp; done) | (simp; omega) | omega)))))), (HB.out.trans (Below.mono (B := wr.heap.size) (by repeat (first | (with_reducible exact Below.refl _ _) | ((with_reducible refine alloc_ ?_ ?_); (focus (first | exact Nat.le_refl _ | (simp; done) | (simp; omega) | omega))) | ((with_reducible refine set_ ?_ ?_); (focus (first | exact Nat.le_refl _ | (simp; done) | (simp; omega) | omega))) | (with_reducible refine Below.drew ?_) | ((with_reducible refine after_ ?_ (by assumption) ?_); (rotate_left; (focus (first | exact Nat.le_refl _ | (simp; done) | (simp; omega) | omega)))))) z1)), HA.out.carry (by repeat (first | (with_reducible exact Below.refl _ _) | ((with_reducible refine alloc_ ?_ ?_); (focus (first | exact Nat.le_refl _ | (simp; done) | (simp; omega) | omega))) | ((with_reducible refine set_ ?_ ?_); (focus (first | exact Nat.le_refl _ | (simp; done) | (simp; omega) | omega))) | (with_reducible refine Below.drew ?_) | ((with_reducible refine after_ ?_ (by assumption) ?_); (rotate_left; (focus (first | exact Nat.le_refl _ | (simp; done) | (simp; omega) | omega)))))), HN.out⟩
        case measure => simp [intOf]; omega
    · obtain rfl : k = l.length := by omega
      clear hbel harr
      obtain ⟨A', cap', rfl⟩ := ownsRow_shape hown
      clear hown
      go_wp2_with fail
      go_ret2
      exact ⟨A', cap', retl H.out, by rw [H.out]; exact Own.of_row' HO.out rfl (flat_ints _).symm fun _ => rfl, HB.out⟩
end Go.Proofs.Ytddnemmdlijgiaa
