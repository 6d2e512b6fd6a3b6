/- FewestRides of the program and of the reference return one Lean function; no conditions but the length. -/
import Derived.Test.YtddnemmdlijgiaaEarlEnd
namespace Go.Proofs.Ytddnemmdlijgiaa
open Go.RowKit

/-- The first index below n that answers yes. -/
def firstTo (n : Nat) (p : Nat → Bool) : Option Nat := (List.range n).find? p
theorem firstTo_none {n : Nat} {p : Nat → Bool} (h : ∀ j, j < n → p j = false) : firstTo n p = none := by
  simp [firstTo, List.find?_eq_none]; exact h
theorem firstTo_some {n k : Nat} {p : Nat → Bool} (hk : k < n) (hp : p k = true) (h : ∀ j, j < k → p j = false) : firstTo n p = some k := by
  unfold firstTo
  rw [List.find?_eq_some_iff_getElem]
  exact ⟨hp, k, by simpa using hk, by simp, fun j hj => by simp [h j hj]⟩
def thereIn (l : List Rid) (f t : Nat) (m : Int) (k : Nat) : Bool := decide (nth (jacs l (start 1440 f m) k) t < 1440)
def few (l : List Rid) (f t m : Int) : Int × Bool := if okT l f t m then (match firstTo 13 (thereIn l f.toNat t.toNat m) with | some k => ((k : Int), true) | none => (0, false)) else (0, false)
theorem few_some {l : List Rid} {f t : Nat} {m : Int} (h : okT l f t m = true) {k : Nat} (hk : k < 13) (hp : thereIn l f t m k = true) (hn : ∀ j, j < k → thereIn l f t m j = false) : few l f t m = ((k : Int), true) := by
  rw [few, if_pos h]; simp only [Int.toNat_natCast]; rw [firstTo_some hk hp hn]
theorem few_none {l : List Rid} {f t : Nat} {m : Int} (h : okT l f t m = true) (hn : ∀ j, j < 13 → thereIn l f t m j = false) : few l f t m = (0, false) := by
  rw [few, if_pos h]; simp only [Int.toNat_natCast]; rw [firstTo_none hn]

theorem implFewestRides_c (l : List Rid) (A : Option Addr) (cap : Nat) (f t m : Int) (w : World) (hl : l.length ≤ 1048576) (hr : Rd w w.heap.size 5 Rid.cells A l) :
    Calls Try.prog 30 #[.slice A l.length cap, .int .i64 f, .int .i64 t, .int .i64 m] w fun e w' => e = .returned (.tuple #[.int .i64 (few l f t m).1, .bool (few l f t m).2]) ∧ Below w.heap.size w w' := by
  rcases hg : okT l f t m with _ | _
  · have H := Lib.hid (show few l f t m = (0, false) by simp [few, hg])
    go_enter Try.func30, Try.ntmps30
    go_wp2_with fail
    refine (isTravel_c l _ _ _ _ _ _ hl hr).mono ?_
    rintro e w1 ⟨rfl, hb1⟩
    go_wp2_with fail
    go_ret2
    exact ⟨rett2 H.out rfl rfl, hb1⟩
  obtain ⟨hgood, ⟨f1, f2⟩, ⟨t1, t2⟩, m1, m2⟩ := okT_true hg
  have HG := Lib.hid (goodR_true hgood)
  clear hgood
  obtain ⟨f, rfl⟩ : ∃ f' : Nat, f = (f' : Int) := ⟨f.toNat, by omega⟩
  obtain ⟨t, rfl⟩ : ∃ t' : Nat, t = (t' : Int) := ⟨t.toNat, by omega⟩
  have HK := Lib.hid hg
  have HM := Lib.hid (mins_jacs HG.out.2 (mins_start (fr := f) m1 m2))
  have hl12 := HG.out.1
  have i1 : (0 : Int) ≤ (t : Int) := by omega
  have i2 : (t : Int) < 6 := by omega
  go_enter Try.func30, Try.ntmps30
  go_wp2_with fail
  refine (isTravel_c l _ _ _ _ _ _ hl hr).mono ?_
  rintro e w1 ⟨rfl, hb1⟩
  have hr1 := hr.carry hb1
  have HB1 := Lib.hid hb1
  clear hb1
  go_wp2_with fail
  clear hg
  go_loopw [10, 17] (fun _ i wr => ∃ k : Nat, k ≤ 13 ∧ i = .int .i64 k ∧ (∀ j, j < k → thereIn l f t m j = false) ∧ Below w1.heap.size w1 wr) (fun _ i _ => 13 - (intOf i).toNat)
  case atStart => exact ⟨0, Nat.zero_le _, rfl, fun j hj => absurd hj (by omega), Below.refl _ _⟩
  case round =>
    obtain ⟨k, hk, rfl, hall, hbel⟩ := hrel
    have HB := Lib.hid hbel
    have HA := Lib.hid hall
    have z1 := hbel.size
    clear hall
    by_cases hlt : k < 13
    · have hrr := hr1.carry (hbel.mono (Nat.le_refl _))
      clear hbel
      go_wp2_with fail
      refine (earliest_c l _ _ f m k _ hrr HG.out (by omega) (by omega)).mono ?_
      rintro e w2 ⟨g, gc, rfl, hgb, harr, hb2⟩
      obtain ⟨o, ho⟩ : ∃ o, jacs l (start 1440 f m) k = o := ⟨_, rfl⟩
      have hlen : o.length = 6 := by rw [← ho]; exact (HM.out k).1
      have Ho := Lib.hid ho
      rw [ho] at harr ⊢
      have hc := harr.cell (show t < o.length by omega)
      have HL := Lib.hid hlen
      have HB2 := Lib.hid (HB.out.trans (hb2.mono z1))
      rw [hlen]
      clear hb2 harr ho hlen
      by_cases hq : nth o t < 1440
      · have hq' : thereIn l f t m k = true := by rw [thereIn, Ho.out]; exact decide_eq_true hq
        have H := Lib.hid (few_some HK.out hlt hq' HA.out)
        clear hq'
        go_wp2_with fail
        go_ret2
        exact ⟨rett2 H.out rfl rfl, HB1.out.trans (HB2.out.mono HB1.out.size)⟩
      · have hq' : thereIn l f t m k = false := by rw [thereIn, Ho.out]; exact decide_eq_false hq
        have H := Lib.hid (below_add HA.out hq')
        clear hq'
        go_wp2_with fail
        go_roundw
        case rel => exact ⟨k + 1, by omega, by go_num, H.out, HB2.out⟩
        case measure => simp [intOf]; omega
    · obtain rfl : k = 13 := by omega
      have H := Lib.hid (few_none HK.out HA.out)
      clear hbel
      go_wp2_with fail
      go_ret2
      exact ⟨rett2 H.out rfl rfl, HB1.out.trans (HB.out.mono HB1.out.size)⟩
set_option maxHeartbeats 3200000 in
set_option maxRecDepth 100000 in
theorem specFewestRides_c (l : List Rid) (A : Option Addr) (cap : Nat) (f t m : Int) (w : World) (hl : l.length ≤ 1048576) (hr : Rd w w.heap.size 5 Rid.cells A l) :
    Calls Try.prog 29 #[.slice A l.length cap, .int .i64 f, .int .i64 t, .int .i64 m] w fun e w' => e = .returned (.tuple #[.int .i64 (few l f t m).1, .bool (few l f t m).2]) ∧ Below w.heap.size w w' := by
  rcases hg : okT l f t m with _ | _
  · have H := Lib.hid (show few l f t m = (0, false) by simp [few, hg])
    go_enter Try.func29, Try.ntmps29
    go_wp2_with fail
    refine (l15Asked_c l _ _ _ _ _ _ hl hr).mono ?_
    rintro e w1 ⟨rfl, hb1⟩
    go_wp2_with fail
    go_ret2
    exact ⟨rett2 H.out rfl rfl, hb1⟩
  obtain ⟨hgood, ⟨f1, f2⟩, ⟨t1, t2⟩, m1, m2⟩ := okT_true hg
  have HG := Lib.hid (goodR_true hgood)
  clear hgood
  obtain ⟨f, rfl⟩ : ∃ f' : Nat, f = (f' : Int) := ⟨f.toNat, by omega⟩
  obtain ⟨t, rfl⟩ : ∃ t' : Nat, t = (t' : Int) := ⟨t.toNat, by omega⟩
  have HK := Lib.hid hg
  have HM := Lib.hid (mins_jacs HG.out.2 (mins_start (fr := f) m1 m2))
  have hl12 := HG.out.1
  have i1 : (0 : Int) ≤ (t : Int) := by omega
  have i2 : (t : Int) < 6 := by omega
  go_enter Try.func29, Try.ntmps29
  go_wp2_with fail
  refine (l15Asked_c l _ _ _ _ _ _ hl hr).mono ?_
  rintro e w1 ⟨rfl, hb1⟩
  have hr1 := hr.carry hb1
  have HB1 := Lib.hid hb1
  clear hb1
  go_wp2_with fail
  clear hg
  go_loopw [10, 11] (fun v i wr => ∃ k : Nat, k ≤ 6 ∧ i = .int .i64 k ∧ wr.ownsRow w1.heap.size 3 1 v k ((List.replicate k (-1 : Int)).map (Value.int .i64)) ∧ Below w1.heap.size w1 wr) (fun _ i _ => 6 - (intOf i).toNat)
  case atStart => exact ⟨0, Nat.zero_le _, rfl, ownsRow_empty w1 3 1, (by repeat (first | (with_reducible exact Below.refl _ _) | ((with_reducible refine alloc_ ?_ ?_); (focus (first | exact Nat.le_refl _ | (simp; done) | (simp; omega) | omega))) | ((with_reducible refine set_ ?_ ?_); (focus (first | exact Nat.le_refl _ | (simp; done) | (simp; omega) | omega))) | (with_reducible refine Below.drew ?_) | ((with_reducible refine after_ ?_ (by assumption) ?_); (rotate_left; (focus (first | exact Nat.le_refl _ | (simp; done) | (simp; omega) | omega))))))⟩
  case round =>
    obtain ⟨k, hk, rfl, hown, hbel⟩ := hrel
    have HB := Lib.hid hbel
    have HO := Lib.hid hown
    have z1 := hbel.size
    clear hbel hown
    by_cases hlt : k < 6
    · go_wp2_with (at_builtin; refine wpList_push _ rfl _ _ 32 rfl w1.heap.size 3 (.int .i64 0) 1 8 Try.underlying32 info_int rfl (by decide) (by decide) _ _ _ rfl (HO.out.alloc _) wr.heap.size [.int .i64 (-1)] rfl rfl ?c1 ?c2 ?c3 ?c4 ?_)
      case c1 =>
        intro j u hj
        match j, hj with
        | 0, hj => simp at hj; subst hj; simp [go_sem]
      case c2 => intro u hu; simp at hu; subst hu; rfl
      case c3 => omega
      case c4 => simp; omega
      intro v' w' hown' hb'
      have HO' := Lib.hid hown'
      have HB' := Lib.hid (HB.out.trans (((Below.refl _ _).alloc z1 _).trans hb'))
      clear hown' hb'
      go_wp2_with fail
      go_roundw
      case rel => exact ⟨k + 1, by omega, by go_num, by rw [List.replicate_succ']; simpa using HO'.out, HB'.out⟩
      case measure => simp [intOf]; omega
    · obtain rfl : k = 6 := by omega
      simp only [show ((6 : Nat) : Int) = 6 from rfl]
      obtain ⟨g, gc, rfl, hgb, harr⟩ := Arr.of_owns HO.out (by simp) (by omega)
      have hc := harr.cell (show f < (List.replicate 6 (-1 : Int)).length by simp; omega)
      have hz := harr.frozen f
      have HS := Lib.hid (show Arr (wr.setCell ⟨g, f, none⟩ (.int .i64 m)) g (decL (start 1440 f m)) by rw [decL_start m2]; exact harr.set f m)
      have HB2 := Lib.hid (HB.out.setCell (p := ⟨g, f, none⟩) hgb (.int .i64 m))
      have glt := harr.lt
      clear harr
      go_wp2_with fail
      clear hc hz
      go_loopw [10, 12, 13, 14, 15] (fun v i _ _ _ wr => ∃ (n g gc : Nat), n ≤ l.length + 1 ∧ i = .int .i64 n ∧ v = .slice (some ⟨g, 0, none⟩) 6 gc ∧ w1.heap.size ≤ g ∧ Arr wr g (decL (jacs l (start 1440 f m) n)) ∧ (∀ j, j < n → thereIn l f t m j = false) ∧ Below w1.heap.size w1 wr) (fun _ i _ _ _ _ => l.length + 1 - (intOf i).toNat)
      case atStart => exact ⟨0, g, gc, Nat.zero_le _, rfl, rfl, hgb, HS.out, fun j hj => absurd hj (by omega), HB2.out⟩
      case round =>
        obtain ⟨n, g, gc, hn, rfl, rfl, hgb, harr, hall, hbel⟩ := hrel
        have HBn := Lib.hid hbel
        have HAn := Lib.hid harr
        have HAl := Lib.hid hall
        have zn := hbel.size
        clear hall
        by_cases hlt : n ≤ l.length
        · obtain ⟨o, ho⟩ : ∃ o, jacs l (start 1440 f m) n = o := ⟨_, rfl⟩
          have hM := HM.out n
          rw [ho] at HAn hM harr
          have Ho := Lib.hid ho
          have HO := Lib.hid hM
          have hM6 := hM.1
          have hc := harr.cell (show t < (decL o).length by rw [decL_len]; omega)
          rw [decL_nth (by omega)] at hc
          have hmn := hM.2 t (by omega)
          have HLd := Lib.hid (show (decL o).length = 6 by rw [decL_len]; exact hM6)
          clear hbel harr ho hM hM6
          by_cases hq : nth o t < 1440
          · have hq' : thereIn l f t m n = true := by rw [thereIn, Ho.out]; exact decide_eq_true hq
            have H := Lib.hid (few_some HK.out (by omega) hq' HAl.out)
            rw [dec, if_neg (by omega)] at hc
            have hp1 : 0 ≤ nth o t := hmn.1
            clear hq' hmn
            go_wp2_with fail
            go_ret2
            exact ⟨rett2 H.out rfl rfl, HB1.out.trans (HBn.out.mono HB1.out.size)⟩
          · have hq' : thereIn l f t m n = false := by rw [thereIn, Ho.out]; exact decide_eq_false hq
            have HN := Lib.hid (below_add HAl.out hq')
            rw [show nth o t = 1440 by omega, show dec 1440 = -1 from rfl] at hc
            clear hq' hmn
            go_wp2_with fail
            have hcl := l1Own_c (decL o) g gc wr (by have := HLd.out; omega) (by have := HLd.out; omega) HAn.out
            rw [HLd.out] at hcl
            refine hcl.mono ?_
            rintro e w2 ⟨g2, gc2, rfl, hg2, harr2, hb2⟩
            rw [HLd.out]
            have HAA := Lib.hid harr2
            have HAB := Lib.hid (HAn.out.carry hb2)
            have HB3 := Lib.hid (HBn.out.trans (hb2.mono zn))
            have hlg := HAn.out.lt
            clear harr2 hb2 hcl hc
            go_wp2_with fail
            go_loopw [14, 15] (fun i _ wr => ∃ k : Nat, k ≤ l.length ∧ i = .int .i64 k ∧ Arr wr g (decL o) ∧ Arr wr g2 (decL (jsweep l o k)) ∧ Below w1.heap.size w1 wr) (fun i _ _ => l.length - (intOf i).toNat)
            case atStart => exact ⟨0, Nat.zero_le _, rfl, HAB.out, HAA.out, HB3.out⟩
            case round =>
              obtain ⟨k, hk, rfl, harr, harr2, hbel⟩ := hrel
              have HB := Lib.hid hbel
              have HA1 := Lib.hid harr
              have HA2 := Lib.hid harr2
              have z1 := hbel.size
              by_cases hlk : k < l.length
              · obtain ⟨b, off, rfl, hb1, hc0, hc1, hc2, hc3, hc4⟩ := Rid.rd (hr1.below hbel (Nat.le_refl _)) hlk
                obtain ⟨⟨e1, e2⟩, ⟨e3, e4⟩, _, ⟨e5, e6⟩, ⟨e7, e8⟩, _⟩ := okR_true.1 (HG.out.2 k hlk)
                obtain ⟨f', hf⟩ : ∃ f : Nat, (nth l k).f = (f : Int) := ⟨(nth l k).f.toNat, by omega⟩
                obtain ⟨t', ht⟩ : ∃ t : Nat, (nth l k).t = (t : Int) := ⟨(nth l k).t.toNat, by omega⟩
                obtain ⟨x, hx⟩ : ∃ x, jsweep l o k = x := ⟨_, rfl⟩
                have hMx := mins_jsweep HG.out.2 HO.out k hk
                rw [hx] at harr2 HA2 hMx
                have Hs := Lib.hid (show jsweep l o (k + 1) = jacR o x (nth l k) by rw [jsweep, hx])
                have hMo := HO.out
                have hMo6 := hMo.1
                have hMx6 := hMx.1
                rw [hf] at hc0 e1 e2
                rw [ht] at hc1 e3 e4
                have hd0 := harr.cell (show f' < (decL o).length by rw [decL_len]; omega)
                have hd1 := harr2.cell (show t' < (decL x).length by rw [decL_len]; omega)
                rw [decL_nth (by omega)] at hd0 hd1
                have hz := harr2.frozen t'
                obtain ⟨v1, v2⟩ := hMo.2 f' (by omega)
                obtain ⟨v3, v4⟩ := hMx.2 t' (by omega)
                obtain ⟨X, hX⟩ : ∃ X, dec (nth o f') = X := ⟨_, rfl⟩
                obtain ⟨Y, hY⟩ : ∃ Y, dec (nth x t') = Y := ⟨_, rfl⟩
                rw [hX] at hd0
                rw [hY] at hd1
                have HXd := Lib.hid (show (nth o f' = 1440 ∧ X = -1) ∨ (nth o f' = X ∧ 0 ≤ X ∧ X < 1440) by
                  unfold dec at hX; split at hX <;> omega)
                have HYd := Lib.hid (show (nth x t' = 1440 ∧ Y = -1) ∨ (nth x t' = Y ∧ 0 ≤ Y ∧ Y < 1440) by
                  unfold dec at hY; split at hY <;> omega)
                have HF := Lib.hid hf
                have HT := Lib.hid ht
                have H6 := Lib.hid hMx6
                have l1 : b < wr.heap.size := by omega
                have l2 := harr.lt
                have l3 := harr2.lt
                have j1 : (0 : Int) ≤ (f' : Int) := by omega
                have j2 : (f' : Int) < 6 := by omega
                have j3 : (0 : Int) ≤ (t' : Int) := by omega
                have j4 : (t' : Int) < 6 := by omega
                clear hf ht hx harr harr2 hbel hX hY hMo hMx hMo6 hMx6 v1 v2 v3 v4
                by_cases q1 : 0 ≤ X
                case neg =>
                  have q1' : decide (0 ≤ X) = false := decide_eq_false q1
                  have H := Lib.hid (show jsweep l o (k + 1) = x by rw [Hs.out]; exact jacR_no HF.out (by rcases HXd.out with h | h <;> omega))
                  go_wp2_with fail
                  refine wp_region_mem (by kernel_rfl) (by kernel_rfl) ?_
                  repeat (go_big_quiet_step (fail))
                  refine wpQuiet_nil ?_
                  intro _ hw'
                  obtain ⟨⟨wq, hbq⟩, hw''⟩ := hw'
                  obtain rfl := hw''.symm
                  obtain ⟨hcq, hfq, hzq⟩ := bcell hbq
                  try simp [Nat.add_one_le_iff] at hzq
                  go_wp2_with fail
                  go_roundw
                  case rel => exact ⟨k + 1, by omega, by go_num, HA1.out.carry (by repeat (first | (with_reducible exact Below.refl _ _) | ((with_reducible refine alloc_ ?_ ?_); (focus (first | exact Nat.le_refl _ | (simp; done) | (simp; omega) | omega))) | ((with_reducible refine set_ ?_ ?_); (focus (first | exact Nat.le_refl _ | (simp; done) | (simp; omega) | omega))) | (with_reducible refine Below.drew ?_) | ((with_reducible refine after_ ?_ (by assumption) ?_); (rotate_left; (focus (first | exact Nat.le_refl _ | (simp; done) | (simp; omega) | omega)))))), by rw [H.out]; exact HA2.out.carry (by repeat (first | (with_reducible exact Below.refl _ _) | ((with_reducible refine alloc_ ?_ ?_); (focus (first | exact Nat.le_refl _ | (simp; done) | (simp; omega) | omega))) | ((with_reducible refine set_ ?_ ?_); (focus (first | exact Nat.le_refl _ | (simp; done) | (simp; omega) | omega))) | (with_reducible refine Below.drew ?_) | ((with_reducible refine after_ ?_ (by assumption) ?_); (rotate_left; (focus (first | exact Nat.le_refl _ | (simp; done) | (simp; omega) | omega)))))), (HB.out.trans (Below.mono (B := wr.heap.size) (by repeat (first | (with_reducible exact Below.refl _ _) | ((with_reducible refine alloc_ ?_ ?_); (focus (first | exact Nat.le_refl _ | (simp; done) | (simp; omega) | omega))) | ((with_reducible refine set_ ?_ ?_); (focus (first | exact Nat.le_refl _ | (simp; done) | (simp; omega) | omega))) | (with_reducible refine Below.drew ?_) | ((with_reducible refine after_ ?_ (by assumption) ?_); (rotate_left; (focus (first | exact Nat.le_refl _ | (simp; done) | (simp; omega) | omega)))))) z1))⟩
                  case measure => simp [intOf]; omega
                by_cases q2 : X ≤ (nth l k).d
                case neg =>
                  have q2' : decide (X ≤ (nth l k).d) = false := decide_eq_false q2
                  have H := Lib.hid (show jsweep l o (k + 1) = x by rw [Hs.out]; exact jacR_no HF.out (by rcases HXd.out with h | h <;> omega))
                  go_wp2_with fail
                  refine wp_region_mem (by kernel_rfl) (by kernel_rfl) ?_
                  repeat (go_big_quiet_step (fail))
                  refine wpQuiet_nil ?_
                  intro _ hw'
                  obtain ⟨⟨wq, hbq⟩, hw''⟩ := hw'
                  obtain rfl := hw''.symm
                  obtain ⟨hcq, hfq, hzq⟩ := bcell hbq
                  try simp [Nat.add_one_le_iff] at hzq
                  go_wp2_with fail
                  go_roundw
                  case rel => exact ⟨k + 1, by omega, by go_num, HA1.out.carry (by repeat (first | (with_reducible exact Below.refl _ _) | ((with_reducible refine alloc_ ?_ ?_); (focus (first | exact Nat.le_refl _ | (simp; done) | (simp; omega) | omega))) | ((with_reducible refine set_ ?_ ?_); (focus (first | exact Nat.le_refl _ | (simp; done) | (simp; omega) | omega))) | (with_reducible refine Below.drew ?_) | ((with_reducible refine after_ ?_ (by assumption) ?_); (rotate_left; (focus (first | exact Nat.le_refl _ | (simp; done) | (simp; omega) | omega)))))), by rw [H.out]; exact HA2.out.carry (by repeat (first | (with_reducible exact Below.refl _ _) | ((with_reducible refine alloc_ ?_ ?_); (focus (first | exact Nat.le_refl _ | (simp; done) | (simp; omega) | omega))) | ((with_reducible refine set_ ?_ ?_); (focus (first | exact Nat.le_refl _ | (simp; done) | (simp; omega) | omega))) | (with_reducible refine Below.drew ?_) | ((with_reducible refine after_ ?_ (by assumption) ?_); (rotate_left; (focus (first | exact Nat.le_refl _ | (simp; done) | (simp; omega) | omega)))))), (HB.out.trans (Below.mono (B := wr.heap.size) (by repeat (first | (with_reducible exact Below.refl _ _) | ((with_reducible refine alloc_ ?_ ?_); (focus (first | exact Nat.le_refl _ | (simp; done) | (simp; omega) | omega))) | ((with_reducible refine set_ ?_ ?_); (focus (first | exact Nat.le_refl _ | (simp; done) | (simp; omega) | omega))) | (with_reducible refine Below.drew ?_) | ((with_reducible refine after_ ?_ (by assumption) ?_); (rotate_left; (focus (first | exact Nat.le_refl _ | (simp; done) | (simp; omega) | omega)))))) z1))⟩
                  case measure => simp [intOf]; omega
                have HZ := Lib.hid (show jsweep l o (k + 1) = x.set t' (min (nth x t') (nth l k).a) by rw [Hs.out]; exact jacR_yes HF.out HT.out (by rcases HXd.out with h | h <;> omega))
                by_cases q3 : Y < 0 ∨ (nth l k).a < Y
                · have hmin : min (nth x t') (nth l k).a = (nth l k).a := by rcases HYd.out with h | h <;> omega
                  have H := Lib.hid (show jsweep l o (k + 1) = x.set t' (nth l k).a by rw [HZ.out, hmin])
                  clear hmin
                  by_cases q4 : Y < 0
                  case pos =>
                    go_wp2_with fail
                    refine wp_region_mem (by kernel_rfl) (by kernel_rfl) ?_
                    repeat (go_big_quiet_step (fail))
                    refine wpQuiet_nil ?_
                    intro _ hw'
                    obtain ⟨⟨wq, hbq⟩, hw''⟩ := hw'
                    obtain rfl := hw''.symm
                    obtain ⟨hcq, hfq, hzq⟩ := bcell hbq
                    try simp [Nat.add_one_le_iff] at hzq
                    go_wp2_with fail
                    have HD := Lib.hid (show Below wr.heap.size wr wq from (by repeat (first | (with_reducible exact Below.refl _ _) | ((with_reducible refine alloc_ ?_ ?_); (focus (first | exact Nat.le_refl _ | (simp; done) | (simp; omega) | omega))) | ((with_reducible refine set_ ?_ ?_); (focus (first | exact Nat.le_refl _ | (simp; done) | (simp; omega) | omega))) | (with_reducible refine Below.drew ?_) | ((with_reducible refine after_ ?_ (by assumption) ?_); (rotate_left; (focus (first | exact Nat.le_refl _ | (simp; done) | (simp; omega) | omega)))))))
                    have HX := Lib.hid ((Box.new wr [.int .i64 f', .int .i64 t', .int .i64 (nth l k).d, .int .i64 (nth l k).a, .int .i64 (nth l k).s] 52).carry hbq)
                    go_wp2_with fail
                    go_roundw
                    case rel => exact ⟨k + 1, by omega, by go_num, (HA1.out.carry HD.out).far (p := ⟨g2, t', none⟩) (by show g ≠ g2; omega) _, by rw [H.out, decL_set (by omega)]; exact (HA2.out.carry HD.out).set t' _, HB.out.trans ((HD.out.mono z1).setCell (p := ⟨g2, t', none⟩) (by show w1.heap.size ≤ g2; omega) _)⟩
                    case measure => simp [intOf]; omega
                  case neg =>
                    have q4' : decide (Y < 0) = false := decide_eq_false q4
                    have q5 : (nth l k).a < Y := by omega
                    clear q3
                    go_wp2_with fail
                    refine wp_region_mem (by kernel_rfl) (by kernel_rfl) ?_
                    repeat (go_big_quiet_step (fail))
                    refine wpQuiet_nil ?_
                    intro _ hw'
                    obtain ⟨⟨wq, hbq⟩, hw''⟩ := hw'
                    obtain rfl := hw''.symm
                    obtain ⟨hcq, hfq, hzq⟩ := bcell hbq
                    try simp [Nat.add_one_le_iff] at hzq
                    go_wp2_with fail
                    have HD := Lib.hid (show Below wr.heap.size wr wq from (by repeat (first | (with_reducible exact Below.refl _ _) | ((with_reducible refine alloc_ ?_ ?_); (focus (first | exact Nat.le_refl _ | (simp; done) | (simp; omega) | omega))) | ((with_reducible refine set_ ?_ ?_); (focus (first | exact Nat.le_refl _ | (simp; done) | (simp; omega) | omega))) | (with_reducible refine Below.drew ?_) | ((with_reducible refine after_ ?_ (by assumption) ?_); (rotate_left; (focus (first | exact Nat.le_refl _ | (simp; done) | (simp; omega) | omega)))))))
                    have HX := Lib.hid ((Box.new wr [.int .i64 f', .int .i64 t', .int .i64 (nth l k).d, .int .i64 (nth l k).a, .int .i64 (nth l k).s] 52).carry hbq)
                    go_wp2_with fail
                    go_roundw
                    case rel => exact ⟨k + 1, by omega, by go_num, (HA1.out.carry HD.out).far (p := ⟨g2, t', none⟩) (by show g ≠ g2; omega) _, by rw [H.out, decL_set (by omega)]; exact (HA2.out.carry HD.out).set t' _, HB.out.trans ((HD.out.mono z1).setCell (p := ⟨g2, t', none⟩) (by show w1.heap.size ≤ g2; omega) _)⟩
                    case measure => simp [intOf]; omega
                · have q4' : decide (Y < 0) = false := decide_eq_false (by omega)
                  have q5' : decide ((nth l k).a < Y) = false := decide_eq_false (by omega)
                  have hmin : min (nth x t') (nth l k).a = nth x t' := by rcases HYd.out with h | h <;> omega
                  have H := Lib.hid (show jsweep l o (k + 1) = x by rw [HZ.out, hmin, set_nth (by have := H6.out; omega)])
                  clear q3 hmin
                  go_wp2_with fail
                  refine wp_region_mem (by kernel_rfl) (by kernel_rfl) ?_
                  repeat (go_big_quiet_step (fail))
                  refine wpQuiet_nil ?_
                  intro _ hw'
                  obtain ⟨⟨wq, hbq⟩, hw''⟩ := hw'
                  obtain rfl := hw''.symm
                  obtain ⟨hcq, hfq, hzq⟩ := bcell hbq
                  try simp [Nat.add_one_le_iff] at hzq
                  go_wp2_with fail
                  go_roundw
                  case rel => exact ⟨k + 1, by omega, by go_num, HA1.out.carry (by repeat (first | (with_reducible exact Below.refl _ _) | ((with_reducible refine alloc_ ?_ ?_); (focus (first | exact Nat.le_refl _ | (simp; done) | (simp; omega) | omega))) | ((with_reducible refine set_ ?_ ?_); (focus (first | exact Nat.le_refl _ | (simp; done) | (simp; omega) | omega))) | (with_reducible refine Below.drew ?_) | ((with_reducible refine after_ ?_ (by assumption) ?_); (rotate_left; (focus (first | exact Nat.le_refl _ | (simp; done) | (simp; omega) | omega)))))), by rw [H.out]; exact HA2.out.carry (by repeat (first | (with_reducible exact Below.refl _ _) | ((with_reducible refine alloc_ ?_ ?_); (focus (first | exact Nat.le_refl _ | (simp; done) | (simp; omega) | omega))) | ((with_reducible refine set_ ?_ ?_); (focus (first | exact Nat.le_refl _ | (simp; done) | (simp; omega) | omega))) | (with_reducible refine Below.drew ?_) | ((with_reducible refine after_ ?_ (by assumption) ?_); (rotate_left; (focus (first | exact Nat.le_refl _ | (simp; done) | (simp; omega) | omega)))))), (HB.out.trans (Below.mono (B := wr.heap.size) (by repeat (first | (with_reducible exact Below.refl _ _) | ((with_reducible refine alloc_ ?_ ?_); (focus (first | exact Nat.le_refl _ | (simp; done) | (simp; omega) | omega))) | ((with_reducible refine set_ ?_ ?_); (focus (first | exact Nat.le_refl _ | (simp; done) | (simp; omega) | omega))) | (with_reducible refine Below.drew ?_) | ((with_reducible refine after_ ?_ (by assumption) ?_); (rotate_left; (focus (first | exact Nat.le_refl _ | (simp; done) | (simp; omega) | omega)))))) z1))⟩
                  case measure => simp [intOf]; omega
              · obtain rfl : k = l.length := by omega
                clear hbel harr harr2
                go_wp2_with fail
                go_roundw
                case rel => exact ⟨n + 1, g2, gc2, by omega, by go_num, rfl, by omega, by rw [jacs, Ho.out]; exact HA2.out, HN.out, HB.out⟩
                case measure => simp [intOf]; omega
        · obtain rfl : n = l.length + 1 := by omega
          have H := Lib.hid (few_none HK.out (fun j hj => by
            by_cases hj2 : j ≤ l.length
            · exact HAl.out j (by omega)
            · have := HAl.out l.length (by omega)
              unfold thereIn at this ⊢
              rw [jacs_end HG.out.2 (mins_start m1 m2) (by omega)]; exact this))
          clear hbel harr
          go_wp2_with fail
          go_ret2
          exact ⟨rett2 H.out rfl rfl, HB1.out.trans (HBn.out.mono HB1.out.size)⟩
end Go.Proofs.Ytddnemmdlijgiaa
