/- The tests on rings: the program's and the reference's return one Lean function; no conditions but the length and that the ring's length is not far off. -/
import Derived.Test.YtifmeloljkgcjaaRing
import Derived.Test.YtifmeloljkgcjaaRange
import Derived.IntWalk
import Derived.Outline
namespace Go.Proofs.Ytifmeloljkgcjaa
open Go.RowKit

def NearC (L : Int) : Prop := -1000000 ≤ L ∧ L ≤ 1000000
def riseAt (l : List Int) (lo hi : Int) (i : Nat) : Bool := inR (nth l i) lo hi && (decide (i = 0) || decide (nth l (i - 1) < nth l i))
theorem risesB_no {l : List Int} {lo hi : Int} {k : Nat} (hk : k < l.length) (h : riseAt l lo hi k = false) : risesB l lo hi = false := allTo_no (p := riseAt l lo hi) hk h
theorem risesB_all {l : List Int} {lo hi : Int} (h : ∀ i, i < l.length → riseAt l lo hi i = true) : risesB l lo hi = true := allTo_true.2 h
theorem goodC_parts {L s : Int} {l : List Int} (h1 : inR L 10 4000 = true) (h2 : inR s 1 100 = true) (h3 : l.length ≤ 12) : goodC L s l = risesB l 0 (L - 1) := by simp [goodC, h1, h2, h3]
set_option maxHeartbeats 1000000 in
theorem isCircle_c (L s : Int) (l : List Int) (A : Option Addr) (cap : Nat) (w : World) (hl : l.length ≤ 1000) (hr : Rd w w.heap.size 1 intCells A l) :
    Calls Try.prog 9 #[.agg #[.int .i64 L, .int .i64 s, .slice A l.length cap]] w fun e w' => e = .returned (.bool (goodC L s l)) ∧ Below w.heap.size w w' := by
  rcases h1 : inR L 10 4000 with _ | _
  · have H := Lib.hid (show goodC L s l = false by simp [goodC, h1])
    go_enter Try.func9, Try.ntmps9
    go_wp2_with (go_at_call 26; refine (within_c _ _ _ _).mono ?_; rintro e w' ⟨rfl, rfl⟩)
    go_ret
    exact ⟨retb H.out.symm, (by repeat (first | (with_reducible exact Below.refl _ _) | ((with_reducible refine alloc_ ?_ ?_); (focus (first | exact Nat.le_refl _ | (simp; done) | (simp; omega) | omega))) | ((with_reducible refine set_ ?_ ?_); (focus (first | exact Nat.le_refl _ | (simp; done) | (simp; omega) | omega))) | (with_reducible refine Below.drew ?_) | ((with_reducible refine after_ ?_ (by assumption) ?_); (rotate_left; (focus (first | exact Nat.le_refl _ | (simp; done) | (simp; omega) | omega))))))⟩
  rcases h2 : inR s 1 100 with _ | _
  · have H := Lib.hid (show goodC L s l = false by simp [goodC, h2])
    go_enter Try.func9, Try.ntmps9
    go_wp2_with (go_at_call 26; refine (within_c _ _ _ _).mono ?_; rintro e w' ⟨rfl, rfl⟩)
    go_ret
    exact ⟨retb H.out.symm, (by repeat (first | (with_reducible exact Below.refl _ _) | ((with_reducible refine alloc_ ?_ ?_); (focus (first | exact Nat.le_refl _ | (simp; done) | (simp; omega) | omega))) | ((with_reducible refine set_ ?_ ?_); (focus (first | exact Nat.le_refl _ | (simp; done) | (simp; omega) | omega))) | (with_reducible refine Below.drew ?_) | ((with_reducible refine after_ ?_ (by assumption) ?_); (rotate_left; (focus (first | exact Nat.le_refl _ | (simp; done) | (simp; omega) | omega))))))⟩
  by_cases h3 : l.length ≤ 12
  · have H := Lib.hid (goodC_parts h1 h2 h3)
    obtain ⟨q1, q2⟩ := inR_true.1 h1
    have hr1 := hr.alloc (.cells #[.int .i64 L, .int .i64 s, .slice A l.length cap] 26)
    have i9 : ¬ (12 : Int) < l.length := by omega
    have aL : IntKind.i64.wrap (L - 1) = L - 1 := IntWalk.i64_in _ (by omega)
    go_enter Try.func9, Try.ntmps9
    go_wp2_with (go_at_call 26; refine (within_c _ _ _ _).mono ?_; rintro e w' ⟨rfl, rfl⟩)
    go_loop [3, 4, 24] (fun _ _ i => ∃ k : Nat, k ≤ l.length ∧ i = .int .i64 k ∧ ∀ j, j < k → riseAt l 0 (L - 1) j = true) (fun _ _ i => l.length - (intOf i).toNat)
    case atStart => exact ⟨0, Nat.zero_le _, rfl, fun j hj => absurd hj (by omega)⟩
    case round =>
      obtain ⟨k, hk, rfl, hall⟩ := hrel
      have HA := Lib.hid hall
      clear hall
      by_cases hlt : k < l.length
      · obtain ⟨b, off, rfl, hb1, hc⟩ := hr1.int hlt
        have i1 : (0 : Int) ≤ (k : Int) := by omega
        have i2 : (k : Int) < l.length := by omega
        rcases a1 : inR (nth l k) 0 (L - 1) with _ | _
        · have HN := Lib.hid (risesB_no (lo := 0) (hi := L - 1) hlt (by simp [riseAt, a1]))
          go_wp2_with (go_at_call 26; refine (within_c _ _ _ _).mono ?_; rintro e w' ⟨rfl, rfl⟩)
          go_ret
          exact ⟨retb (by rw [H.out, HN.out]), (by repeat (first | (with_reducible exact Below.refl _ _) | ((with_reducible refine alloc_ ?_ ?_); (focus (first | exact Nat.le_refl _ | (simp; done) | (simp; omega) | omega))) | ((with_reducible refine set_ ?_ ?_); (focus (first | exact Nat.le_refl _ | (simp; done) | (simp; omega) | omega))) | (with_reducible refine Below.drew ?_) | ((with_reducible refine after_ ?_ (by assumption) ?_); (rotate_left; (focus (first | exact Nat.le_refl _ | (simp; done) | (simp; omega) | omega))))))⟩
        by_cases hk0 : k = 0
        · subst hk0
          simp only [Nat.add_zero] at hc
          have HY := Lib.hid (show riseAt l 0 (L - 1) 0 = true by simp [riseAt, a1])
          go_wp2_with (go_at_call 26; refine (within_c _ _ _ _).mono ?_; rintro e w' ⟨rfl, rfl⟩)
          go_round
          case rel => exact ⟨1, by omega, by first | rfl | go_num, below_add HA.out HY.out⟩
          case measure => simp [intOf]; omega
        · obtain ⟨j, rfl⟩ : ∃ j, k = j + 1 := ⟨k - 1, by omega⟩
          obtain ⟨b', off', he, hb2, hd⟩ := hr1.int (show j < l.length by omega)
          simp only [Option.some.injEq, Addr.mk.injEq, and_true] at he
          obtain ⟨rfl, rfl⟩ := he
          have i3 : (0 : Int) ≤ (j : Int) := by omega
          have i4 : (j : Int) < l.length := by omega
          have i5 : decide ((0 : Int) < (j : Int) + 1) = true := by first | (simp; done) | (simp; omega)
          clear hk0
          by_cases hm : nth l j < nth l (j + 1)
          · have HY := Lib.hid (show riseAt l 0 (L - 1) (j + 1) = true by simp [riseAt, a1, hm])
            go_wp2_with (go_at_call 26; refine (within_c _ _ _ _).mono ?_; rintro e w' ⟨rfl, rfl⟩)
            go_round
            case rel => exact ⟨j + 1 + 1, by omega, by go_num, below_add HA.out HY.out⟩
            case measure => simp [intOf]; omega
          · have HN := Lib.hid (risesB_no (lo := 0) (hi := L - 1) hlt (by simp [riseAt, hm]))
            go_wp2_with (go_at_call 26; refine (within_c _ _ _ _).mono ?_; rintro e w' ⟨rfl, rfl⟩)
            go_ret
            exact ⟨retb (by rw [H.out, HN.out]), (by repeat (first | (with_reducible exact Below.refl _ _) | ((with_reducible refine alloc_ ?_ ?_); (focus (first | exact Nat.le_refl _ | (simp; done) | (simp; omega) | omega))) | ((with_reducible refine set_ ?_ ?_); (focus (first | exact Nat.le_refl _ | (simp; done) | (simp; omega) | omega))) | (with_reducible refine Below.drew ?_) | ((with_reducible refine after_ ?_ (by assumption) ?_); (rotate_left; (focus (first | exact Nat.le_refl _ | (simp; done) | (simp; omega) | omega))))))⟩
      · obtain rfl : k = l.length := by omega
        have HY := Lib.hid (risesB_all HA.out)
        go_wp2_with fail
        go_ret
        exact ⟨retb (by rw [H.out, HY.out]), (by repeat (first | (with_reducible exact Below.refl _ _) | ((with_reducible refine alloc_ ?_ ?_); (focus (first | exact Nat.le_refl _ | (simp; done) | (simp; omega) | omega))) | ((with_reducible refine set_ ?_ ?_); (focus (first | exact Nat.le_refl _ | (simp; done) | (simp; omega) | omega))) | (with_reducible refine Below.drew ?_) | ((with_reducible refine after_ ?_ (by assumption) ?_); (rotate_left; (focus (first | exact Nat.le_refl _ | (simp; done) | (simp; omega) | omega))))))⟩
  · have H := Lib.hid (show goodC L s l = false by simp [goodC, h3])
    have i9 : (12 : Int) < l.length := by omega
    go_enter Try.func9, Try.ntmps9
    go_wp2_with (go_at_call 26; refine (within_c _ _ _ _).mono ?_; rintro e w' ⟨rfl, rfl⟩)
    go_ret
    exact ⟨retb H.out.symm, (by repeat (first | (with_reducible exact Below.refl _ _) | ((with_reducible refine alloc_ ?_ ?_); (focus (first | exact Nat.le_refl _ | (simp; done) | (simp; omega) | omega))) | ((with_reducible refine set_ ?_ ?_); (focus (first | exact Nat.le_refl _ | (simp; done) | (simp; omega) | omega))) | (with_reducible refine Below.drew ?_) | ((with_reducible refine after_ ?_ (by assumption) ?_); (rotate_left; (focus (first | exact Nat.le_refl _ | (simp; done) | (simp; omega) | omega))))))⟩
set_option maxHeartbeats 1000000 in
theorem l1Rising_c (l : List Int) (A : Option Addr) (cap : Nat) (lo hi : Int) (w : World) (hl : l.length ≤ 1048576) (hr : Rd w w.heap.size 1 intCells A l) :
    Calls Try.prog 43 #[.slice A l.length cap, .int .i64 lo, .int .i64 hi] w fun e w' => e = .returned (.bool (risesB l lo hi)) ∧ Below w.heap.size w w' := by
  go_enter Try.func43, Try.ntmps43
  go_wp2_with fail
  go_loopw [7] (fun i wr => ∃ k : Nat, k ≤ l.length ∧ i = .int .i64 k ∧ (∀ j, j < k → riseAt l lo hi j = true) ∧ Below w.heap.size w wr) (fun i _ => l.length - (intOf i).toNat)
  case atStart => exact ⟨0, Nat.zero_le _, rfl, fun j hj => absurd hj (by omega), Below.refl _ _⟩
  case round =>
    obtain ⟨k, hk, rfl, hall, hbel⟩ := hrel
    have HB := Lib.hid hbel
    have HA := Lib.hid hall
    clear hall
    by_cases hlt : k < l.length
    · obtain ⟨b, off, rfl, hb1, hc⟩ := (hr.below hbel (Nat.le_refl _)).int hlt
      have z1 := hbel.size
      have l1 : b < wr.heap.size := by omega
      have i1 : (0 : Int) ≤ (k : Int) := by omega
      have i2 : (k : Int) < l.length := by omega
      rcases a1 : inR (nth l k) lo hi with _ | _
      · have HN := Lib.hid (risesB_no (lo := lo) (hi := hi) hlt (by simp [riseAt, a1]))
        clear hbel
        go_wp2_with fail
        refine wp_region_mem (by kernel_rfl) (by kernel_rfl) ?_
        repeat (go_big_quiet_step ((go_at_call 32; exact same_bool (l1In_c _ _ _ _) a1)))
        refine wpQuiet_nil ?_
        intro _ hw'
        obtain ⟨⟨wq, hbq⟩, hw''⟩ := hw'
        obtain rfl := hw''.symm
        obtain ⟨hcq, hfq, hzq⟩ := bcell hbq
        try simp [Nat.add_one_le_iff] at hzq
        go_wp2_with fail
        go_ret
        exact ⟨retb HN.out.symm, (HB.out.trans (Below.mono (B := wr.heap.size) (by repeat (first | (with_reducible exact Below.refl _ _) | ((with_reducible refine alloc_ ?_ ?_); (focus (first | exact Nat.le_refl _ | (simp; done) | (simp; omega) | omega))) | ((with_reducible refine set_ ?_ ?_); (focus (first | exact Nat.le_refl _ | (simp; done) | (simp; omega) | omega))) | (with_reducible refine Below.drew ?_) | ((with_reducible refine after_ ?_ (by assumption) ?_); (rotate_left; (focus (first | exact Nat.le_refl _ | (simp; done) | (simp; omega) | omega)))))) z1))⟩
      by_cases hk0 : k = 0
      · subst hk0
        simp only [Nat.add_zero] at hc
        have HY := Lib.hid (show riseAt l lo hi 0 = true by simp [riseAt, a1])
        clear hbel
        go_wp2_with fail
        refine wp_region_mem (by kernel_rfl) (by kernel_rfl) ?_
        repeat (go_big_quiet_step ((go_at_call 32; exact same_bool (l1In_c _ _ _ _) a1)))
        refine wpQuiet_nil ?_
        intro _ hw'
        obtain ⟨⟨wq, hbq⟩, hw''⟩ := hw'
        obtain rfl := hw''.symm
        obtain ⟨hcq, hfq, hzq⟩ := bcell hbq
        try simp [Nat.add_one_le_iff] at hzq
        go_wp2_with fail
        go_roundw
        case rel => exact ⟨1, by omega, by first | rfl | go_num, below_add HA.out HY.out, (HB.out.trans (Below.mono (B := wr.heap.size) (by repeat (first | (with_reducible exact Below.refl _ _) | ((with_reducible refine alloc_ ?_ ?_); (focus (first | exact Nat.le_refl _ | (simp; done) | (simp; omega) | omega))) | ((with_reducible refine set_ ?_ ?_); (focus (first | exact Nat.le_refl _ | (simp; done) | (simp; omega) | omega))) | (with_reducible refine Below.drew ?_) | ((with_reducible refine after_ ?_ (by assumption) ?_); (rotate_left; (focus (first | exact Nat.le_refl _ | (simp; done) | (simp; omega) | omega)))))) z1))⟩
        case measure => simp [intOf]; omega
      · obtain ⟨j, rfl⟩ : ∃ j, k = j + 1 := ⟨k - 1, by omega⟩
        obtain ⟨b', off', he, hb2, hd⟩ := (hr.below hbel (Nat.le_refl _)).int (show j < l.length by omega)
        simp only [Option.some.injEq, Addr.mk.injEq, and_true] at he
        obtain ⟨rfl, rfl⟩ := he
        have i3 : (0 : Int) ≤ (j : Int) := by omega
        have i4 : (j : Int) < l.length := by omega
        have i5 : decide ((0 : Int) < (j : Int) + 1) = true := by first | (simp; done) | (simp; omega)
        have wj : IntKind.i64.wrap (j : Int) = j := IntWalk.i64_in _ (by omega)
        clear hbel hk0
        by_cases hm : nth l j < nth l (j + 1)
        · have HY := Lib.hid (show riseAt l lo hi (j + 1) = true by simp [riseAt, a1, hm])
          go_wp2_with fail
          refine wp_region_mem (by kernel_rfl) (by kernel_rfl) ?_
          repeat (go_big_quiet_step ((go_at_call 32; exact same_bool (l1In_c _ _ _ _) a1)))
          refine wpQuiet_nil ?_
          intro _ hw'
          obtain ⟨⟨wq, hbq⟩, hw''⟩ := hw'
          obtain rfl := hw''.symm
          obtain ⟨hcq, hfq, hzq⟩ := bcell hbq
          try simp [Nat.add_one_le_iff] at hzq
          go_wp2_with fail
          go_roundw
          case rel => exact ⟨j + 1 + 1, by omega, by go_num, below_add HA.out HY.out, (HB.out.trans (Below.mono (B := wr.heap.size) (by repeat (first | (with_reducible exact Below.refl _ _) | ((with_reducible refine alloc_ ?_ ?_); (focus (first | exact Nat.le_refl _ | (simp; done) | (simp; omega) | omega))) | ((with_reducible refine set_ ?_ ?_); (focus (first | exact Nat.le_refl _ | (simp; done) | (simp; omega) | omega))) | (with_reducible refine Below.drew ?_) | ((with_reducible refine after_ ?_ (by assumption) ?_); (rotate_left; (focus (first | exact Nat.le_refl _ | (simp; done) | (simp; omega) | omega)))))) z1))⟩
          case measure => simp [intOf]; omega
        · have HN := Lib.hid (risesB_no (lo := lo) (hi := hi) hlt (by simp [riseAt, hm]))
          go_wp2_with fail
          refine wp_region_mem (by kernel_rfl) (by kernel_rfl) ?_
          repeat (go_big_quiet_step ((go_at_call 32; exact same_bool (l1In_c _ _ _ _) a1)))
          refine wpQuiet_nil ?_
          intro _ hw'
          obtain ⟨⟨wq, hbq⟩, hw''⟩ := hw'
          obtain rfl := hw''.symm
          obtain ⟨hcq, hfq, hzq⟩ := bcell hbq
          try simp [Nat.add_one_le_iff] at hzq
          go_wp2_with fail
          go_ret
          exact ⟨retb HN.out.symm, (HB.out.trans (Below.mono (B := wr.heap.size) (by repeat (first | (with_reducible exact Below.refl _ _) | ((with_reducible refine alloc_ ?_ ?_); (focus (first | exact Nat.le_refl _ | (simp; done) | (simp; omega) | omega))) | ((with_reducible refine set_ ?_ ?_); (focus (first | exact Nat.le_refl _ | (simp; done) | (simp; omega) | omega))) | (with_reducible refine Below.drew ?_) | ((with_reducible refine after_ ?_ (by assumption) ?_); (rotate_left; (focus (first | exact Nat.le_refl _ | (simp; done) | (simp; omega) | omega)))))) z1))⟩
    · obtain rfl : k = l.length := by omega
      clear hbel
      have HY := Lib.hid (risesB_all HA.out)
      go_wp2_with fail
      go_ret
      exact ⟨retb HY.out.symm, HB.out⟩
theorem l8Good_c (L s : Int) (l : List Int) (A : Option Addr) (cap : Nat) (w : World) (hL : NearC L) (hl : l.length ≤ 1000) (hr : Rd w w.heap.size 1 intCells A l) :
    Calls Try.prog 31 #[.agg #[.int .i64 L, .int .i64 s, .slice A l.length cap]] w fun e w' => e = .returned (.bool (goodC L s l)) ∧ Below w.heap.size w w' := by
  obtain ⟨n1, n2⟩ := hL
  rcases h1 : inR L 10 4000 with _ | _
  · have H := Lib.hid (show goodC L s l = false by simp [goodC, h1])
    go_enter Try.func31, Try.ntmps31
    go_wp2_with (go_at_call 32; refine (l1In_c _ _ _ _).mono ?_; rintro e w' ⟨rfl, rfl⟩)
    go_ret
    exact ⟨retb H.out.symm, (by repeat (first | (with_reducible exact Below.refl _ _) | ((with_reducible refine alloc_ ?_ ?_); (focus (first | exact Nat.le_refl _ | (simp; done) | (simp; omega) | omega))) | ((with_reducible refine set_ ?_ ?_); (focus (first | exact Nat.le_refl _ | (simp; done) | (simp; omega) | omega))) | (with_reducible refine Below.drew ?_) | ((with_reducible refine after_ ?_ (by assumption) ?_); (rotate_left; (focus (first | exact Nat.le_refl _ | (simp; done) | (simp; omega) | omega))))))⟩
  rcases h2 : inR s 1 100 with _ | _
  · have H := Lib.hid (show goodC L s l = false by simp [goodC, h2])
    go_enter Try.func31, Try.ntmps31
    go_wp2_with (go_at_call 32; refine (l1In_c _ _ _ _).mono ?_; rintro e w' ⟨rfl, rfl⟩)
    go_ret
    exact ⟨retb H.out.symm, (by repeat (first | (with_reducible exact Below.refl _ _) | ((with_reducible refine alloc_ ?_ ?_); (focus (first | exact Nat.le_refl _ | (simp; done) | (simp; omega) | omega))) | ((with_reducible refine set_ ?_ ?_); (focus (first | exact Nat.le_refl _ | (simp; done) | (simp; omega) | omega))) | (with_reducible refine Below.drew ?_) | ((with_reducible refine after_ ?_ (by assumption) ?_); (rotate_left; (focus (first | exact Nat.le_refl _ | (simp; done) | (simp; omega) | omega))))))⟩
  have hr1 := Lib.hid (hr.alloc (.cells #[.int .i64 L, .int .i64 s, .slice A l.length cap] 26))
  rcases h3 : risesB l 0 (L - 1) with _ | _
  · have H := Lib.hid (show goodC L s l = false by simp [goodC, h3])
    have H3 := Lib.hid h3
    clear h3
    go_enter Try.func31, Try.ntmps31
    go_wp2_with (first | (go_at_call 32; refine (l1In_c _ _ _ _).mono ?_; rintro e w' ⟨rfl, rfl⟩) | (go_at_call 43; refine (l1Rising_c l _ _ _ _ _ (by omega) hr1.out).mono ?_; rintro e w1 ⟨rfl, hb1⟩; obtain ⟨hc1, hf1, hz1⟩ := bcell hb1; try simp [Nat.add_one_le_iff] at hz1; rw [H3.out]))
    go_ret
    exact ⟨retb H.out.symm, (by repeat (first | (with_reducible exact Below.refl _ _) | ((with_reducible refine alloc_ ?_ ?_); (focus (first | exact Nat.le_refl _ | (simp; done) | (simp; omega) | omega))) | ((with_reducible refine set_ ?_ ?_); (focus (first | exact Nat.le_refl _ | (simp; done) | (simp; omega) | omega))) | (with_reducible refine Below.drew ?_) | ((with_reducible refine after_ ?_ (by assumption) ?_); (rotate_left; (focus (first | exact Nat.le_refl _ | (simp; done) | (simp; omega) | omega))))))⟩
  · have H := Lib.hid (show goodC L s l = decide (l.length ≤ 12) by simp [goodC, h1, h2, h3])
    have H3 := Lib.hid h3
    clear h3
    go_enter Try.func31, Try.ntmps31
    go_wp2_with (first | (go_at_call 32; refine (l1In_c _ _ _ _).mono ?_; rintro e w' ⟨rfl, rfl⟩) | (go_at_call 43; refine (l1Rising_c l _ _ _ _ _ (by omega) hr1.out).mono ?_; rintro e w1 ⟨rfl, hb1⟩; obtain ⟨hc1, hf1, hz1⟩ := bcell hb1; try simp [Nat.add_one_le_iff] at hz1; rw [H3.out]))
    go_ret
    exact ⟨retb (by rw [H.out]; simp; try omega), (by repeat (first | (with_reducible exact Below.refl _ _) | ((with_reducible refine alloc_ ?_ ?_); (focus (first | exact Nat.le_refl _ | (simp; done) | (simp; omega) | omega))) | ((with_reducible refine set_ ?_ ?_); (focus (first | exact Nat.le_refl _ | (simp; done) | (simp; omega) | omega))) | (with_reducible refine Below.drew ?_) | ((with_reducible refine after_ ?_ (by assumption) ?_); (rotate_left; (focus (first | exact Nat.le_refl _ | (simp; done) | (simp; omega) | omega))))))⟩
theorem specIsCircle_c (L s : Int) (l : List Int) (A : Option Addr) (cap : Nat) (w : World) (hL : NearC L) (hl : l.length ≤ 1000) (hr : Rd w w.heap.size 1 intCells A l) :
    Calls Try.prog 10 #[.agg #[.int .i64 L, .int .i64 s, .slice A l.length cap]] w fun e w' => e = .returned (.bool (goodC L s l)) ∧ Below w.heap.size w w' := by
  go_enter Try.func10, Try.ntmps10
  go_wp2_with fail
  refine (l8Good_c L s l _ _ _ hL hl (hr.alloc _)).mono ?_
  rintro e w1 ⟨rfl, hb1⟩
  go_wp2_with fail
  go_ret
  exact ⟨rfl, (by repeat (first | (with_reducible exact Below.refl _ _) | ((with_reducible refine alloc_ ?_ ?_); (focus (first | exact Nat.le_refl _ | (simp; done) | (simp; omega) | omega))) | ((with_reducible refine set_ ?_ ?_); (focus (first | exact Nat.le_refl _ | (simp; done) | (simp; omega) | omega))) | (with_reducible refine Below.drew ?_) | ((with_reducible refine after_ ?_ (by assumption) ?_); (rotate_left; (focus (first | exact Nat.le_refl _ | (simp; done) | (simp; omega) | omega))))))⟩
end Go.Proofs.Ytifmeloljkgcjaa
