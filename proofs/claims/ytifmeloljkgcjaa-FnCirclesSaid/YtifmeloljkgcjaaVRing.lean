/- The tests on rings that the statement uses: two rings that are one, the sum of a list; no conditions but the length. -/
import Derived.Test.YtifmeloljkgcjaaVee
import Derived.Test.YtifmeloljkgcjaaRing
namespace Go.Proofs.Ytifmeloljkgcjaa
open Go.RowKit

def YesIf (p : Prop) (w : World) (e : Ending) (w' : World) : Prop := ∃ b : Bool, e = .returned (.bool b) ∧ (p → b = true) ∧ Below w.heap.size w w'
/-- Two lists of ints: a yes if they are one. -/
theorem vInts_any (l l' : List Int) (A B : Option Addr) (cap cap' : Nat) (w : World) (hl : l.length ≤ 1048576) (hl' : l'.length ≤ 1048576) (hr : Rd w w.heap.size 1 intCells A l) (hr' : Rd w w.heap.size 1 intCells B l') :
    Calls Try.prog 13 #[.slice A l.length cap, .slice B l'.length cap'] w (YesIf (l = l') w) := by
  by_cases hq : l = l'
  · subst hq
    exact (vInts_same l A B cap cap' w hl hr hr').mono fun e w' ⟨he, hb⟩ => ⟨true, he, fun _ => rfl, hb⟩
  have HQ := Lib.hid hq
  clear hq
  by_cases hlen : l.length = l'.length
  · have hb : ((l.length : Int) != l'.length) = false := by simp [hlen]
    have HL := Lib.hid hlen
    clear hlen
    go_enter Try.func13, Try.ntmps13
    go_wp2_with fail
    go_loopw [5] (fun i wr => ∃ k : Nat, k ≤ l.length ∧ i = .int .i64 k ∧ Below w.heap.size w wr) (fun i _ => l.length - (intOf i).toNat)
    case atStart => exact ⟨0, Nat.zero_le _, rfl, Below.refl _ _⟩
    case round =>
      obtain ⟨k, hk, rfl, hbel⟩ := hrel
      have HB := Lib.hid hbel
      by_cases hlt : k < l.length
      · obtain ⟨b, off, rfl, hb1, hc1⟩ := (hr.below hbel (Nat.le_refl _)).int hlt
        obtain ⟨b', off', rfl, hb2, hc2⟩ := (hr'.below hbel (Nat.le_refl _)).int (show k < l'.length by have := HL.out; omega)
        have z1 := hbel.size
        have l1 : b < wr.heap.size := by omega
        have l2 : b' < wr.heap.size := by omega
        have i1 : (0 : Int) ≤ (k : Int) := by omega
        have i2 : (k : Int) < l.length := by omega
        have i3 : (k : Int) < l'.length := by have := HL.out; omega
        obtain ⟨x, hx⟩ : ∃ x, nth l k = x := ⟨_, rfl⟩
        obtain ⟨y, hy⟩ : ∃ y, nth l' k = y := ⟨_, rfl⟩
        rw [hx] at hc1
        rw [hy] at hc2
        clear hbel hx hy
        by_cases hxy : x = y
        · have hn : (x != y) = false := by simp [hxy]
          clear hxy
          go_wp2_with fail
          refine wp_region_mem (by kernel_rfl) (by kernel_rfl) ?_
          repeat (go_big_quiet_step (fail))
          refine wpQuiet_nil ?_
          intro _ hw'
          obtain ⟨⟨wq, hbq⟩, hw''⟩ := hw'
          obtain rfl := hw''.symm
          obtain ⟨hcq, hfq, hzq⟩ := bcell hbq
          try simp [Nat.add_one_le_iff] at hzq
          go_wp2_with fail
          go_roundw
          case rel => exact ⟨k + 1, by omega, by go_num, HB.out.trans (hbq.mono z1)⟩
          case measure => simp [intOf]; omega
        · have hn : (x != y) = true := by simp [hxy]
          clear hxy
          go_wp2_with fail
          refine wp_region_mem (by kernel_rfl) (by kernel_rfl) ?_
          repeat (go_big_quiet_step (fail))
          refine wpQuiet_nil ?_
          intro _ hw'
          obtain ⟨⟨wq, hbq⟩, hw''⟩ := hw'
          obtain rfl := hw''.symm
          obtain ⟨hcq, hfq, hzq⟩ := bcell hbq
          try simp [Nat.add_one_le_iff] at hzq
          have HE := Lib.hid (HB.out.trans (hbq.mono z1))
          go_wp2_with fail
          go_ret
          exact ⟨false, rfl, fun h => absurd h HQ.out, HE.out⟩
      · clear hbel
        obtain rfl : k = l.length := by omega
        go_wp2_with fail
        go_ret
        exact ⟨true, rfl, fun _ => rfl, HB.out⟩
  · have hb : ((l.length : Int) != l'.length) = true := by simp; omega
    clear hlen
    go_enter Try.func13, Try.ntmps13
    go_wp2_with fail
    go_ret
    exact ⟨false, rfl, fun h => absurd h HQ.out, Below.refl _ _⟩
def Small (l : List Int) : Prop := l.length ≤ 1000 ∧ ∀ i, i < l.length → 0 ≤ nth l i ∧ nth l i ≤ 100000
theorem sumTo_bd {l : List Int} (h : Small l) : ∀ k, k ≤ l.length → 0 ≤ sumTo (nth l) k ∧ sumTo (nth l) k ≤ 100000 * k
  | 0, _ => by simp [sumTo]
  | k + 1, hk => by
    have h1 := sumTo_bd h k (by omega)
    have h2 := h.2 k (by omega)
    rw [sumTo]; omega
theorem vSum_c (l : List Int) (A : Option Addr) (cap : Nat) (w : World) (hs : Small l) (hr : Rd w w.heap.size 1 intCells A l) :
    Calls Try.prog 14 #[.slice A l.length cap] w fun e w' => e = .returned (.int .i64 (sumTo (nth l) l.length)) ∧ w = w' := by
  have HS := Lib.hid hs
  have hl := hs.1
  clear hs
  go_enter Try.func14, Try.ntmps14
  go_wp2_with fail
  go_loop [3, 4] (fun s i => ∃ k : Nat, k ≤ l.length ∧ i = .int .i64 k ∧ s = .int .i64 (sumTo (nth l) k)) (fun _ i => l.length - (intOf i).toNat)
  case atStart => exact ⟨0, Nat.zero_le _, rfl, rfl⟩
  case round =>
    obtain ⟨k, hk, rfl, rfl⟩ := hrel
    by_cases hlt : k < l.length
    · obtain ⟨b, off, rfl, hb, hc⟩ := hr.int hlt
      have h1 := sumTo_bd HS.out k hk
      have h2 := HS.out.2 k hlt
      have e1 : IntKind.i64.wrap (sumTo (nth l) k + nth l k) = sumTo (nth l) (k + 1) := IntWalk.i64_in _ (by omega)
      go_wp2_with fail
      go_round
      case rel => exact ⟨k + 1, by omega, by go_num, by first | rfl | exact congrArg _ e1⟩
      case measure => simp [intOf]; omega
    · obtain rfl : k = l.length := by omega
      go_wp2_with fail
      go_ret
      exact ⟨rfl, rfl⟩
theorem sumTo_congr {f g : Nat → Int} : ∀ k, (∀ i, i < k → f i = g i) → sumTo f k = sumTo g k
  | 0, _ => rfl
  | k + 1, h => by rw [sumTo, sumTo, sumTo_congr k (fun i hi => h i (by omega)), h k (by omega)]
theorem gaps_small {L s : Int} {l : List Int} (h : WellC L s l) : Small (gapsL L l) := by
  have hL := h.len
  have hf := h.few
  refine ⟨by rw [gapsL_len]; omega, fun i hi => ?_⟩
  rw [gapsL_len] at hi
  rw [gapsL_nth hi]
  have := gap_pos h hi
  omega
theorem gaps_all {L s : Int} {l : List Int} (h : WellC L s l) (h0 : 0 < l.length) : sumTo (nth (gapsL L l)) (gapsL L l).length = L := by
  rw [gapsL_len, sumTo_congr _ (fun i hi => gapsL_nth hi)]
  exact gaps_sum h h0
/-- Two rings: a yes if they are one. -/
theorem vCircle_any (L s L' s' : Int) (l l' : List Int) (A B : Option Addr) (cap cap' : Nat) (w : World) (hl : l.length ≤ 1048576) (hl' : l'.length ≤ 1048576) (hr : Rd w w.heap.size 1 intCells A l) (hr' : Rd w w.heap.size 1 intCells B l') :
    Calls Try.prog 8 #[.agg #[.int .i64 L, .int .i64 s, .slice A l.length cap], .agg #[.int .i64 L', .int .i64 s', .slice B l'.length cap']] w (YesIf (L = L' ∧ s = s' ∧ l = l') w) := by
  have HR := Lib.hid ((hr.alloc (.cells #[.int .i64 L, .int .i64 s, .slice A l.length cap] 26)).alloc (.cells #[.int .i64 L', .int .i64 s', .slice B l'.length cap'] 26))
  have HR' := Lib.hid ((hr'.alloc (.cells #[.int .i64 L, .int .i64 s, .slice A l.length cap] 26)).alloc (.cells #[.int .i64 L', .int .i64 s', .slice B l'.length cap'] 26))
  clear hr hr'
  rcases h1 : (L == L') with _ | _
  · have HN := Lib.hid (show L ≠ L' by simpa using h1)
    go_enter Try.func8, Try.ntmps8
    go_wp2_with fail
    go_ret
    exact ⟨false, rfl, fun h => absurd h.1 HN.out, (by repeat (first | (with_reducible exact Below.refl _ _) | ((with_reducible refine alloc_ ?_ ?_); (focus (first | exact Nat.le_refl _ | (simp; done) | (simp; omega) | omega))) | ((with_reducible refine set_ ?_ ?_); (focus (first | exact Nat.le_refl _ | (simp; done) | (simp; omega) | omega))) | (with_reducible refine Below.drew ?_) | ((with_reducible refine after_ ?_ (by assumption) ?_); (rotate_left; (focus (first | exact Nat.le_refl _ | (simp; done) | (simp; omega) | omega))))))⟩
  rcases h2 : (s == s') with _ | _
  · have HN := Lib.hid (show s ≠ s' by simpa using h2)
    go_enter Try.func8, Try.ntmps8
    go_wp2_with fail
    go_ret
    exact ⟨false, rfl, fun h => absurd h.2.1 HN.out, (by repeat (first | (with_reducible exact Below.refl _ _) | ((with_reducible refine alloc_ ?_ ?_); (focus (first | exact Nat.le_refl _ | (simp; done) | (simp; omega) | omega))) | ((with_reducible refine set_ ?_ ?_); (focus (first | exact Nat.le_refl _ | (simp; done) | (simp; omega) | omega))) | (with_reducible refine Below.drew ?_) | ((with_reducible refine after_ ?_ (by assumption) ?_); (rotate_left; (focus (first | exact Nat.le_refl _ | (simp; done) | (simp; omega) | omega))))))⟩
  go_enter Try.func8, Try.ntmps8
  go_wp2_with fail
  refine (vInts_any l l' _ _ _ _ _ hl hl' HR.out HR'.out).mono ?_
  rintro e w1 ⟨b, rfl, hb, hb1⟩
  have HB := Lib.hid (show Below w.heap.size w w1 from (by repeat (first | (with_reducible exact Below.refl _ _) | ((with_reducible refine alloc_ ?_ ?_); (focus (first | exact Nat.le_refl _ | (simp; done) | (simp; omega) | omega))) | ((with_reducible refine set_ ?_ ?_); (focus (first | exact Nat.le_refl _ | (simp; done) | (simp; omega) | omega))) | (with_reducible refine Below.drew ?_) | ((with_reducible refine after_ ?_ (by assumption) ?_); (rotate_left; (focus (first | exact Nat.le_refl _ | (simp; done) | (simp; omega) | omega)))))))
  have HY := Lib.hid hb
  clear hb hb1
  go_wp2_with fail
  go_ret
  exact ⟨_, rfl, fun h => by have := HY.out h.2.2; simp [this], HB.out⟩
end Go.Proofs.Ytifmeloljkgcjaa
