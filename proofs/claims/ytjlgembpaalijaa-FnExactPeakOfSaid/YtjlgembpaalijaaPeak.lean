/- PeakOf of the program and of the reference return one Lean function; no conditions but the lengths. -/
import Derived.Test.YtjlgembpaalijaaAllIn
import Derived.Test.YtjlgembpaalijaaInts
import Derived.Deep.RegionWith
namespace Go.Proofs.Ytjlgembpaalijaa
open Go.RowKit

def mxTo (l : List Int) : Nat → Int
  | 0 => 0
  | k + 1 => max (mxTo l k) (nth l k)
def enTo (l m : List Int) : Nat → Int
  | 0 => 0
  | k + 1 => enTo l m k + nth l k * nth m k
def peakOk (l m : List Int) : Bool := inR l.length 1 20 && decide (m.length = l.length) && allR l 0 1000000 && allR m 0 1000
def peak (l m : List Int) : Int × Int × Bool := if peakOk l m then (mxTo l l.length, enTo l m l.length, true) else (0, 0, false)
theorem peak_no {l m : List Int} (h : peakOk l m = false) : peak l m = (0, 0, false) := by simp [peak, h]
theorem peak_yes {l m : List Int} (h : peakOk l m = true) : peak l m = (mxTo l l.length, enTo l m l.length, true) := by simp [peak, h]
theorem peakOk_true {l m : List Int} (h : peakOk l m = true) : (1 ≤ l.length ∧ l.length ≤ 20) ∧ m.length = l.length ∧ (∀ i, i < l.length → 0 ≤ nth l i ∧ nth l i ≤ 1000000) ∧ ∀ i, i < l.length → 0 ≤ nth m i ∧ nth m i ≤ 1000 := by
  simp only [peakOk, Bool.and_eq_true, decide_eq_true_eq, allR, allTo_true, inR_true] at h
  obtain ⟨⟨⟨h1, h2⟩, h3⟩, h4⟩ := h
  exact ⟨by omega, h2, h3, by rw [h2] at h4; exact h4⟩
theorem enTo_bd {l m : List Int} {n : Nat} (h1 : ∀ i, i < n → 0 ≤ nth l i ∧ nth l i ≤ 1000000) (h2 : ∀ i, i < n → 0 ≤ nth m i ∧ nth m i ≤ 1000) : ∀ k, k ≤ n → 0 ≤ enTo l m k ∧ enTo l m k ≤ k * 1000000000
  | 0, _ => by simp [enTo]
  | k + 1, hk => by
    have h := enTo_bd h1 h2 k (by omega)
    have a := h1 k (by omega)
    have b := h2 k (by omega)
    have p1 : 0 ≤ nth l k * nth m k := Int.mul_nonneg a.1 b.1
    have p2 : nth l k * nth m k ≤ 1000000 * 1000 := Int.mul_le_mul a.2 b.2 b.1 (by omega)
    simp only [enTo]
    omega
theorem mul_bd2 {x y : Int} (a : 0 ≤ x ∧ x ≤ 1000000) (b : 0 ≤ y ∧ y ≤ 1000) : 0 ≤ x * y ∧ x * y ≤ 1000000000 :=
  ⟨Int.mul_nonneg a.1 b.1, Int.le_trans (Int.mul_le_mul a.2 b.2 b.1 (by omega)) (by omega)⟩
/-- The greatest of the first k + 1, from the first on: as the library has it. -/
def mxLib (l : List Int) : Nat → Int
  | 0 => nth l 0
  | k + 1 => max (mxLib l k) (nth l (k + 1))
theorem mxLib_eq {l : List Int} : ∀ k, 0 ≤ nth l 0 → mxLib l k = mxTo l (k + 1)
  | 0, h => by simp only [mxLib, mxTo]; omega
  | k + 1, h => by rw [mxLib, mxLib_eq k h]; rfl
theorem ret3 {a b a' b' : Int} {c c' : Bool} {p : Int × Int × Bool} (h : p = (a, b, c)) (ha : a' = a) (hb : b' = b) (hc : c' = c) : Ending.returned (.tuple #[.int .i64 a', .int .i64 b', .bool c']) = .returned (.tuple #[.int .i64 p.1, .int .i64 p.2.1, .bool p.2.2]) := by rw [h, ha, hb, hc]

theorem l1Most_c (x y : Int) (w : World) : Calls Try.prog 39 #[.int .i64 x, .int .i64 y] w fun e w' => e = .returned (.int .i64 (max x y)) ∧ w = w' := by
  go_enter Try.func39, Try.ntmps39
  go_wp2
  all_goals (go_ret; exact ⟨reti (by omega), rfl⟩)

theorem Max_c (l : List Int) (A : Option Addr) (cap : Nat) (w : World) (hl : l.length ≤ 1048576) (h1 : 1 ≤ l.length) (hr : Rd w w.heap.size 1 intCells A l) :
    Calls Try.prog 41 #[.slice A l.length cap] w fun e w' => e = .returned (.int .i64 (mxLib l (l.length - 1))) ∧ w = w' := by
  obtain ⟨b, off, rfl, hb, hc⟩ := hr.int (show 0 < l.length by omega)
  have i1 : (1 : Int) ≤ l.length := by omega
  simp only [Nat.add_zero] at hc
  go_enter Try.func41, Try.ntmps41
  go_wp2_with fail
  go_loop [3, 4] (fun m i => ∃ k : Nat, k < l.length ∧ i = .int .i64 ((k + 1 : Nat) : Int) ∧ m = .int .i64 (mxLib l k)) (fun _ i => l.length - (intOf i).toNat)
  case atStart => exact ⟨0, by omega, rfl, rfl⟩
  case round =>
    obtain ⟨k, hk, rfl, rfl⟩ := hrel
    by_cases hlt : k + 1 < l.length
    · obtain ⟨b', off', he, hb', hc'⟩ := hr.int hlt
      simp only [Option.some.injEq, Addr.mk.injEq, and_true] at he
      obtain ⟨rfl, rfl⟩ := he
      go_wp2_with fail
      go_round
      case rel => exact ⟨k + 1, by omega, by go_num, rfl⟩
      case measure => simp [intOf]; omega
    · obtain rfl : k = l.length - 1 := by omega
      go_wp2_with fail
      go_ret
      exact ⟨rfl, rfl⟩

theorem implPeakOf_c (l m : List Int) (A B : Option Addr) (cap cap' : Nat) (w : World) (hl : l.length ≤ 1048576) (hm : m.length ≤ 1048576) (hr : Rd w w.heap.size 1 intCells A l) (hr' : Rd w w.heap.size 1 intCells B m) :
    Calls Try.prog 22 #[.slice A l.length cap, .slice B m.length cap'] w fun e w' => e = .returned (.tuple #[.int .i64 (peak l m).1, .int .i64 (peak l m).2.1, .bool (peak l m).2.2]) ∧ Below w.heap.size w w' := by
  rcases hok : peakOk l m with _ | _
  · have Hr := Lib.hid (peak_no hok)
    have HO := Lib.hid hok
    clear hok
    rcases h1 : inR l.length 1 20 with _ | _
    · go_enter Try.func22, Try.ntmps22
      go_wp2_with (first | (go_at_call 32; refine (within_c _ _ _ _).mono ?_; rintro e w' ⟨rfl, rfl⟩))
      go_ret3
      exact ⟨ret3 Hr.out rfl rfl rfl, (by repeat (first | (with_reducible exact Below.refl _ _) | ((with_reducible refine alloc_ ?_ ?_); (focus (first | exact Nat.le_refl _ | (simp; done) | (simp; omega) | omega))) | ((with_reducible refine set_ ?_ ?_); (focus (first | exact Nat.le_refl _ | (simp; done) | (simp; omega) | omega))) | (with_reducible refine Below.drew ?_) | ((with_reducible refine after_ ?_ (by assumption) ?_); (rotate_left; (focus (first | exact Nat.le_refl _ | (simp; done) | (simp; omega) | omega))))))⟩
    by_cases h2 : m.length = l.length
    · have h2' : ((m.length : Int) != l.length) = false := by simp [h2]
      have H2 := Lib.hid h2
      clear h2
      rcases h3 : allR l 0 1000000 with _ | _
      · go_enter Try.func22, Try.ntmps22
        go_wp2_with (first | (go_at_call 32; refine (within_c _ _ _ _).mono ?_; rintro e w' ⟨rfl, rfl⟩) | (go_at_call 40; refine (allIn_c _ _ _ _ _ _ hl hr).mono ?_; rintro e w' ⟨rfl, rfl⟩))
        go_ret3
        exact ⟨ret3 Hr.out rfl rfl rfl, (by repeat (first | (with_reducible exact Below.refl _ _) | ((with_reducible refine alloc_ ?_ ?_); (focus (first | exact Nat.le_refl _ | (simp; done) | (simp; omega) | omega))) | ((with_reducible refine set_ ?_ ?_); (focus (first | exact Nat.le_refl _ | (simp; done) | (simp; omega) | omega))) | (with_reducible refine Below.drew ?_) | ((with_reducible refine after_ ?_ (by assumption) ?_); (rotate_left; (focus (first | exact Nat.le_refl _ | (simp; done) | (simp; omega) | omega))))))⟩
      · have h4 : allR m 0 1000 = false := by
          have h := HO.out
          simpa [peakOk, h1, h3, H2.out] using h
        go_enter Try.func22, Try.ntmps22
        go_wp2_with (first | (go_at_call 32; refine (within_c _ _ _ _).mono ?_; rintro e w' ⟨rfl, rfl⟩) | ((go_at_call_of 40 (Value.slice A l.length cap)); refine (allIn_c l _ _ _ _ _ hl hr).mono ?_; rintro e w' ⟨rfl, rfl⟩) | ((go_at_call_of 40 (Value.slice B m.length cap')); refine (allIn_c m _ _ _ _ _ hm hr').mono ?_; rintro e w' ⟨rfl, rfl⟩))
        go_ret3
        exact ⟨ret3 Hr.out rfl rfl rfl, (by repeat (first | (with_reducible exact Below.refl _ _) | ((with_reducible refine alloc_ ?_ ?_); (focus (first | exact Nat.le_refl _ | (simp; done) | (simp; omega) | omega))) | ((with_reducible refine set_ ?_ ?_); (focus (first | exact Nat.le_refl _ | (simp; done) | (simp; omega) | omega))) | (with_reducible refine Below.drew ?_) | ((with_reducible refine after_ ?_ (by assumption) ?_); (rotate_left; (focus (first | exact Nat.le_refl _ | (simp; done) | (simp; omega) | omega))))))⟩
    · have h2' : ((m.length : Int) != l.length) = true := by rw [bne_iff_ne]; omega
      go_enter Try.func22, Try.ntmps22
      go_wp2_with (first | (go_at_call 32; refine (within_c _ _ _ _).mono ?_; rintro e w' ⟨rfl, rfl⟩))
      go_ret3
      exact ⟨ret3 Hr.out rfl rfl rfl, (by repeat (first | (with_reducible exact Below.refl _ _) | ((with_reducible refine alloc_ ?_ ?_); (focus (first | exact Nat.le_refl _ | (simp; done) | (simp; omega) | omega))) | ((with_reducible refine set_ ?_ ?_); (focus (first | exact Nat.le_refl _ | (simp; done) | (simp; omega) | omega))) | (with_reducible refine Below.drew ?_) | ((with_reducible refine after_ ?_ (by assumption) ?_); (rotate_left; (focus (first | exact Nat.le_refl _ | (simp; done) | (simp; omega) | omega))))))⟩
  · have Hr := Lib.hid (peak_yes hok)
    have hok' := hok
    simp only [peakOk, Bool.and_eq_true, decide_eq_true_eq] at hok'
    obtain ⟨⟨⟨h1, h2⟩, h3⟩, h4⟩ := hok'
    obtain ⟨⟨q1, q2⟩, _, g1, g2⟩ := peakOk_true hok
    rw [h2]
    have H2 := Lib.hid h2
    have H2' := Lib.hid h2.symm
    have G1 := Lib.hid g1
    have G2 := Lib.hid g2
    have h2' : ((l.length : Int) != l.length) = false := by simp
    clear h2 hok g1 g2
    go_enter Try.func22, Try.ntmps22
    go_wp2_with (first | (go_at_call 32; refine (within_c _ _ _ _).mono ?_; rintro e w' ⟨rfl, rfl⟩) | ((go_at_call_of 40 (Value.slice A l.length cap)); refine (allIn_c l _ _ _ _ _ hl hr).mono ?_; rintro e w' ⟨rfl, rfl⟩) | ((go_at_call_of 40 (Value.slice B l.length cap')); refine (allIn_n m _ H2'.out _ _ _ _ _ hm hr').mono ?_; rintro e w' ⟨rfl, rfl⟩))
    go_loop [7, 8, 9, 33] (fun en _ _ i => ∃ k : Nat, k ≤ l.length ∧ i = .int .i64 k ∧ en = .int .i64 (enTo l m k)) (fun _ _ _ i => l.length - (intOf i).toNat)
    case atStart => exact ⟨0, by omega, rfl, rfl⟩
    case round =>
      obtain ⟨k, hk, rfl, rfl⟩ := hrel
      by_cases hlt : k < l.length
      · obtain ⟨b, off, rfl, hb, hc⟩ := hr.int hlt
        obtain ⟨b', off', rfl, hb', hc'⟩ := hr'.int (show k < m.length by rw [H2.out]; exact hlt)
        have bd := enTo_bd G1.out G2.out k (by omega)
        obtain ⟨e1, e2⟩ := bd
        obtain ⟨e3, e4⟩ := mul_bd2 (G1.out k hlt) (G2.out k hlt)
        have e5 : (k : Int) * 1000000000 ≤ 20000000000 := by omega
        go_wp2_with fail
        go_round
        case rel => exact ⟨k + 1, by omega, by go_num, rfl⟩
        case measure => simp [intOf]; omega
      · obtain rfl : k = l.length := by omega
        go_wp2_with (go_at_call 41; refine (Max_c _ _ _ _ hl (by omega) hr).mono ?_; rintro e w' ⟨rfl, rfl⟩)
        go_ret3
        exact ⟨ret3 Hr.out (by rw [mxLib_eq _ (G1.out 0 (by omega)).1, Nat.sub_add_cancel (by omega)]) rfl rfl, (by repeat (first | (with_reducible exact Below.refl _ _) | ((with_reducible refine alloc_ ?_ ?_); (focus (first | exact Nat.le_refl _ | (simp; done) | (simp; omega) | omega))) | ((with_reducible refine set_ ?_ ?_); (focus (first | exact Nat.le_refl _ | (simp; done) | (simp; omega) | omega))) | (with_reducible refine Below.drew ?_) | ((with_reducible refine after_ ?_ (by assumption) ?_); (rotate_left; (focus (first | exact Nat.le_refl _ | (simp; done) | (simp; omega) | omega))))))⟩
end Go.Proofs.Ytjlgembpaalijaa
