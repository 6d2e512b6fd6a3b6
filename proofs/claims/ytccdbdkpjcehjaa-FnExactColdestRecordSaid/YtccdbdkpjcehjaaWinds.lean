/- StrongestWind of the program and of the reference return one Lean function; no conditions but the length. -/
import Derived.Test.YtccdbdkpjcehjaaRecords
namespace Go.Proofs.Ytccdbdkpjcehjaa
open Go.RowKit

theorem rett2 {p : Int × Bool} {a b : Int} {c d : Bool} (h : p = (b, d)) (h1 : a = b) (h2 : c = d) : Ending.returned (.tuple #[.int .i64 a, .bool c]) = .returned (.tuple #[.int .i64 p.1, .bool p.2]) := by rw [h, h1, h2]
def strongTo (l : List Wea) (f t : Int) : Nat → Int
  | 0 => -1
  | k + 1 => if inR (nth l k).m f t then max (strongTo l f t k) (nth l k).wi else strongTo l f t k
def okS (l : List Wea) (f t : Int) : Bool := goodW l && inR t 0 9999 && inR f 0 t
def strong (l : List Wea) (f t : Int) : Int × Bool := if okS l f t then (max (strongTo l f t l.length) 0, decide (0 ≤ strongTo l f t l.length)) else (0, false)
theorem strongTo_bd {l : List Wea} {f t : Int} {n : Nat} (h : ∀ i, i < n → 0 ≤ (nth l i).wi ∧ (nth l i).wi ≤ 600) : ∀ k, k ≤ n → -1 ≤ strongTo l f t k ∧ strongTo l f t k ≤ 600
  | 0, _ => by simp [strongTo]
  | k + 1, hk => by
    have h1 := strongTo_bd (f := f) (t := t) h k (by omega)
    have a := h k (by omega)
    simp only [strongTo]
    split <;> omega
theorem l1Most_c (x y : Int) (w : World) : Calls Try.prog 41 #[.int .i64 x, .int .i64 y] w fun e w' => e = .returned (.int .i64 (max x y)) ∧ w = w' := by
  go_enter Try.func41, Try.ntmps41
  go_wp2
  all_goals (go_ret; exact ⟨reti (by omega), rfl⟩)

theorem implStrongestWind_c (l : List Wea) (A : Option Addr) (cap : Nat) (f t : Int) (w : World) (hl : l.length ≤ 1048576) (hr : Rd w w.heap.size 5 Wea.cells A l) :
    Calls Try.prog 24 #[.slice A l.length cap, .int .i64 f, .int .i64 t] w fun e w' => e = .returned (.tuple #[.int .i64 (strong l f t).1, .bool (strong l f t).2]) ∧ Below w.heap.size w w' := by
  rcases hg : goodW l with _ | _
  · have H := Lib.hid (show strong l f t = (0, false) by simp [strong, okS, hg])
    go_enter Try.func24, Try.ntmps24
    go_wp2_with fail
    refine (AreRecords_c l _ _ _ hl hr).mono ?_
    rintro e w1 ⟨rfl, hb1⟩
    go_wp2_with fail
    go_ret2
    exact ⟨rett2 H.out rfl rfl, hb1⟩
  by_cases hok : (0 ≤ f ∧ f ≤ t) ∧ t ≤ 9999
  case neg =>
    have H := Lib.hid (show strong l f t = (0, false) by
      have : (inR t 0 9999 && inR f 0 t) = false := by
        rcases h : (inR t 0 9999 && inR f 0 t) with _ | _
        · rfl
        · simp only [Bool.and_eq_true, inR_true] at h; omega
      simp [strong, okS, Bool.and_assoc, this])
    rcases h1 : inR f 0 t with _ | _
    · rcases h2 : inR t 0 9999 with _ | _
      · go_enter Try.func24, Try.ntmps24
        go_wp2_with fail
        refine (AreRecords_c l _ _ _ hl hr).mono ?_
        rintro e w1 ⟨rfl, hb1⟩
        go_wp2_with (first | (go_at_call 37; refine (within_c _ _ _ _).mono ?_; rintro e w' ⟨rfl, rfl⟩) | (go_at_call 40; refine (l1In_c _ _ _ _).mono ?_; rintro e w' ⟨rfl, rfl⟩) | (go_at_call 39; refine (l17Minute_c _ _).mono ?_; rintro e w' ⟨rfl, rfl⟩))
        go_ret2
        exact ⟨rett2 H.out rfl rfl, hb1⟩
      · go_enter Try.func24, Try.ntmps24
        go_wp2_with fail
        refine (AreRecords_c l _ _ _ hl hr).mono ?_
        rintro e w1 ⟨rfl, hb1⟩
        go_wp2_with (first | (go_at_call 37; refine (within_c _ _ _ _).mono ?_; rintro e w' ⟨rfl, rfl⟩) | (go_at_call 40; refine (l1In_c _ _ _ _).mono ?_; rintro e w' ⟨rfl, rfl⟩) | (go_at_call 39; refine (l17Minute_c _ _).mono ?_; rintro e w' ⟨rfl, rfl⟩))
        go_ret2
        exact ⟨rett2 H.out rfl rfl, hb1⟩
    · have h3 : 9999 < t := by have := inR_true.1 h1; omega
      have h2 : inR t 0 9999 = false := inR_false.2 (by omega)
      clear hok
      go_enter Try.func24, Try.ntmps24
      go_wp2_with fail
      refine (AreRecords_c l _ _ _ hl hr).mono ?_
      rintro e w1 ⟨rfl, hb1⟩
      go_wp2_with (first | (go_at_call 37; refine (within_c _ _ _ _).mono ?_; rintro e w' ⟨rfl, rfl⟩) | (go_at_call 40; refine (l1In_c _ _ _ _).mono ?_; rintro e w' ⟨rfl, rfl⟩) | (go_at_call 39; refine (l17Minute_c _ _).mono ?_; rintro e w' ⟨rfl, rfl⟩))
      go_ret2
      exact ⟨rett2 H.out rfl rfl, hb1⟩
  obtain ⟨⟨q1, q2⟩, q3⟩ := hok
  have h1 : inR f 0 t = true := inR_true.2 ⟨q1, q2⟩
  have h2 : inR t 0 9999 = true := inR_true.2 ⟨by omega, q3⟩
  have H := Lib.hid (show strong l f t = (max (strongTo l f t l.length) 0, decide (0 ≤ strongTo l f t l.length)) by simp [strong, okS, hg, h1, h2])
  obtain ⟨g1, g2⟩ := goodW_true hg
  have G2 := Lib.hid g2
  clear g2
  go_enter Try.func24, Try.ntmps24
  go_wp2_with fail
  refine (AreRecords_c l _ _ _ hl hr).mono ?_
  rintro e w1 ⟨rfl, hb1⟩
  have hr1 := hr.carry hb1
  have HB1 := Lib.hid hb1
  clear hb1
  go_wp2_with (first | (go_at_call 37; refine (within_c _ _ _ _).mono ?_; rintro e w' ⟨rfl, rfl⟩) | (go_at_call 40; refine (l1In_c _ _ _ _).mono ?_; rintro e w' ⟨rfl, rfl⟩) | (go_at_call 39; refine (l17Minute_c _ _).mono ?_; rintro e w' ⟨rfl, rfl⟩))
  clear h1 h2 hg
  go_loopw [8, 10, 26] (fun s _ i wr => ∃ k : Nat, k ≤ l.length ∧ i = .int .i64 k ∧ s = .int .i64 (strongTo l f t k) ∧ Below w1.heap.size w1 wr) (fun s _ i _ => l.length - (intOf i).toNat)
  case atStart => exact ⟨0, Nat.zero_le _, rfl, rfl, Below.refl _ _⟩
  case round =>
    obtain ⟨k, hk, rfl, rfl, hbel⟩ := hrel
    have HB := Lib.hid hbel
    by_cases hlt : k < l.length
    · obtain ⟨b, off, rfl, hb1, hcs⟩ := Wea.rd (hr1.below hbel (Nat.le_refl _)) hlt
      have z1 := hbel.size
      clear hbel
      rcases hq : inR (nth l k).m f t with _ | _
      · have HL := Lib.hid (show strongTo l f t (k + 1) = strongTo l f t k by simp [strongTo, hq])
        go_wp2_with (first | (go_at_call 37; refine (within_c _ _ _ _).mono ?_; rintro e w' ⟨rfl, rfl⟩) | (go_at_call 40; refine (l1In_c _ _ _ _).mono ?_; rintro e w' ⟨rfl, rfl⟩))
        go_roundw
        case rel => exact ⟨k + 1, by omega, by go_num, by rw [HL.out], (HB.out.trans (Below.mono (B := wr.heap.size) (by repeat (first | (with_reducible exact Below.refl _ _) | ((with_reducible refine alloc_ ?_ ?_); (focus (first | exact Nat.le_refl _ | (simp; done) | (simp; omega) | omega))) | ((with_reducible refine set_ ?_ ?_); (focus (first | exact Nat.le_refl _ | (simp; done) | (simp; omega) | omega))) | (with_reducible refine Below.drew ?_) | ((with_reducible refine after_ ?_ (by assumption) ?_); (rotate_left; (focus (first | exact Nat.le_refl _ | (simp; done) | (simp; omega) | omega)))))) z1))⟩
        case measure => simp [intOf]; omega
      · have HL := Lib.hid (show strongTo l f t (k + 1) = max (strongTo l f t k) (nth l k).wi by simp [strongTo, hq])
        go_wp2_with (first | (go_at_call 37; refine (within_c _ _ _ _).mono ?_; rintro e w' ⟨rfl, rfl⟩) | (go_at_call 40; refine (l1In_c _ _ _ _).mono ?_; rintro e w' ⟨rfl, rfl⟩) | (go_at_call 41; refine (l1Most_c _ _ _).mono ?_; rintro e w' ⟨rfl, rfl⟩))
        go_roundw
        case rel => exact ⟨k + 1, by omega, by go_num, by rw [HL.out], (HB.out.trans (Below.mono (B := wr.heap.size) (by repeat (first | (with_reducible exact Below.refl _ _) | ((with_reducible refine alloc_ ?_ ?_); (focus (first | exact Nat.le_refl _ | (simp; done) | (simp; omega) | omega))) | ((with_reducible refine set_ ?_ ?_); (focus (first | exact Nat.le_refl _ | (simp; done) | (simp; omega) | omega))) | (with_reducible refine Below.drew ?_) | ((with_reducible refine after_ ?_ (by assumption) ?_); (rotate_left; (focus (first | exact Nat.le_refl _ | (simp; done) | (simp; omega) | omega)))))) z1))⟩
        case measure => simp [intOf]; omega
    · obtain rfl : k = l.length := by omega
      have bd := strongTo_bd (f := f) (t := t) (fun i hi => (G2.out i hi).2.1) l.length (Nat.le_refl _)
      obtain ⟨b1, b2⟩ := bd
      have HE := Lib.hid (HB1.out.trans (HB.out.mono HB1.out.size))
      clear hbel
      (go_wp2_with fail; go_ret2; exact ⟨rett2 H.out rfl rfl, HE.out⟩)
theorem specStrongestWind_c (l : List Wea) (A : Option Addr) (cap : Nat) (f t : Int) (w : World) (hl : l.length ≤ 1048576) (hr : Rd w w.heap.size 5 Wea.cells A l) :
    Calls Try.prog 23 #[.slice A l.length cap, .int .i64 f, .int .i64 t] w fun e w' => e = .returned (.tuple #[.int .i64 (strong l f t).1, .bool (strong l f t).2]) ∧ Below w.heap.size w w' := by
  rcases hg : goodW l with _ | _
  · have H := Lib.hid (show strong l f t = (0, false) by simp [strong, okS, hg])
    go_enter Try.func23, Try.ntmps23
    go_wp2_with fail
    refine (l17Good_c l _ _ _ hl hr).mono ?_
    rintro e w1 ⟨rfl, hb1⟩
    go_wp2_with fail
    go_ret2
    exact ⟨rett2 H.out rfl rfl, hb1⟩
  by_cases hok : (0 ≤ f ∧ f ≤ t) ∧ t ≤ 9999
  case neg =>
    have H := Lib.hid (show strong l f t = (0, false) by
      have : (inR t 0 9999 && inR f 0 t) = false := by
        rcases h : (inR t 0 9999 && inR f 0 t) with _ | _
        · rfl
        · simp only [Bool.and_eq_true, inR_true] at h; omega
      simp [strong, okS, Bool.and_assoc, this])
    rcases h1 : inR f 0 t with _ | _
    · rcases h2 : inR t 0 9999 with _ | _
      · go_enter Try.func23, Try.ntmps23
        go_wp2_with fail
        refine (l17Good_c l _ _ _ hl hr).mono ?_
        rintro e w1 ⟨rfl, hb1⟩
        go_wp2_with (first | (go_at_call 37; refine (within_c _ _ _ _).mono ?_; rintro e w' ⟨rfl, rfl⟩) | (go_at_call 40; refine (l1In_c _ _ _ _).mono ?_; rintro e w' ⟨rfl, rfl⟩) | (go_at_call 39; refine (l17Minute_c _ _).mono ?_; rintro e w' ⟨rfl, rfl⟩))
        go_ret2
        exact ⟨rett2 H.out rfl rfl, hb1⟩
      · go_enter Try.func23, Try.ntmps23
        go_wp2_with fail
        refine (l17Good_c l _ _ _ hl hr).mono ?_
        rintro e w1 ⟨rfl, hb1⟩
        go_wp2_with (first | (go_at_call 37; refine (within_c _ _ _ _).mono ?_; rintro e w' ⟨rfl, rfl⟩) | (go_at_call 40; refine (l1In_c _ _ _ _).mono ?_; rintro e w' ⟨rfl, rfl⟩) | (go_at_call 39; refine (l17Minute_c _ _).mono ?_; rintro e w' ⟨rfl, rfl⟩))
        go_ret2
        exact ⟨rett2 H.out rfl rfl, hb1⟩
    · have h3 : 9999 < t := by have := inR_true.1 h1; omega
      have h2 : inR t 0 9999 = false := inR_false.2 (by omega)
      clear hok
      go_enter Try.func23, Try.ntmps23
      go_wp2_with fail
      refine (l17Good_c l _ _ _ hl hr).mono ?_
      rintro e w1 ⟨rfl, hb1⟩
      go_wp2_with (first | (go_at_call 37; refine (within_c _ _ _ _).mono ?_; rintro e w' ⟨rfl, rfl⟩) | (go_at_call 40; refine (l1In_c _ _ _ _).mono ?_; rintro e w' ⟨rfl, rfl⟩) | (go_at_call 39; refine (l17Minute_c _ _).mono ?_; rintro e w' ⟨rfl, rfl⟩))
      go_ret2
      exact ⟨rett2 H.out rfl rfl, hb1⟩
  obtain ⟨⟨q1, q2⟩, q3⟩ := hok
  have h1 : inR f 0 t = true := inR_true.2 ⟨q1, q2⟩
  have h2 : inR t 0 9999 = true := inR_true.2 ⟨by omega, q3⟩
  have H := Lib.hid (show strong l f t = (max (strongTo l f t l.length) 0, decide (0 ≤ strongTo l f t l.length)) by simp [strong, okS, hg, h1, h2])
  obtain ⟨g1, g2⟩ := goodW_true hg
  have G2 := Lib.hid g2
  clear g2
  go_enter Try.func23, Try.ntmps23
  go_wp2_with fail
  refine (l17Good_c l _ _ _ hl hr).mono ?_
  rintro e w1 ⟨rfl, hb1⟩
  have hr1 := hr.carry hb1
  have HB1 := Lib.hid hb1
  clear hb1
  go_wp2_with (first | (go_at_call 37; refine (within_c _ _ _ _).mono ?_; rintro e w' ⟨rfl, rfl⟩) | (go_at_call 40; refine (l1In_c _ _ _ _).mono ?_; rintro e w' ⟨rfl, rfl⟩) | (go_at_call 39; refine (l17Minute_c _ _).mono ?_; rintro e w' ⟨rfl, rfl⟩))
  clear h1 h2 hg
  go_loopw [8, 9] (fun s i wr => ∃ k : Nat, k ≤ l.length ∧ i = .int .i64 k ∧ s = .int .i64 (strongTo l f t k) ∧ Below w1.heap.size w1 wr) (fun s i _ => l.length - (intOf i).toNat)
  case atStart => exact ⟨0, Nat.zero_le _, rfl, rfl, Below.refl _ _⟩
  case round =>
    obtain ⟨k, hk, rfl, rfl, hbel⟩ := hrel
    have HB := Lib.hid hbel
    by_cases hlt : k < l.length
    · obtain ⟨b, off, rfl, hb1, hcs⟩ := Wea.rd (hr1.below hbel (Nat.le_refl _)) hlt
      have z1 := hbel.size
      clear hbel
      rcases hq : inR (nth l k).m f t with _ | _
      · have HL := Lib.hid (show strongTo l f t (k + 1) = strongTo l f t k by simp [strongTo, hq])
        go_wp2_with (first | (go_at_call 37; refine (within_c _ _ _ _).mono ?_; rintro e w' ⟨rfl, rfl⟩) | (go_at_call 40; refine (l1In_c _ _ _ _).mono ?_; rintro e w' ⟨rfl, rfl⟩))
        go_roundw
        case rel => exact ⟨k + 1, by omega, by go_num, by rw [HL.out], (HB.out.trans (Below.mono (B := wr.heap.size) (by repeat (first | (with_reducible exact Below.refl _ _) | ((with_reducible refine alloc_ ?_ ?_); (focus (first | exact Nat.le_refl _ | (simp; done) | (simp; omega) | omega))) | ((with_reducible refine set_ ?_ ?_); (focus (first | exact Nat.le_refl _ | (simp; done) | (simp; omega) | omega))) | (with_reducible refine Below.drew ?_) | ((with_reducible refine after_ ?_ (by assumption) ?_); (rotate_left; (focus (first | exact Nat.le_refl _ | (simp; done) | (simp; omega) | omega)))))) z1))⟩
        case measure => simp [intOf]; omega
      · have HL := Lib.hid (show strongTo l f t (k + 1) = max (strongTo l f t k) (nth l k).wi by simp [strongTo, hq])
        go_wp2_with (first | (go_at_call 37; refine (within_c _ _ _ _).mono ?_; rintro e w' ⟨rfl, rfl⟩) | (go_at_call 40; refine (l1In_c _ _ _ _).mono ?_; rintro e w' ⟨rfl, rfl⟩) | (go_at_call 41; refine (l1Most_c _ _ _).mono ?_; rintro e w' ⟨rfl, rfl⟩))
        go_roundw
        case rel => exact ⟨k + 1, by omega, by go_num, by rw [HL.out], (HB.out.trans (Below.mono (B := wr.heap.size) (by repeat (first | (with_reducible exact Below.refl _ _) | ((with_reducible refine alloc_ ?_ ?_); (focus (first | exact Nat.le_refl _ | (simp; done) | (simp; omega) | omega))) | ((with_reducible refine set_ ?_ ?_); (focus (first | exact Nat.le_refl _ | (simp; done) | (simp; omega) | omega))) | (with_reducible refine Below.drew ?_) | ((with_reducible refine after_ ?_ (by assumption) ?_); (rotate_left; (focus (first | exact Nat.le_refl _ | (simp; done) | (simp; omega) | omega)))))) z1))⟩
        case measure => simp [intOf]; omega
    · obtain rfl : k = l.length := by omega
      have bd := strongTo_bd (f := f) (t := t) (fun i hi => (G2.out i hi).2.1) l.length (Nat.le_refl _)
      obtain ⟨b1, b2⟩ := bd
      have HE := Lib.hid (HB1.out.trans (HB.out.mono HB1.out.size))
      clear hbel
      (by_cases hn : strongTo l f t l.length < 0 <;> (go_wp2_with fail; go_ret2; exact ⟨rett2 H.out (by omega) (by simp; omega), HE.out⟩))
end Go.Proofs.Ytccdbdkpjcehjaa
