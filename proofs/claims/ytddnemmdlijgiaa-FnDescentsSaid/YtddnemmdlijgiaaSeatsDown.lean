/- SeatsDown of the program and of the reference return one Lean function; no conditions but the length. -/
import Derived.Test.YtddnemmdlijgiaaRides
namespace Go.Proofs.Ytddnemmdlijgiaa
open Go.RowKit

theorem rett2 {p : Int × Bool} {a b : Int} {c d : Bool} (h : p = (b, d)) (h1 : a = b) (h2 : c = d) : Ending.returned (.tuple #[.int .i64 a, .bool c]) = .returned (.tuple #[.int .i64 p.1, .bool p.2]) := by rw [h, h1, h2]
def seatsTo (l : List Rid) (m : Int) : Nat → Int
  | 0 => 0
  | k + 1 => if (nth l k).t = 0 ∧ m ≤ (nth l k).d then seatsTo l m k + (nth l k).s else seatsTo l m k
def seats (l : List Rid) (m : Int) : Int × Bool := if goodR l && inR m 0 1439 then (seatsTo l m l.length, true) else (0, false)
theorem seatsTo_bd {l : List Rid} {m : Int} {n : Nat} (h : ∀ i, i < n → 0 ≤ (nth l i).s ∧ (nth l i).s ≤ 500) : ∀ k, k ≤ n → 0 ≤ seatsTo l m k ∧ seatsTo l m k ≤ k * 500
  | 0, _ => by simp [seatsTo]
  | k + 1, hk => by
    have h1 := seatsTo_bd (m := m) h k (by omega)
    have a := h k (by omega)
    simp only [seatsTo]
    split <;> omega
theorem implSeatsDown_c (l : List Rid) (A : Option Addr) (cap : Nat) (m : Int) (w : World) (hl : l.length ≤ 1048576) (hr : Rd w w.heap.size 5 Rid.cells A l) :
    Calls Try.prog 20 #[.slice A l.length cap, .int .i64 m] w fun e w' => e = .returned (.tuple #[.int .i64 (seats l m).1, .bool (seats l m).2]) ∧ Below w.heap.size w w' := by
  rcases hg : goodR l with _ | _
  · have H := Lib.hid (show seats l m = (0, false) by simp [seats, hg])
    go_enter Try.func20, Try.ntmps20
    go_wp2_with fail
    refine (IsTimetable_c l _ _ _ hl hr).mono ?_
    rintro e w1 ⟨rfl, hb1⟩
    go_wp2_with fail
    go_ret2
    exact ⟨rett2 H.out rfl rfl, hb1⟩
  rcases h1 : inR m 0 1439 with _ | _
  · have H := Lib.hid (show seats l m = (0, false) by simp [seats, h1])
    go_enter Try.func20, Try.ntmps20
    go_wp2_with fail
    refine (IsTimetable_c l _ _ _ hl hr).mono ?_
    rintro e w1 ⟨rfl, hb1⟩
    go_wp2_with (first | (go_at_call 54; refine (isMinute_c _ _).mono ?_; rintro e w' ⟨rfl, rfl⟩) | (go_at_call 57; refine (l15Minute_c _ _).mono ?_; rintro e w' ⟨rfl, rfl⟩))
    go_ret2
    exact ⟨rett2 H.out rfl rfl, hb1⟩
  have H := Lib.hid (show seats l m = (seatsTo l m l.length, true) by simp [seats, hg, h1])
  obtain ⟨g1, g2⟩ := goodR_true hg
  have G2 := Lib.hid (fun i hi => (okR_true.1 (g2 i hi)).2.2.2.2.2 : ∀ i, i < l.length → 0 ≤ (nth l i).s ∧ (nth l i).s ≤ 500)
  clear g2
  go_enter Try.func20, Try.ntmps20
  go_wp2_with fail
  refine (IsTimetable_c l _ _ _ hl hr).mono ?_
  rintro e w1 ⟨rfl, hb1⟩
  have hr1 := hr.carry hb1
  have HB1 := Lib.hid hb1
  clear hb1
  go_wp2_with (first | (go_at_call 54; refine (isMinute_c _ _).mono ?_; rintro e w' ⟨rfl, rfl⟩) | (go_at_call 57; refine (l15Minute_c _ _).mono ?_; rintro e w' ⟨rfl, rfl⟩))
  clear h1 hg
  go_loopw [6, 8, 19] (fun s _ i wr => ∃ k : Nat, k ≤ l.length ∧ i = .int .i64 k ∧ s = .int .i64 (seatsTo l m k) ∧ Below w1.heap.size w1 wr) (fun s _ i _ => l.length - (intOf i).toNat)
  case atStart => exact ⟨0, Nat.zero_le _, rfl, rfl, Below.refl _ _⟩
  case round =>
    obtain ⟨k, hk, rfl, rfl, hbel⟩ := hrel
    have HB := Lib.hid hbel
    by_cases hlt : k < l.length
    · obtain ⟨b, off, rfl, hb1, hcs⟩ := Rid.rd (hr1.below hbel (Nat.le_refl _)) hlt
      have z1 := hbel.size
      obtain ⟨e1, e2⟩ := seatsTo_bd (m := m) G2.out k (by omega)
      obtain ⟨e3, e4⟩ := G2.out k hlt
      have e5 : (k : Int) * 500 ≤ 6000 := by omega
      clear hbel
      by_cases ht : (nth l k).t = 0
      · have ht' : ((nth l k).t == 0) = true := by simp [ht]
        by_cases hd : m ≤ (nth l k).d
        · have HL := Lib.hid (show seatsTo l m (k + 1) = seatsTo l m k + (nth l k).s by simp [seatsTo, ht, hd])
          clear ht
          go_wp2_with fail
          go_roundw
          case rel => exact ⟨k + 1, by omega, by go_num, by rw [HL.out], (HB.out.trans (Below.mono (B := wr.heap.size) (by repeat (first | (with_reducible exact Below.refl _ _) | ((with_reducible refine alloc_ ?_ ?_); (focus (first | exact Nat.le_refl _ | (simp; done) | (simp; omega) | omega))) | ((with_reducible refine set_ ?_ ?_); (focus (first | exact Nat.le_refl _ | (simp; done) | (simp; omega) | omega))) | (with_reducible refine Below.drew ?_) | ((with_reducible refine after_ ?_ (by assumption) ?_); (rotate_left; (focus (first | exact Nat.le_refl _ | (simp; done) | (simp; omega) | omega)))))) z1))⟩
          case measure => simp [intOf]; omega
        · have HL := Lib.hid (show seatsTo l m (k + 1) = seatsTo l m k by simp [seatsTo, hd])
          clear ht
          go_wp2_with fail
          go_roundw
          case rel => exact ⟨k + 1, by omega, by go_num, by rw [HL.out], (HB.out.trans (Below.mono (B := wr.heap.size) (by repeat (first | (with_reducible exact Below.refl _ _) | ((with_reducible refine alloc_ ?_ ?_); (focus (first | exact Nat.le_refl _ | (simp; done) | (simp; omega) | omega))) | ((with_reducible refine set_ ?_ ?_); (focus (first | exact Nat.le_refl _ | (simp; done) | (simp; omega) | omega))) | (with_reducible refine Below.drew ?_) | ((with_reducible refine after_ ?_ (by assumption) ?_); (rotate_left; (focus (first | exact Nat.le_refl _ | (simp; done) | (simp; omega) | omega)))))) z1))⟩
          case measure => simp [intOf]; omega
      · have ht' : ((nth l k).t == 0) = false := by rw [beq_eq_false_iff_ne]; exact ht
        have HL := Lib.hid (show seatsTo l m (k + 1) = seatsTo l m k by simp [seatsTo, ht])
        clear ht
        go_wp2_with fail
        go_roundw
        case rel => exact ⟨k + 1, by omega, by go_num, by rw [HL.out], (HB.out.trans (Below.mono (B := wr.heap.size) (by repeat (first | (with_reducible exact Below.refl _ _) | ((with_reducible refine alloc_ ?_ ?_); (focus (first | exact Nat.le_refl _ | (simp; done) | (simp; omega) | omega))) | ((with_reducible refine set_ ?_ ?_); (focus (first | exact Nat.le_refl _ | (simp; done) | (simp; omega) | omega))) | (with_reducible refine Below.drew ?_) | ((with_reducible refine after_ ?_ (by assumption) ?_); (rotate_left; (focus (first | exact Nat.le_refl _ | (simp; done) | (simp; omega) | omega)))))) z1))⟩
        case measure => simp [intOf]; omega
    · obtain rfl : k = l.length := by omega
      have HE := Lib.hid (HB1.out.trans (HB.out.mono HB1.out.size))
      clear hbel
      go_wp2_with fail
      go_ret2
      exact ⟨rett2 H.out rfl rfl, HE.out⟩
theorem specSeatsDown_c (l : List Rid) (A : Option Addr) (cap : Nat) (m : Int) (w : World) (hl : l.length ≤ 1048576) (hr : Rd w w.heap.size 5 Rid.cells A l) :
    Calls Try.prog 19 #[.slice A l.length cap, .int .i64 m] w fun e w' => e = .returned (.tuple #[.int .i64 (seats l m).1, .bool (seats l m).2]) ∧ Below w.heap.size w w' := by
  rcases hg : goodR l with _ | _
  · have H := Lib.hid (show seats l m = (0, false) by simp [seats, hg])
    go_enter Try.func19, Try.ntmps19
    go_wp2_with fail
    refine (l15Good_c l _ _ _ hl hr).mono ?_
    rintro e w1 ⟨rfl, hb1⟩
    go_wp2_with fail
    go_ret2
    exact ⟨rett2 H.out rfl rfl, hb1⟩
  rcases h1 : inR m 0 1439 with _ | _
  · have H := Lib.hid (show seats l m = (0, false) by simp [seats, h1])
    go_enter Try.func19, Try.ntmps19
    go_wp2_with fail
    refine (l15Good_c l _ _ _ hl hr).mono ?_
    rintro e w1 ⟨rfl, hb1⟩
    go_wp2_with (first | (go_at_call 54; refine (isMinute_c _ _).mono ?_; rintro e w' ⟨rfl, rfl⟩) | (go_at_call 57; refine (l15Minute_c _ _).mono ?_; rintro e w' ⟨rfl, rfl⟩))
    go_ret2
    exact ⟨rett2 H.out rfl rfl, hb1⟩
  have H := Lib.hid (show seats l m = (seatsTo l m l.length, true) by simp [seats, hg, h1])
  obtain ⟨g1, g2⟩ := goodR_true hg
  have G2 := Lib.hid (fun i hi => (okR_true.1 (g2 i hi)).2.2.2.2.2 : ∀ i, i < l.length → 0 ≤ (nth l i).s ∧ (nth l i).s ≤ 500)
  clear g2
  go_enter Try.func19, Try.ntmps19
  go_wp2_with fail
  refine (l15Good_c l _ _ _ hl hr).mono ?_
  rintro e w1 ⟨rfl, hb1⟩
  have hr1 := hr.carry hb1
  have HB1 := Lib.hid hb1
  clear hb1
  go_wp2_with (first | (go_at_call 54; refine (isMinute_c _ _).mono ?_; rintro e w' ⟨rfl, rfl⟩) | (go_at_call 57; refine (l15Minute_c _ _).mono ?_; rintro e w' ⟨rfl, rfl⟩))
  clear h1 hg
  go_loopw [6, 7] (fun s i wr => ∃ k : Nat, k ≤ l.length ∧ i = .int .i64 k ∧ s = .int .i64 (seatsTo l m k) ∧ Below w1.heap.size w1 wr) (fun s i _ => l.length - (intOf i).toNat)
  case atStart => exact ⟨0, Nat.zero_le _, rfl, rfl, Below.refl _ _⟩
  case round =>
    obtain ⟨k, hk, rfl, rfl, hbel⟩ := hrel
    have HB := Lib.hid hbel
    by_cases hlt : k < l.length
    · obtain ⟨b, off, rfl, hb1, hcs⟩ := Rid.rd (hr1.below hbel (Nat.le_refl _)) hlt
      have z1 := hbel.size
      obtain ⟨e1, e2⟩ := seatsTo_bd (m := m) G2.out k (by omega)
      obtain ⟨e3, e4⟩ := G2.out k hlt
      have e5 : (k : Int) * 500 ≤ 6000 := by omega
      clear hbel
      by_cases ht : (nth l k).t = 0
      · have ht' : ((nth l k).t == 0) = true := by simp [ht]
        by_cases hd : m ≤ (nth l k).d
        · have HL := Lib.hid (show seatsTo l m (k + 1) = seatsTo l m k + (nth l k).s by simp [seatsTo, ht, hd])
          clear ht
          go_wp2_with fail
          go_roundw
          case rel => exact ⟨k + 1, by omega, by go_num, by rw [HL.out], (HB.out.trans (Below.mono (B := wr.heap.size) (by repeat (first | (with_reducible exact Below.refl _ _) | ((with_reducible refine alloc_ ?_ ?_); (focus (first | exact Nat.le_refl _ | (simp; done) | (simp; omega) | omega))) | ((with_reducible refine set_ ?_ ?_); (focus (first | exact Nat.le_refl _ | (simp; done) | (simp; omega) | omega))) | (with_reducible refine Below.drew ?_) | ((with_reducible refine after_ ?_ (by assumption) ?_); (rotate_left; (focus (first | exact Nat.le_refl _ | (simp; done) | (simp; omega) | omega)))))) z1))⟩
          case measure => simp [intOf]; omega
        · have HL := Lib.hid (show seatsTo l m (k + 1) = seatsTo l m k by simp [seatsTo, hd])
          clear ht
          go_wp2_with fail
          go_roundw
          case rel => exact ⟨k + 1, by omega, by go_num, by rw [HL.out], (HB.out.trans (Below.mono (B := wr.heap.size) (by repeat (first | (with_reducible exact Below.refl _ _) | ((with_reducible refine alloc_ ?_ ?_); (focus (first | exact Nat.le_refl _ | (simp; done) | (simp; omega) | omega))) | ((with_reducible refine set_ ?_ ?_); (focus (first | exact Nat.le_refl _ | (simp; done) | (simp; omega) | omega))) | (with_reducible refine Below.drew ?_) | ((with_reducible refine after_ ?_ (by assumption) ?_); (rotate_left; (focus (first | exact Nat.le_refl _ | (simp; done) | (simp; omega) | omega)))))) z1))⟩
          case measure => simp [intOf]; omega
      · have ht' : ((nth l k).t == 0) = false := by rw [beq_eq_false_iff_ne]; exact ht
        have HL := Lib.hid (show seatsTo l m (k + 1) = seatsTo l m k by simp [seatsTo, ht])
        clear ht
        go_wp2_with fail
        go_roundw
        case rel => exact ⟨k + 1, by omega, by go_num, by rw [HL.out], (HB.out.trans (Below.mono (B := wr.heap.size) (by repeat (first | (with_reducible exact Below.refl _ _) | ((with_reducible refine alloc_ ?_ ?_); (focus (first | exact Nat.le_refl _ | (simp; done) | (simp; omega) | omega))) | ((with_reducible refine set_ ?_ ?_); (focus (first | exact Nat.le_refl _ | (simp; done) | (simp; omega) | omega))) | (with_reducible refine Below.drew ?_) | ((with_reducible refine after_ ?_ (by assumption) ?_); (rotate_left; (focus (first | exact Nat.le_refl _ | (simp; done) | (simp; omega) | omega)))))) z1))⟩
        case measure => simp [intOf]; omega
    · obtain rfl : k = l.length := by omega
      have HE := Lib.hid (HB1.out.trans (HB.out.mono HB1.out.size))
      clear hbel
      go_wp2_with fail
      go_ret2
      exact ⟨rett2 H.out rfl rfl, HE.out⟩
end Go.Proofs.Ytddnemmdlijgiaa
