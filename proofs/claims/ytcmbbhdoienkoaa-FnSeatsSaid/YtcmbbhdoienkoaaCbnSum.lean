/- SeatsOnLine, CabinsIn, NextOut and CabinLoad of the program and of the reference return one Lean function each; no conditions but the length. -/
import Derived.Test.YtcmbbhdoienkoaaCbnWays
import Derived.Test.YtcmbbhdoienkoaaOwn
import Derived.Test.YtcmbbhdoienkoaaPush
import Derived.Test.YtcmbbhdoienkoaaInts
namespace Go.Proofs.Ytcmbbhdoienkoaa
open Go.RowKit

theorem rett2 {p : Int × Bool} {a b : Int} {c d : Bool} (h : p = (b, d)) (h1 : a = b) (h2 : c = d) : Ending.returned (.tuple #[.int .i64 a, .bool c]) = .returned (.tuple #[.int .i64 p.1, .bool p.2]) := by rw [h, h1, h2]
def ListPost (p : List Int × Bool) (w : World) (e : Ending) (w' : World) : Prop := ∃ A cap, e = .returned (.tuple #[.slice A p.1.length cap, .bool p.2]) ∧ Own w' w.heap.size 3 1 intCells A p.1 ∧ Below w.heap.size w w'
theorem implSeatsOnLine_c (l : List Cbn) (A : Option Addr) (cap : Nat) (w : World) (hl : l.length ≤ 1048576) (hr : Rd w w.heap.size 5 Cbn.cells A l) :
    Calls Try.prog 15 #[.slice A l.length cap] w fun e w' => e = .returned (.tuple #[.int .i64 (seatsOn l).1, .bool (seatsOn l).2]) ∧ Below w.heap.size w w' := by
  rcases hg : goodC l with _ | _
  · have H := Lib.hid (show seatsOn l = (0, false) by simp [seatsOn, hg])
    go_enter Try.func15, Try.ntmps15
    go_wp2_with fail
    refine (AreCabins_c l _ _ _ hl hr).mono ?_
    rintro e w1 ⟨rfl, hb1⟩
    go_wp2_with fail
    go_ret2
    exact ⟨rett2 H.out rfl rfl, hb1⟩
  have H := Lib.hid (show seatsOn l = (onTo l l.length, true) by simp [seatsOn, hg])
  obtain ⟨g1, g2, _⟩ := goodC_true hg
  have G2 := Lib.hid g2
  clear g2
  go_enter Try.func15, Try.ntmps15
  go_wp2_with fail
  refine (AreCabins_c l _ _ _ hl hr).mono ?_
  rintro e w1 ⟨rfl, hb1⟩
  have hr1 := hr.carry hb1
  have HB1 := Lib.hid hb1
  clear hb1
  go_wp2_with fail
  clear hg
  go_loopw [4, 6, 12] (fun s _ i wr => ∃ k : Nat, k ≤ l.length ∧ i = .int .i64 k ∧ s = .int .i64 (onTo l k) ∧ Below w1.heap.size w1 wr) (fun s _ i _ => l.length - (intOf i).toNat)
  case atStart => exact ⟨0, Nat.zero_le _, rfl, rfl, Below.refl _ _⟩
  case round =>
    obtain ⟨k, hk, rfl, rfl, hbel⟩ := hrel
    have HB := Lib.hid hbel
    by_cases hlt : k < l.length
    · obtain ⟨b, off, rfl, hb1, hcs⟩ := Cbn.rd (hr1.below hbel (Nat.le_refl _)) hlt
      have z1 := hbel.size
      obtain ⟨e1, e2⟩ := onTo_bd G2.out k (by omega)
      obtain ⟨e3, e4⟩ := (okC_true.1 (G2.out k hlt)).2.1
      clear hbel
      by_cases ht : (nth l k).t = 1
      · have ht' : ((nth l k).t == 1) = true := by simp [ht]
        have HL := Lib.hid (show onTo l (k + 1) = onTo l k + (nth l k).s by simp [onTo, ht])
        clear ht
        go_wp2_with fail
        go_roundw
        case rel => exact ⟨k + 1, by omega, by go_num, by rw [HL.out], (HB.out.trans (Below.mono (B := wr.heap.size) (by repeat (first | (with_reducible exact Below.refl _ _) | ((with_reducible refine alloc_ ?_ ?_); (focus (first | exact Nat.le_refl _ | (simp; done) | (simp; omega) | omega))) | ((with_reducible refine set_ ?_ ?_); (focus (first | exact Nat.le_refl _ | (simp; done) | (simp; omega) | omega))) | (with_reducible refine Below.drew ?_) | ((with_reducible refine after_ ?_ (by assumption) ?_); (rotate_left; (focus (first | exact Nat.le_refl _ | (simp; done) | (simp; omega) | omega)))))) z1))⟩
        case measure => simp [intOf]; omega
      · have ht' : ((nth l k).t == 1) = false := by rw [beq_eq_false_iff_ne]; exact ht
        have HL := Lib.hid (show onTo l (k + 1) = onTo l k by simp [onTo, ht])
        clear ht
        go_wp2_with fail
        go_roundw
        case rel => exact ⟨k + 1, by omega, by go_num, by rw [HL.out], (HB.out.trans (Below.mono (B := wr.heap.size) (by repeat (first | (with_reducible exact Below.refl _ _) | ((with_reducible refine alloc_ ?_ ?_); (focus (first | exact Nat.le_refl _ | (simp; done) | (simp; omega) | omega))) | ((with_reducible refine set_ ?_ ?_); (focus (first | exact Nat.le_refl _ | (simp; done) | (simp; omega) | omega))) | (with_reducible refine Below.drew ?_) | ((with_reducible refine after_ ?_ (by assumption) ?_); (rotate_left; (focus (first | exact Nat.le_refl _ | (simp; done) | (simp; omega) | omega)))))) z1))⟩
        case measure => simp [intOf]; omega
    · obtain rfl : k = l.length := by omega
      have HE := Lib.hid (HB1.out.trans (HB.out.mono HB1.out.size))
      clear hbel
      go_wp2_with fail
      go_ret2
      exact ⟨rett2 H.out rfl rfl, HE.out⟩
theorem specSeatsOnLine_c (l : List Cbn) (A : Option Addr) (cap : Nat) (w : World) (hl : l.length ≤ 1048576) (hr : Rd w w.heap.size 5 Cbn.cells A l) :
    Calls Try.prog 23 #[.slice A l.length cap] w fun e w' => e = .returned (.tuple #[.int .i64 (seatsOn l).1, .bool (seatsOn l).2]) ∧ Below w.heap.size w w' := by
  rcases hg : goodC l with _ | _
  · have H := Lib.hid (show seatsOn l = (0, false) by simp [seatsOn, hg])
    go_enter Try.func23, Try.ntmps23
    go_wp2_with fail
    refine (l5Good_c l _ _ _ hl hr).mono ?_
    rintro e w1 ⟨rfl, hb1⟩
    go_wp2_with fail
    go_ret2
    exact ⟨rett2 H.out rfl rfl, hb1⟩
  have H := Lib.hid (show seatsOn l = (onTo l l.length, true) by simp [seatsOn, hg])
  obtain ⟨g1, g2, _⟩ := goodC_true hg
  have G2 := Lib.hid g2
  clear g2
  go_enter Try.func23, Try.ntmps23
  go_wp2_with fail
  refine (l5Good_c l _ _ _ hl hr).mono ?_
  rintro e w1 ⟨rfl, hb1⟩
  have hr1 := hr.carry hb1
  have HB1 := Lib.hid hb1
  clear hb1
  go_wp2_with fail
  clear hg
  go_loopw [4, 5] (fun s i wr => ∃ k : Nat, k ≤ l.length ∧ i = .int .i64 k ∧ s = .int .i64 (onTo l k) ∧ Below w1.heap.size w1 wr) (fun s i _ => l.length - (intOf i).toNat)
  case atStart => exact ⟨0, Nat.zero_le _, rfl, rfl, Below.refl _ _⟩
  case round =>
    obtain ⟨k, hk, rfl, rfl, hbel⟩ := hrel
    have HB := Lib.hid hbel
    by_cases hlt : k < l.length
    · obtain ⟨b, off, rfl, hb1, hcs⟩ := Cbn.rd (hr1.below hbel (Nat.le_refl _)) hlt
      have z1 := hbel.size
      obtain ⟨e1, e2⟩ := onTo_bd G2.out k (by omega)
      obtain ⟨e3, e4⟩ := (okC_true.1 (G2.out k hlt)).2.1
      clear hbel
      by_cases ht : (nth l k).t = 1
      · have ht' : ((nth l k).t == 1) = true := by simp [ht]
        have HL := Lib.hid (show onTo l (k + 1) = onTo l k + (nth l k).s by simp [onTo, ht])
        clear ht
        go_wp2_with fail
        go_roundw
        case rel => exact ⟨k + 1, by omega, by go_num, by rw [HL.out], (HB.out.trans (Below.mono (B := wr.heap.size) (by repeat (first | (with_reducible exact Below.refl _ _) | ((with_reducible refine alloc_ ?_ ?_); (focus (first | exact Nat.le_refl _ | (simp; done) | (simp; omega) | omega))) | ((with_reducible refine set_ ?_ ?_); (focus (first | exact Nat.le_refl _ | (simp; done) | (simp; omega) | omega))) | (with_reducible refine Below.drew ?_) | ((with_reducible refine after_ ?_ (by assumption) ?_); (rotate_left; (focus (first | exact Nat.le_refl _ | (simp; done) | (simp; omega) | omega)))))) z1))⟩
        case measure => simp [intOf]; omega
      · have ht' : ((nth l k).t == 1) = false := by rw [beq_eq_false_iff_ne]; exact ht
        have HL := Lib.hid (show onTo l (k + 1) = onTo l k by simp [onTo, ht])
        clear ht
        go_wp2_with fail
        go_roundw
        case rel => exact ⟨k + 1, by omega, by go_num, by rw [HL.out], (HB.out.trans (Below.mono (B := wr.heap.size) (by repeat (first | (with_reducible exact Below.refl _ _) | ((with_reducible refine alloc_ ?_ ?_); (focus (first | exact Nat.le_refl _ | (simp; done) | (simp; omega) | omega))) | ((with_reducible refine set_ ?_ ?_); (focus (first | exact Nat.le_refl _ | (simp; done) | (simp; omega) | omega))) | (with_reducible refine Below.drew ?_) | ((with_reducible refine after_ ?_ (by assumption) ?_); (rotate_left; (focus (first | exact Nat.le_refl _ | (simp; done) | (simp; omega) | omega)))))) z1))⟩
        case measure => simp [intOf]; omega
    · obtain rfl : k = l.length := by omega
      have HE := Lib.hid (HB1.out.trans (HB.out.mono HB1.out.size))
      clear hbel
      go_wp2_with fail
      go_ret2
      exact ⟨rett2 H.out rfl rfl, HE.out⟩

theorem implCabinLoad_c (x : Cbn) (p : Int) (w : World) :
    Calls Try.prog 20 #[.agg #[.int .i64 x.n, .int .i64 x.s, .int .i64 x.e, .int .i64 x.t, .int .i64 x.r], .int .i64 p] w fun e w' => e = .returned (.tuple #[.int .i64 (loadC x p).1, .bool (loadC x p).2]) ∧ Below w.heap.size w w' := by
  rcases hg : okC x with _ | _
  · have H := Lib.hid (show loadC x p = (0, false) by simp [loadC, hg])
    go_enter Try.func20, Try.ntmps20
    go_wp2_with (first | (go_at_call 46; refine (IsCabin_c _ _).mono ?_; rintro e w1 ⟨rfl, hb1⟩; obtain ⟨hc1, hf1, hz1⟩ := bcell hb1; try simp [Nat.add_one_le_iff] at hz1) | (go_at_call 47; refine (l5One_c _ _).mono ?_; rintro e w1 ⟨rfl, hb1⟩; obtain ⟨hc1, hf1, hz1⟩ := bcell hb1; try simp [Nat.add_one_le_iff] at hz1))
    go_ret2
    exact ⟨rett2 H.out rfl rfl, (by repeat (first | (with_reducible exact Below.refl _ _) | ((with_reducible refine alloc_ ?_ ?_); (focus (first | exact Nat.le_refl _ | (simp; done) | (simp; omega) | omega))) | ((with_reducible refine set_ ?_ ?_); (focus (first | exact Nat.le_refl _ | (simp; done) | (simp; omega) | omega))) | (with_reducible refine Below.drew ?_) | ((with_reducible refine after_ ?_ (by assumption) ?_); (rotate_left; (focus (first | exact Nat.le_refl _ | (simp; done) | (simp; omega) | omega))))))⟩
  rcases hp : inR p 0 x.s with _ | _
  · have H := Lib.hid (show loadC x p = (0, false) by simp [loadC, hp])
    go_enter Try.func20, Try.ntmps20
    go_wp2_with (first | (go_at_call 46; refine (IsCabin_c _ _).mono ?_; rintro e w1 ⟨rfl, hb1⟩; obtain ⟨hc1, hf1, hz1⟩ := bcell hb1; try simp [Nat.add_one_le_iff] at hz1) | (go_at_call 47; refine (l5One_c _ _).mono ?_; rintro e w1 ⟨rfl, hb1⟩; obtain ⟨hc1, hf1, hz1⟩ := bcell hb1; try simp [Nat.add_one_le_iff] at hz1) | (go_at_call 28; refine (within_c _ _ _ _).mono ?_; rintro e w' ⟨rfl, rfl⟩))
    go_ret2
    exact ⟨rett2 H.out rfl rfl, (by repeat (first | (with_reducible exact Below.refl _ _) | ((with_reducible refine alloc_ ?_ ?_); (focus (first | exact Nat.le_refl _ | (simp; done) | (simp; omega) | omega))) | ((with_reducible refine set_ ?_ ?_); (focus (first | exact Nat.le_refl _ | (simp; done) | (simp; omega) | omega))) | (with_reducible refine Below.drew ?_) | ((with_reducible refine after_ ?_ (by assumption) ?_); (rotate_left; (focus (first | exact Nat.le_refl _ | (simp; done) | (simp; omega) | omega))))))⟩
  have H := Lib.hid (show loadC x p = (x.e + 80 * p, true) by simp [loadC, hg, hp])
  obtain ⟨⟨_, _⟩, ⟨_, e2⟩, ⟨e3, e4⟩, _⟩ := okC_true.1 hg
  obtain ⟨e5, e6⟩ := inR_true.1 hp
  go_enter Try.func20, Try.ntmps20
  go_wp2_with (first | (go_at_call 46; refine (IsCabin_c _ _).mono ?_; rintro e w1 ⟨rfl, hb1⟩; obtain ⟨hc1, hf1, hz1⟩ := bcell hb1; try simp [Nat.add_one_le_iff] at hz1) | (go_at_call 47; refine (l5One_c _ _).mono ?_; rintro e w1 ⟨rfl, hb1⟩; obtain ⟨hc1, hf1, hz1⟩ := bcell hb1; try simp [Nat.add_one_le_iff] at hz1) | (go_at_call 28; refine (within_c _ _ _ _).mono ?_; rintro e w' ⟨rfl, rfl⟩))
  go_ret2
  exact ⟨rett2 H.out rfl rfl, (by repeat (first | (with_reducible exact Below.refl _ _) | ((with_reducible refine alloc_ ?_ ?_); (focus (first | exact Nat.le_refl _ | (simp; done) | (simp; omega) | omega))) | ((with_reducible refine set_ ?_ ?_); (focus (first | exact Nat.le_refl _ | (simp; done) | (simp; omega) | omega))) | (with_reducible refine Below.drew ?_) | ((with_reducible refine after_ ?_ (by assumption) ?_); (rotate_left; (focus (first | exact Nat.le_refl _ | (simp; done) | (simp; omega) | omega))))))⟩
theorem specCabinLoad_c (x : Cbn) (p : Int) (w : World) :
    Calls Try.prog 21 #[.agg #[.int .i64 x.n, .int .i64 x.s, .int .i64 x.e, .int .i64 x.t, .int .i64 x.r], .int .i64 p] w fun e w' => e = .returned (.tuple #[.int .i64 (loadC x p).1, .bool (loadC x p).2]) ∧ Below w.heap.size w w' := by
  rcases hg : okC x with _ | _
  · have H := Lib.hid (show loadC x p = (0, false) by simp [loadC, hg])
    go_enter Try.func21, Try.ntmps21
    go_wp2_with (first | (go_at_call 46; refine (IsCabin_c _ _).mono ?_; rintro e w1 ⟨rfl, hb1⟩; obtain ⟨hc1, hf1, hz1⟩ := bcell hb1; try simp [Nat.add_one_le_iff] at hz1) | (go_at_call 47; refine (l5One_c _ _).mono ?_; rintro e w1 ⟨rfl, hb1⟩; obtain ⟨hc1, hf1, hz1⟩ := bcell hb1; try simp [Nat.add_one_le_iff] at hz1))
    go_ret2
    exact ⟨rett2 H.out rfl rfl, (by repeat (first | (with_reducible exact Below.refl _ _) | ((with_reducible refine alloc_ ?_ ?_); (focus (first | exact Nat.le_refl _ | (simp; done) | (simp; omega) | omega))) | ((with_reducible refine set_ ?_ ?_); (focus (first | exact Nat.le_refl _ | (simp; done) | (simp; omega) | omega))) | (with_reducible refine Below.drew ?_) | ((with_reducible refine after_ ?_ (by assumption) ?_); (rotate_left; (focus (first | exact Nat.le_refl _ | (simp; done) | (simp; omega) | omega))))))⟩
  rcases hp : inR p 0 x.s with _ | _
  · have H := Lib.hid (show loadC x p = (0, false) by simp [loadC, hp])
    go_enter Try.func21, Try.ntmps21
    go_wp2_with (first | (go_at_call 46; refine (IsCabin_c _ _).mono ?_; rintro e w1 ⟨rfl, hb1⟩; obtain ⟨hc1, hf1, hz1⟩ := bcell hb1; try simp [Nat.add_one_le_iff] at hz1) | (go_at_call 47; refine (l5One_c _ _).mono ?_; rintro e w1 ⟨rfl, hb1⟩; obtain ⟨hc1, hf1, hz1⟩ := bcell hb1; try simp [Nat.add_one_le_iff] at hz1) | (go_at_call 37; refine (l1In_c _ _ _ _).mono ?_; rintro e w' ⟨rfl, rfl⟩))
    go_ret2
    exact ⟨rett2 H.out rfl rfl, (by repeat (first | (with_reducible exact Below.refl _ _) | ((with_reducible refine alloc_ ?_ ?_); (focus (first | exact Nat.le_refl _ | (simp; done) | (simp; omega) | omega))) | ((with_reducible refine set_ ?_ ?_); (focus (first | exact Nat.le_refl _ | (simp; done) | (simp; omega) | omega))) | (with_reducible refine Below.drew ?_) | ((with_reducible refine after_ ?_ (by assumption) ?_); (rotate_left; (focus (first | exact Nat.le_refl _ | (simp; done) | (simp; omega) | omega))))))⟩
  have H := Lib.hid (show loadC x p = (x.e + 80 * p, true) by simp [loadC, hg, hp])
  obtain ⟨⟨_, _⟩, ⟨_, e2⟩, ⟨e3, e4⟩, _⟩ := okC_true.1 hg
  obtain ⟨e5, e6⟩ := inR_true.1 hp
  go_enter Try.func21, Try.ntmps21
  go_wp2_with (first | (go_at_call 46; refine (IsCabin_c _ _).mono ?_; rintro e w1 ⟨rfl, hb1⟩; obtain ⟨hc1, hf1, hz1⟩ := bcell hb1; try simp [Nat.add_one_le_iff] at hz1) | (go_at_call 47; refine (l5One_c _ _).mono ?_; rintro e w1 ⟨rfl, hb1⟩; obtain ⟨hc1, hf1, hz1⟩ := bcell hb1; try simp [Nat.add_one_le_iff] at hz1) | (go_at_call 37; refine (l1In_c _ _ _ _).mono ?_; rintro e w' ⟨rfl, rfl⟩))
  go_ret2
  exact ⟨rett2 H.out rfl rfl, (by repeat (first | (with_reducible exact Below.refl _ _) | ((with_reducible refine alloc_ ?_ ?_); (focus (first | exact Nat.le_refl _ | (simp; done) | (simp; omega) | omega))) | ((with_reducible refine set_ ?_ ?_); (focus (first | exact Nat.le_refl _ | (simp; done) | (simp; omega) | omega))) | (with_reducible refine Below.drew ?_) | ((with_reducible refine after_ ?_ (by assumption) ?_); (rotate_left; (focus (first | exact Nat.le_refl _ | (simp; done) | (simp; omega) | omega))))))⟩
set_option maxHeartbeats 1000000 in
theorem implCabinsIn_c (l : List Cbn) (A : Option Addr) (cap : Nat) (t : Int) (w : World) (hl : l.length ≤ 1048576) (hr : Rd w w.heap.size 5 Cbn.cells A l) :
    Calls Try.prog 13 #[.slice A l.length cap, .int .i64 t] w (ListPost (cabsIn l t) w) := by
  rcases hg : goodC l with _ | _
  · have H := Lib.hid (show cabsIn l t = ([], false) by simp [cabsIn, hg])
    go_enter Try.func13, Try.ntmps13
    go_wp2_with fail
    refine (AreCabins_c l _ _ _ hl hr).mono ?_
    rintro e w1 ⟨rfl, hb1⟩
    go_wp2_with fail
    go_ret2
    exact ⟨none, 0, retl H.out, by rw [H.out]; exact Own.nil, hb1⟩
  rcases h1 : inR t 0 3 with _ | _
  · have H := Lib.hid (show cabsIn l t = ([], false) by simp [cabsIn, h1])
    go_enter Try.func13, Try.ntmps13
    go_wp2_with fail
    refine (AreCabins_c l _ _ _ hl hr).mono ?_
    rintro e w1 ⟨rfl, hb1⟩
    go_wp2_with (go_at_call 28; refine (within_c _ _ _ _).mono ?_; rintro e w' ⟨rfl, rfl⟩)
    go_ret2
    exact ⟨none, 0, retl H.out, by rw [H.out]; exact Own.nil, hb1⟩
  have H := Lib.hid (show cabsIn l t = (stTo l t l.length, true) by simp [cabsIn, hg, h1])
  have hl12 := (goodC_true hg).1
  go_enter Try.func13, Try.ntmps13
  go_wp2_with fail
  refine (AreCabins_c l _ _ _ hl hr).mono ?_
  rintro e w1 ⟨rfl, hb1⟩
  have hr1 := hr.carry hb1
  have HB1 := Lib.hid hb1
  clear hb1
  go_wp2_with (go_at_call 28; refine (within_c _ _ _ _).mono ?_; rintro e w' ⟨rfl, rfl⟩)
  clear hg h1
  go_loopw [6, 8, 20] (fun v _ i wr => ∃ k : Nat, k ≤ l.length ∧ i = .int .i64 k ∧ wr.ownsRow w1.heap.size 3 1 v (stTo l t k).length ((stTo l t k).map (Value.int .i64)) ∧ Below w1.heap.size w1 wr) (fun _ _ i _ => l.length - (intOf i).toNat)
  case atStart => exact ⟨0, Nat.zero_le _, rfl, ownsRow_empty w1 3 1, (by repeat (first | (with_reducible exact Below.refl _ _) | ((with_reducible refine alloc_ ?_ ?_); (focus (first | exact Nat.le_refl _ | (simp; done) | (simp; omega) | omega))) | ((with_reducible refine set_ ?_ ?_); (focus (first | exact Nat.le_refl _ | (simp; done) | (simp; omega) | omega))) | (with_reducible refine Below.drew ?_) | ((with_reducible refine after_ ?_ (by assumption) ?_); (rotate_left; (focus (first | exact Nat.le_refl _ | (simp; done) | (simp; omega) | omega))))))⟩
  case round =>
    obtain ⟨k, hk, rfl, hown, hbel⟩ := hrel
    have HB := Lib.hid hbel
    have HO := Lib.hid hown
    have z1 := hbel.size
    by_cases hlt : k < l.length
    · obtain ⟨b, off, rfl, hb1, hc0, hc1, hc2, hc3, hc4⟩ := Cbn.rd (hr1.below hbel (Nat.le_refl _)) hlt
      have hle := stTo_len (l := l) (t := t) k
      have l1 : b < wr.heap.size := by omega
      clear hbel hown
      by_cases hq : (nth l k).t = t
      · have HY := Lib.hid (show stTo l t (k + 1) = stTo l t k ++ [(nth l k).n] by simp [stTo, hq])
        have hq' : ((nth l k).t == t) = true := by simp [hq]
        clear hq
        obtain ⟨x, hx⟩ : ∃ x, (nth l k).n = x := ⟨_, rfl⟩
        rw [hx] at HY
        go_wp2_with (at_builtin; refine wpList_push _ rfl _ _ 27 rfl w1.heap.size 3 (.int .i64 0) 1 8 Try.underlying27 info_int rfl (by decide) (by decide) _ _ _ rfl ((ownsRow_below HO.out (by repeat (first | (with_reducible exact Below.refl _ _) | ((with_reducible refine alloc_ ?_ ?_); (focus (first | exact Nat.le_refl _ | (simp; done) | (simp; omega) | omega))) | ((with_reducible refine set_ ?_ ?_); (focus (first | exact Nat.le_refl _ | (simp; done) | (simp; omega) | omega))) | (with_reducible refine Below.drew ?_) | ((with_reducible refine after_ ?_ (by assumption) ?_); (rotate_left; (focus (first | exact Nat.le_refl _ | (simp; done) | (simp; omega) | omega))))))).alloc _) (wr.heap.size + 1) [.int .i64 x] rfl rfl ?c1 ?c2 ?c3 ?c4 ?_)
        try case c1 =>
          intro j u hj
          match j, hj with
          | 0, hj => simp at hj; subst hj; simp [go_sem]
        case c2 => first | rfl | (intro u hu; simp at hu; subst hu; rfl)
        case c3 => omega
        case c4 => first | omega | (simp; omega)
        intro v' w' hown' hb'
        have HO' := Lib.hid hown'
        have HB' := Lib.hid (show Below w1.heap.size w1 w' from HB.out.trans (((((Below.refl _ _).alloc (Nat.le_refl _) _).alloc (by simp) _).mono z1).trans (hb'.mono (by simp))))
        clear hown' hb'
        go_wp2_with fail
        go_roundw
        case rel => exact ⟨k + 1, by omega, by go_num, by rw [HY.out]; simpa using HO'.out, HB'.out⟩
        case measure => simp [intOf]; omega
      · have HY := Lib.hid (show stTo l t (k + 1) = stTo l t k by simp [stTo, hq])
        have hq' : ((nth l k).t == t) = false := by rw [beq_eq_false_iff_ne]; exact hq
        clear hq
        go_wp2_with fail
        go_roundw
        case rel => exact ⟨k + 1, by omega, by go_num, by rw [HY.out]; exact ownsRow_below HO.out (by repeat (first | (with_reducible exact Below.refl _ _) | ((with_reducible refine alloc_ ?_ ?_); (focus (first | exact Nat.le_refl _ | (simp; done) | (simp; omega) | omega))) | ((with_reducible refine set_ ?_ ?_); (focus (first | exact Nat.le_refl _ | (simp; done) | (simp; omega) | omega))) | (with_reducible refine Below.drew ?_) | ((with_reducible refine after_ ?_ (by assumption) ?_); (rotate_left; (focus (first | exact Nat.le_refl _ | (simp; done) | (simp; omega) | omega)))))), (HB.out.trans (Below.mono (B := wr.heap.size) (by repeat (first | (with_reducible exact Below.refl _ _) | ((with_reducible refine alloc_ ?_ ?_); (focus (first | exact Nat.le_refl _ | (simp; done) | (simp; omega) | omega))) | ((with_reducible refine set_ ?_ ?_); (focus (first | exact Nat.le_refl _ | (simp; done) | (simp; omega) | omega))) | (with_reducible refine Below.drew ?_) | ((with_reducible refine after_ ?_ (by assumption) ?_); (rotate_left; (focus (first | exact Nat.le_refl _ | (simp; done) | (simp; omega) | omega)))))) z1))⟩
        case measure => simp [intOf]; omega
    · obtain rfl : k = l.length := by omega
      clear hbel
      obtain ⟨A', cap', rfl⟩ := ownsRow_shape hown
      clear hown
      go_wp2_with fail
      go_ret2
      exact ⟨A', cap', retl H.out, by rw [H.out]; exact (Own.of_row' HO.out rfl (flat_ints _).symm fun _ => rfl).less HB1.out.size, HB1.out.trans (HB.out.mono HB1.out.size)⟩
set_option maxHeartbeats 1600000 in
theorem implNextOut_c (l : List Cbn) (A : Option Addr) (cap : Nat) (m : Int) (w : World) (hl : l.length ≤ 1048576) (hr : Rd w w.heap.size 5 Cbn.cells A l) :
    Calls Try.prog 11 #[.slice A l.length cap, .int .i64 m] w fun e w' => e = .returned (.tuple #[.int .i64 (nextOut l m).1, .bool (nextOut l m).2]) ∧ Below w.heap.size w w' := by
  rcases hg : goodC l with _ | _
  · have H := Lib.hid (show nextOut l m = (0, false) by simp [nextOut, hg])
    go_enter Try.func11, Try.ntmps11
    go_wp2_with fail
    refine (AreCabins_c l _ _ _ hl hr).mono ?_
    rintro e w1 ⟨rfl, hb1⟩
    go_wp2_with fail
    go_ret2
    exact ⟨rett2 H.out rfl rfl, hb1⟩
  rcases h1 : inR m 1 16 with _ | _
  · have H := Lib.hid (show nextOut l m = (0, false) by simp [nextOut, h1])
    go_enter Try.func11, Try.ntmps11
    go_wp2_with fail
    refine (AreCabins_c l _ _ _ hl hr).mono ?_
    rintro e w1 ⟨rfl, hb1⟩
    go_wp2_with (go_at_call 28; refine (within_c _ _ _ _).mono ?_; rintro e w' ⟨rfl, rfl⟩)
    go_ret2
    exact ⟨rett2 H.out rfl rfl, hb1⟩
  have H := Lib.hid (show nextOut l m = if 0 ≤ bestTo l m l.length then ((nth l (bestTo l m l.length).toNat).n, true) else (0, false) by simp [nextOut, hg, h1])
  go_enter Try.func11, Try.ntmps11
  go_wp2_with fail
  refine (AreCabins_c l _ _ _ hl hr).mono ?_
  rintro e w1 ⟨rfl, hb1⟩
  have hr1 := hr.carry hb1
  have HB1 := Lib.hid hb1
  clear hb1
  go_wp2_with (go_at_call 28; refine (within_c _ _ _ _).mono ?_; rintro e w' ⟨rfl, rfl⟩)
  clear hg h1
  go_loopw [6, 7, 8, 19] (fun s _ _ i wr => ∃ k : Nat, k ≤ l.length ∧ i = .int .i64 k ∧ s = .int .i64 (bestTo l m k) ∧ Below w1.heap.size w1 wr) (fun s _ _ i _ => l.length - (intOf i).toNat)
  case atStart => exact ⟨0, Nat.zero_le _, rfl, rfl, Below.refl _ _⟩
  case round =>
    obtain ⟨k, hk, rfl, rfl, hbel⟩ := hrel
    have HB := Lib.hid hbel
    have z1 := hbel.size
    have HD := Lib.hid (bestTo_bd (l := l) (m := m) k)
    by_cases hlt : k < l.length
    · obtain ⟨b, off, rfl, hb1, hc0, hc1, hc2, hc3, hc4⟩ := Cbn.rd (hr1.below hbel (Nat.le_refl _)) hlt
      have l1 : b < wr.heap.size := by omega
      have i1 : (0 : Int) ≤ (k : Int) := by omega
      have i2 : (k : Int) < l.length := by omega
      have HS := Lib.hid (show bestTo l m (k + 1) = if (nth l k).t = 0 ∧ m ≤ (nth l k).s ∧ (bestTo l m k < 0 ∨ (nth l k).r < (nth l (bestTo l m k).toNat).r) then (k : Int) else bestTo l m k from rfl)
      by_cases ht : (nth l k).t = 0
      case neg =>
        have ht' : ((nth l k).t == 0) = false := by rw [beq_eq_false_iff_ne]; exact ht
        have HL := Lib.hid (show bestTo l m (k + 1) = bestTo l m k by rw [HS.out, if_neg (by intro q; exact ht q.1)])
        clear ht hbel
        go_wp2_with fail
        refine wp_region_mem (by kernel_rfl) (by kernel_rfl) ?_
        repeat (go_big_quiet_step (fail))
        refine wpQuiet_nil ?_
        intro _ hw'
        obtain ⟨⟨wq, hbq⟩, hw''⟩ := hw'
        obtain rfl := hw''.symm
        obtain ⟨hcq, hfq, hzq⟩ := bcell hbq
        try simp [Nat.add_one_le_iff] at hzq
        go_wp2_with fail
        go_roundw
        case rel => exact ⟨k + 1, by omega, by go_num, by rw [HL.out], (HB.out.trans (Below.mono (B := wr.heap.size) (by repeat (first | (with_reducible exact Below.refl _ _) | ((with_reducible refine alloc_ ?_ ?_); (focus (first | exact Nat.le_refl _ | (simp; done) | (simp; omega) | omega))) | ((with_reducible refine set_ ?_ ?_); (focus (first | exact Nat.le_refl _ | (simp; done) | (simp; omega) | omega))) | (with_reducible refine Below.drew ?_) | ((with_reducible refine after_ ?_ (by assumption) ?_); (rotate_left; (focus (first | exact Nat.le_refl _ | (simp; done) | (simp; omega) | omega)))))) z1))⟩
        case measure => simp [intOf]; omega
      have ht' : ((nth l k).t == 0) = true := by simp [ht]
      by_cases hm : m ≤ (nth l k).s
      case neg =>
        have HL := Lib.hid (show bestTo l m (k + 1) = bestTo l m k by rw [HS.out, if_neg (by intro q; exact hm q.2.1)])
        have hm' : decide (m ≤ (nth l k).s) = false := decide_eq_false hm
        clear ht hbel
        go_wp2_with fail
        refine wp_region_mem (by kernel_rfl) (by kernel_rfl) ?_
        repeat (go_big_quiet_step (fail))
        refine wpQuiet_nil ?_
        intro _ hw'
        obtain ⟨⟨wq, hbq⟩, hw''⟩ := hw'
        obtain rfl := hw''.symm
        obtain ⟨hcq, hfq, hzq⟩ := bcell hbq
        try simp [Nat.add_one_le_iff] at hzq
        go_wp2_with fail
        go_roundw
        case rel => exact ⟨k + 1, by omega, by go_num, by rw [HL.out], (HB.out.trans (Below.mono (B := wr.heap.size) (by repeat (first | (with_reducible exact Below.refl _ _) | ((with_reducible refine alloc_ ?_ ?_); (focus (first | exact Nat.le_refl _ | (simp; done) | (simp; omega) | omega))) | ((with_reducible refine set_ ?_ ?_); (focus (first | exact Nat.le_refl _ | (simp; done) | (simp; omega) | omega))) | (with_reducible refine Below.drew ?_) | ((with_reducible refine after_ ?_ (by assumption) ?_); (rotate_left; (focus (first | exact Nat.le_refl _ | (simp; done) | (simp; omega) | omega)))))) z1))⟩
        case measure => simp [intOf]; omega
      have hm' : decide (m ≤ (nth l k).s) = true := decide_eq_true hm
      rcases HD.out with hn | ⟨n1, n2, _⟩
      · have HL := Lib.hid (show bestTo l m (k + 1) = k by rw [HS.out, if_pos ⟨ht, hm, .inl (by omega)⟩])
        rw [hn]
        clear ht hbel hn
        go_wp2_with fail
        refine wp_region_mem (by kernel_rfl) (by kernel_rfl) ?_
        repeat (go_big_quiet_step (fail))
        refine wpQuiet_nil ?_
        intro _ hw'
        obtain ⟨⟨wq, hbq⟩, hw''⟩ := hw'
        obtain rfl := hw''.symm
        obtain ⟨hcq, hfq, hzq⟩ := bcell hbq
        try simp [Nat.add_one_le_iff] at hzq
        go_wp2_with fail
        go_roundw
        case rel => exact ⟨k + 1, by omega, by go_num, by rw [HL.out], (HB.out.trans (Below.mono (B := wr.heap.size) (by repeat (first | (with_reducible exact Below.refl _ _) | ((with_reducible refine alloc_ ?_ ?_); (focus (first | exact Nat.le_refl _ | (simp; done) | (simp; omega) | omega))) | ((with_reducible refine set_ ?_ ?_); (focus (first | exact Nat.le_refl _ | (simp; done) | (simp; omega) | omega))) | (with_reducible refine Below.drew ?_) | ((with_reducible refine after_ ?_ (by assumption) ?_); (rotate_left; (focus (first | exact Nat.le_refl _ | (simp; done) | (simp; omega) | omega)))))) z1))⟩
        case measure => simp [intOf]; omega
      · obtain ⟨j, hj⟩ : ∃ j : Nat, bestTo l m k = j := ⟨_, (Int.toNat_of_nonneg n1).symm⟩
        rw [hj] at n1 n2 HS ⊢
        rw [Int.toNat_natCast] at HS
        obtain ⟨b', off', he, hb2, hd0, hd1, hd2, hd3, hd4⟩ := Cbn.rd (hr1.below hbel (Nat.le_refl _)) (show j < l.length by omega)
        simp only [Option.some.injEq, Addr.mk.injEq, and_true] at he
        obtain ⟨rfl, rfl⟩ := he
        have i3 : (j : Int) < l.length := by omega
        have i4 : decide ((j : Int) < 0) = false := decide_eq_false (by omega)
        have i5 : (0 : Int) ≤ (j : Int) := by omega
        by_cases hx : (nth l k).r < (nth l j).r
        · have HL := Lib.hid (show bestTo l m (k + 1) = k by rw [HS.out, if_pos ⟨ht, hm, .inr hx⟩])
          clear ht hbel hj
          go_wp2_with fail
          refine wp_region_mem (by kernel_rfl) (by kernel_rfl) ?_
          repeat (go_big_quiet_step (fail))
          refine wpQuiet_nil ?_
          intro _ hw'
          obtain ⟨⟨wq, hbq⟩, hw''⟩ := hw'
          obtain rfl := hw''.symm
          obtain ⟨hcq, hfq, hzq⟩ := bcell hbq
          try simp [Nat.add_one_le_iff] at hzq
          go_wp2_with fail
          go_roundw
          case rel => exact ⟨k + 1, by omega, by go_num, by rw [HL.out], (HB.out.trans (Below.mono (B := wr.heap.size) (by repeat (first | (with_reducible exact Below.refl _ _) | ((with_reducible refine alloc_ ?_ ?_); (focus (first | exact Nat.le_refl _ | (simp; done) | (simp; omega) | omega))) | ((with_reducible refine set_ ?_ ?_); (focus (first | exact Nat.le_refl _ | (simp; done) | (simp; omega) | omega))) | (with_reducible refine Below.drew ?_) | ((with_reducible refine after_ ?_ (by assumption) ?_); (rotate_left; (focus (first | exact Nat.le_refl _ | (simp; done) | (simp; omega) | omega)))))) z1))⟩
          case measure => simp [intOf]; omega
        · have HL := Lib.hid (show bestTo l m (k + 1) = j by rw [HS.out, if_neg (by intro q; rcases q.2.2 with q | q <;> omega)])
          clear ht hbel hj
          go_wp2_with fail
          refine wp_region_mem (by kernel_rfl) (by kernel_rfl) ?_
          repeat (go_big_quiet_step (fail))
          refine wpQuiet_nil ?_
          intro _ hw'
          obtain ⟨⟨wq, hbq⟩, hw''⟩ := hw'
          obtain rfl := hw''.symm
          obtain ⟨hcq, hfq, hzq⟩ := bcell hbq
          try simp [Nat.add_one_le_iff] at hzq
          go_wp2_with fail
          go_roundw
          case rel => exact ⟨k + 1, by omega, by go_num, by rw [HL.out], (HB.out.trans (Below.mono (B := wr.heap.size) (by repeat (first | (with_reducible exact Below.refl _ _) | ((with_reducible refine alloc_ ?_ ?_); (focus (first | exact Nat.le_refl _ | (simp; done) | (simp; omega) | omega))) | ((with_reducible refine set_ ?_ ?_); (focus (first | exact Nat.le_refl _ | (simp; done) | (simp; omega) | omega))) | (with_reducible refine Below.drew ?_) | ((with_reducible refine after_ ?_ (by assumption) ?_); (rotate_left; (focus (first | exact Nat.le_refl _ | (simp; done) | (simp; omega) | omega)))))) z1))⟩
          case measure => simp [intOf]; omega
    · obtain rfl : k = l.length := by omega
      have HE := Lib.hid (HB1.out.trans (HB.out.mono HB1.out.size))
      rcases HD.out with hn | ⟨n1, n2, _⟩
      · rw [hn]
        have H2 := Lib.hid (H.out.trans (if_neg (by omega)))
        clear hbel hn
        go_wp2_with fail
        go_ret2
        exact ⟨rett2 H2.out rfl rfl, HE.out⟩
      · obtain ⟨j, hj⟩ : ∃ j : Nat, bestTo l m l.length = j := ⟨_, (Int.toNat_of_nonneg n1).symm⟩
        rw [hj] at n1 n2 H ⊢
        rw [Int.toNat_natCast] at H
        have H2 := Lib.hid (H.out.trans (if_pos n1))
        obtain ⟨b', off', rfl, hb2, hd0, hd1, hd2, hd3, hd4⟩ := Cbn.rd (hr1.below hbel (Nat.le_refl _)) (show j < l.length by omega)
        have i3 : (j : Int) < l.length := by omega
        have i4 : ¬ (j : Int) < 0 := by omega
        clear hbel hj
        go_wp2_with fail
        go_ret2
        exact ⟨rett2 H2.out rfl rfl, HE.out⟩
set_option maxHeartbeats 1600000 in
theorem specNextOut_c (l : List Cbn) (A : Option Addr) (cap : Nat) (m : Int) (w : World) (hl : l.length ≤ 1048576) (hr : Rd w w.heap.size 5 Cbn.cells A l) :
    Calls Try.prog 12 #[.slice A l.length cap, .int .i64 m] w fun e w' => e = .returned (.tuple #[.int .i64 (nextOut l m).1, .bool (nextOut l m).2]) ∧ Below w.heap.size w w' := by
  rcases hg : goodC l with _ | _
  · have H := Lib.hid (show nextOut l m = (0, false) by simp [nextOut, hg])
    go_enter Try.func12, Try.ntmps12
    go_wp2_with fail
    refine (l5Good_c l _ _ _ hl hr).mono ?_
    rintro e w1 ⟨rfl, hb1⟩
    go_wp2_with fail
    go_ret2
    exact ⟨rett2 H.out rfl rfl, hb1⟩
  rcases h1 : inR m 1 16 with _ | _
  · have H := Lib.hid (show nextOut l m = (0, false) by simp [nextOut, h1])
    go_enter Try.func12, Try.ntmps12
    go_wp2_with fail
    refine (l5Good_c l _ _ _ hl hr).mono ?_
    rintro e w1 ⟨rfl, hb1⟩
    go_wp2_with (go_at_call 37; refine (l1In_c _ _ _ _).mono ?_; rintro e w' ⟨rfl, rfl⟩)
    go_ret2
    exact ⟨rett2 H.out rfl rfl, hb1⟩
  have H := Lib.hid (show nextOut l m = if 0 ≤ bestTo l m l.length then ((nth l (bestTo l m l.length).toNat).n, true) else (0, false) by simp [nextOut, hg, h1])
  go_enter Try.func12, Try.ntmps12
  go_wp2_with fail
  refine (l5Good_c l _ _ _ hl hr).mono ?_
  rintro e w1 ⟨rfl, hb1⟩
  have hr1 := hr.carry hb1
  have HB1 := Lib.hid hb1
  clear hb1
  go_wp2_with (go_at_call 37; refine (l1In_c _ _ _ _).mono ?_; rintro e w' ⟨rfl, rfl⟩)
  clear hg h1
  go_loopw [6, 7, 8] (fun s i _ wr => ∃ k : Nat, k ≤ l.length ∧ i = .int .i64 k ∧ s = .int .i64 (bestTo l m k) ∧ Below w1.heap.size w1 wr) (fun s i _ _ => l.length - (intOf i).toNat)
  case atStart => exact ⟨0, Nat.zero_le _, rfl, rfl, Below.refl _ _⟩
  case round =>
    obtain ⟨k, hk, rfl, rfl, hbel⟩ := hrel
    have HB := Lib.hid hbel
    have z1 := hbel.size
    have HD := Lib.hid (bestTo_bd (l := l) (m := m) k)
    by_cases hlt : k < l.length
    · obtain ⟨b, off, rfl, hb1, hc0, hc1, hc2, hc3, hc4⟩ := Cbn.rd (hr1.below hbel (Nat.le_refl _)) hlt
      have l1 : b < wr.heap.size := by omega
      have i1 : (0 : Int) ≤ (k : Int) := by omega
      have i2 : (k : Int) < l.length := by omega
      have HS := Lib.hid (show bestTo l m (k + 1) = if (nth l k).t = 0 ∧ m ≤ (nth l k).s ∧ (bestTo l m k < 0 ∨ (nth l k).r < (nth l (bestTo l m k).toNat).r) then (k : Int) else bestTo l m k from rfl)
      by_cases ht : (nth l k).t = 0
      case neg =>
        have ht' : ((nth l k).t == 0) = false := by rw [beq_eq_false_iff_ne]; exact ht
        have HL := Lib.hid (show bestTo l m (k + 1) = bestTo l m k by rw [HS.out, if_neg (by intro q; exact ht q.1)])
        clear ht hbel
        go_wp2_with fail
        refine wp_region_mem (by kernel_rfl) (by kernel_rfl) ?_
        repeat (go_big_quiet_step (fail))
        refine wpQuiet_nil ?_
        intro _ hw'
        obtain ⟨⟨wq, hbq⟩, hw''⟩ := hw'
        obtain rfl := hw''.symm
        obtain ⟨hcq, hfq, hzq⟩ := bcell hbq
        try simp [Nat.add_one_le_iff] at hzq
        go_wp2_with fail
        go_roundw
        case rel => exact ⟨k + 1, by omega, by go_num, by rw [HL.out], (HB.out.trans (Below.mono (B := wr.heap.size) (by repeat (first | (with_reducible exact Below.refl _ _) | ((with_reducible refine alloc_ ?_ ?_); (focus (first | exact Nat.le_refl _ | (simp; done) | (simp; omega) | omega))) | ((with_reducible refine set_ ?_ ?_); (focus (first | exact Nat.le_refl _ | (simp; done) | (simp; omega) | omega))) | (with_reducible refine Below.drew ?_) | ((with_reducible refine after_ ?_ (by assumption) ?_); (rotate_left; (focus (first | exact Nat.le_refl _ | (simp; done) | (simp; omega) | omega)))))) z1))⟩
        case measure => simp [intOf]; omega
      have ht' : ((nth l k).t == 0) = true := by simp [ht]
      by_cases hm : m ≤ (nth l k).s
      case neg =>
        have HL := Lib.hid (show bestTo l m (k + 1) = bestTo l m k by rw [HS.out, if_neg (by intro q; exact hm q.2.1)])
        have hm' : decide (m ≤ (nth l k).s) = false := decide_eq_false hm
        clear ht hbel
        go_wp2_with fail
        refine wp_region_mem (by kernel_rfl) (by kernel_rfl) ?_
        repeat (go_big_quiet_step (fail))
        refine wpQuiet_nil ?_
        intro _ hw'
        obtain ⟨⟨wq, hbq⟩, hw''⟩ := hw'
        obtain rfl := hw''.symm
        obtain ⟨hcq, hfq, hzq⟩ := bcell hbq
        try simp [Nat.add_one_le_iff] at hzq
        go_wp2_with fail
        go_roundw
        case rel => exact ⟨k + 1, by omega, by go_num, by rw [HL.out], (HB.out.trans (Below.mono (B := wr.heap.size) (by repeat (first | (with_reducible exact Below.refl _ _) | ((with_reducible refine alloc_ ?_ ?_); (focus (first | exact Nat.le_refl _ | (simp; done) | (simp; omega) | omega))) | ((with_reducible refine set_ ?_ ?_); (focus (first | exact Nat.le_refl _ | (simp; done) | (simp; omega) | omega))) | (with_reducible refine Below.drew ?_) | ((with_reducible refine after_ ?_ (by assumption) ?_); (rotate_left; (focus (first | exact Nat.le_refl _ | (simp; done) | (simp; omega) | omega)))))) z1))⟩
        case measure => simp [intOf]; omega
      have hm' : decide (m ≤ (nth l k).s) = true := decide_eq_true hm
      rcases HD.out with hn | ⟨n1, n2, _⟩
      · have HL := Lib.hid (show bestTo l m (k + 1) = k by rw [HS.out, if_pos ⟨ht, hm, .inl (by omega)⟩])
        rw [hn]
        clear ht hbel hn
        go_wp2_with fail
        refine wp_region_mem (by kernel_rfl) (by kernel_rfl) ?_
        repeat (go_big_quiet_step (fail))
        refine wpQuiet_nil ?_
        intro _ hw'
        obtain ⟨⟨wq, hbq⟩, hw''⟩ := hw'
        obtain rfl := hw''.symm
        obtain ⟨hcq, hfq, hzq⟩ := bcell hbq
        try simp [Nat.add_one_le_iff] at hzq
        go_wp2_with fail
        go_roundw
        case rel => exact ⟨k + 1, by omega, by go_num, by rw [HL.out], (HB.out.trans (Below.mono (B := wr.heap.size) (by repeat (first | (with_reducible exact Below.refl _ _) | ((with_reducible refine alloc_ ?_ ?_); (focus (first | exact Nat.le_refl _ | (simp; done) | (simp; omega) | omega))) | ((with_reducible refine set_ ?_ ?_); (focus (first | exact Nat.le_refl _ | (simp; done) | (simp; omega) | omega))) | (with_reducible refine Below.drew ?_) | ((with_reducible refine after_ ?_ (by assumption) ?_); (rotate_left; (focus (first | exact Nat.le_refl _ | (simp; done) | (simp; omega) | omega)))))) z1))⟩
        case measure => simp [intOf]; omega
      · obtain ⟨j, hj⟩ : ∃ j : Nat, bestTo l m k = j := ⟨_, (Int.toNat_of_nonneg n1).symm⟩
        rw [hj] at n1 n2 HS ⊢
        rw [Int.toNat_natCast] at HS
        obtain ⟨b', off', he, hb2, hd0, hd1, hd2, hd3, hd4⟩ := Cbn.rd (hr1.below hbel (Nat.le_refl _)) (show j < l.length by omega)
        simp only [Option.some.injEq, Addr.mk.injEq, and_true] at he
        obtain ⟨rfl, rfl⟩ := he
        have i3 : (j : Int) < l.length := by omega
        have i4 : decide ((j : Int) < 0) = false := decide_eq_false (by omega)
        have i5 : (0 : Int) ≤ (j : Int) := by omega
        by_cases hx : (nth l k).r < (nth l j).r
        · have HL := Lib.hid (show bestTo l m (k + 1) = k by rw [HS.out, if_pos ⟨ht, hm, .inr hx⟩])
          clear ht hbel hj
          go_wp2_with fail
          refine wp_region_mem (by kernel_rfl) (by kernel_rfl) ?_
          repeat (go_big_quiet_step (fail))
          refine wpQuiet_nil ?_
          intro _ hw'
          obtain ⟨⟨wq, hbq⟩, hw''⟩ := hw'
          obtain rfl := hw''.symm
          obtain ⟨hcq, hfq, hzq⟩ := bcell hbq
          try simp [Nat.add_one_le_iff] at hzq
          go_wp2_with fail
          go_roundw
          case rel => exact ⟨k + 1, by omega, by go_num, by rw [HL.out], (HB.out.trans (Below.mono (B := wr.heap.size) (by repeat (first | (with_reducible exact Below.refl _ _) | ((with_reducible refine alloc_ ?_ ?_); (focus (first | exact Nat.le_refl _ | (simp; done) | (simp; omega) | omega))) | ((with_reducible refine set_ ?_ ?_); (focus (first | exact Nat.le_refl _ | (simp; done) | (simp; omega) | omega))) | (with_reducible refine Below.drew ?_) | ((with_reducible refine after_ ?_ (by assumption) ?_); (rotate_left; (focus (first | exact Nat.le_refl _ | (simp; done) | (simp; omega) | omega)))))) z1))⟩
          case measure => simp [intOf]; omega
        · have HL := Lib.hid (show bestTo l m (k + 1) = j by rw [HS.out, if_neg (by intro q; rcases q.2.2 with q | q <;> omega)])
          clear ht hbel hj
          go_wp2_with fail
          refine wp_region_mem (by kernel_rfl) (by kernel_rfl) ?_
          repeat (go_big_quiet_step (fail))
          refine wpQuiet_nil ?_
          intro _ hw'
          obtain ⟨⟨wq, hbq⟩, hw''⟩ := hw'
          obtain rfl := hw''.symm
          obtain ⟨hcq, hfq, hzq⟩ := bcell hbq
          try simp [Nat.add_one_le_iff] at hzq
          go_wp2_with fail
          go_roundw
          case rel => exact ⟨k + 1, by omega, by go_num, by rw [HL.out], (HB.out.trans (Below.mono (B := wr.heap.size) (by repeat (first | (with_reducible exact Below.refl _ _) | ((with_reducible refine alloc_ ?_ ?_); (focus (first | exact Nat.le_refl _ | (simp; done) | (simp; omega) | omega))) | ((with_reducible refine set_ ?_ ?_); (focus (first | exact Nat.le_refl _ | (simp; done) | (simp; omega) | omega))) | (with_reducible refine Below.drew ?_) | ((with_reducible refine after_ ?_ (by assumption) ?_); (rotate_left; (focus (first | exact Nat.le_refl _ | (simp; done) | (simp; omega) | omega)))))) z1))⟩
          case measure => simp [intOf]; omega
    · obtain rfl : k = l.length := by omega
      have HE := Lib.hid (HB1.out.trans (HB.out.mono HB1.out.size))
      rcases HD.out with hn | ⟨n1, n2, _⟩
      · rw [hn]
        have H2 := Lib.hid (H.out.trans (if_neg (by omega)))
        clear hbel hn
        go_wp2_with fail
        go_ret2
        exact ⟨rett2 H2.out rfl rfl, HE.out⟩
      · obtain ⟨j, hj⟩ : ∃ j : Nat, bestTo l m l.length = j := ⟨_, (Int.toNat_of_nonneg n1).symm⟩
        rw [hj] at n1 n2 H ⊢
        rw [Int.toNat_natCast] at H
        have H2 := Lib.hid (H.out.trans (if_pos n1))
        obtain ⟨b', off', rfl, hb2, hd0, hd1, hd2, hd3, hd4⟩ := Cbn.rd (hr1.below hbel (Nat.le_refl _)) (show j < l.length by omega)
        have i3 : (j : Int) < l.length := by omega
        have i4 : ¬ (j : Int) < 0 := by omega
        clear hbel hj
        go_wp2_with fail
        go_ret2
        exact ⟨rett2 H2.out rfl rfl, HE.out⟩
end Go.Proofs.Ytcmbbhdoienkoaa
