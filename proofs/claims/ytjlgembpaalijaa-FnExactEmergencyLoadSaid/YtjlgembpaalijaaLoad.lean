/- EmergencyLoad of the program and of the reference return one Lean function; no conditions but the sizes. -/
import Derived.Test.YtjlgembpaalijaaConsSpec
namespace Go.Proofs.Ytjlgembpaalijaa
open Go.RowKit

def loadTo (l : List Cons) (rank : Int) : Nat → Int
  | 0 => 0
  | k + 1 => if (nth l k).r ≤ rank then loadTo l rank k + (nth l k).w else loadTo l rank k
theorem loadTo_bd {l : List Cons} {rank : Int} {n : Nat} (h : ∀ i, i < n → 1 ≤ (nth l i).w ∧ (nth l i).w ≤ 1000000) : ∀ k, k ≤ n → 0 ≤ loadTo l rank k ∧ loadTo l rank k ≤ k * 1000000
  | 0, _ => by simp [loadTo]
  | k + 1, hk => by
    have h1 := loadTo_bd (rank := rank) h k (by omega)
    have a := h k (by omega)
    simp only [loadTo]
    split <;> omega
theorem goodC_true {l : List Cons} (h : goodC l = true) : l.length ≤ 8 ∧ ∀ i, i < l.length → 1 ≤ (nth l i).w ∧ (nth l i).w ≤ 1000000 := by
  simp only [goodC, Bool.and_eq_true, decide_eq_true_eq, allTo_true, okC] at h
  exact ⟨h.2, fun i hi => inR_true.1 (h.1 i hi).1.1.2⟩
theorem emergencyLoad_c (l : List Cons) (A : Option Addr) (cap : Nat) (rank : Int) (w : World) (hg : goodC l = true) (hr : Rd w w.heap.size 3 Cons.cells A l) :
    Calls Try.prog 50 #[.slice A l.length cap, .int .i64 rank] w fun e w' => e = .returned (.int .i64 (loadTo l rank l.length)) ∧ Below w.heap.size w w' := by
  obtain ⟨g1, g2⟩ := goodC_true hg
  have G2 := Lib.hid g2
  clear g2 hg
  go_enter Try.func50, Try.ntmps50
  go_wp2_with fail
  go_loopw [5, 7, 10] (fun s _ i wr => ∃ k : Nat, k ≤ l.length ∧ i = .int .i64 k ∧ s = .int .i64 (loadTo l rank k) ∧ Below w.heap.size w wr) (fun s _ i _ => l.length - (intOf i).toNat)
  case atStart => exact ⟨0, Nat.zero_le _, rfl, rfl, Below.refl _ _⟩
  case round =>
    obtain ⟨k, hk, rfl, rfl, hbel⟩ := hrel
    have HB := Lib.hid hbel
    by_cases hlt : k < l.length
    · obtain ⟨b, off, rfl, hb1, hc0, hc1, hc2⟩ := Cons.rd (hr.below hbel (Nat.le_refl _)) hlt
      have z1 := hbel.size
      obtain ⟨e1, e2⟩ := loadTo_bd (rank := rank) G2.out k (by omega)
      obtain ⟨e3, e4⟩ := G2.out k hlt
      have e5 : (k : Int) * 1000000 ≤ 8000000 := by omega
      clear hbel
      by_cases hq : (nth l k).r ≤ rank
      · have HL := Lib.hid (show loadTo l rank (k + 1) = loadTo l rank k + (nth l k).w by simp [loadTo, hq])
        go_wp2_with fail
        go_roundw
        case rel => exact ⟨k + 1, by omega, by go_num, by rw [HL.out], (HB.out.trans (Below.mono (B := wr.heap.size) (by repeat (first | (with_reducible exact Below.refl _ _) | ((with_reducible refine alloc_ ?_ ?_); (focus (first | exact Nat.le_refl _ | (simp; done) | (simp; omega) | omega))) | ((with_reducible refine set_ ?_ ?_); (focus (first | exact Nat.le_refl _ | (simp; done) | (simp; omega) | omega))) | (with_reducible refine Below.drew ?_) | ((with_reducible refine after_ ?_ (by assumption) ?_); (rotate_left; (focus (first | exact Nat.le_refl _ | (simp; done) | (simp; omega) | omega)))))) z1))⟩
        case measure => simp [intOf]; omega
      · have HL := Lib.hid (show loadTo l rank (k + 1) = loadTo l rank k by simp [loadTo, hq])
        go_wp2_with fail
        go_roundw
        case rel => exact ⟨k + 1, by omega, by go_num, by rw [HL.out], (HB.out.trans (Below.mono (B := wr.heap.size) (by repeat (first | (with_reducible exact Below.refl _ _) | ((with_reducible refine alloc_ ?_ ?_); (focus (first | exact Nat.le_refl _ | (simp; done) | (simp; omega) | omega))) | ((with_reducible refine set_ ?_ ?_); (focus (first | exact Nat.le_refl _ | (simp; done) | (simp; omega) | omega))) | (with_reducible refine Below.drew ?_) | ((with_reducible refine after_ ?_ (by assumption) ?_); (rotate_left; (focus (first | exact Nat.le_refl _ | (simp; done) | (simp; omega) | omega)))))) z1))⟩
        case measure => simp [intOf]; omega
    · obtain rfl : k = l.length := by omega
      clear hbel
      go_wp2_with fail
      go_ret
      exact ⟨rfl, HB.out⟩
theorem l18Load_c (l : List Cons) (A : Option Addr) (cap : Nat) (rank : Int) (w : World) (hg : goodC l = true) (hr : Rd w w.heap.size 3 Cons.cells A l) :
    Calls Try.prog 49 #[.slice A l.length cap, .int .i64 rank] w fun e w' => e = .returned (.int .i64 (loadTo l rank l.length)) ∧ Below w.heap.size w w' := by
  obtain ⟨g1, g2⟩ := goodC_true hg
  have G2 := Lib.hid g2
  clear g2 hg
  go_enter Try.func49, Try.ntmps49
  go_wp2_with fail
  go_loopw [5, 6] (fun s i wr => ∃ k : Nat, k ≤ l.length ∧ i = .int .i64 k ∧ s = .int .i64 (loadTo l rank k) ∧ Below w.heap.size w wr) (fun s i _ => l.length - (intOf i).toNat)
  case atStart => exact ⟨0, Nat.zero_le _, rfl, rfl, Below.refl _ _⟩
  case round =>
    obtain ⟨k, hk, rfl, rfl, hbel⟩ := hrel
    have HB := Lib.hid hbel
    by_cases hlt : k < l.length
    · obtain ⟨b, off, rfl, hb1, hc0, hc1, hc2⟩ := Cons.rd (hr.below hbel (Nat.le_refl _)) hlt
      have z1 := hbel.size
      obtain ⟨e1, e2⟩ := loadTo_bd (rank := rank) G2.out k (by omega)
      obtain ⟨e3, e4⟩ := G2.out k hlt
      have e5 : (k : Int) * 1000000 ≤ 8000000 := by omega
      clear hbel
      by_cases hq : (nth l k).r ≤ rank
      · have HL := Lib.hid (show loadTo l rank (k + 1) = loadTo l rank k + (nth l k).w by simp [loadTo, hq])
        go_wp2_with fail
        go_roundw
        case rel => exact ⟨k + 1, by omega, by go_num, by rw [HL.out], (HB.out.trans (Below.mono (B := wr.heap.size) (by repeat (first | (with_reducible exact Below.refl _ _) | ((with_reducible refine alloc_ ?_ ?_); (focus (first | exact Nat.le_refl _ | (simp; done) | (simp; omega) | omega))) | ((with_reducible refine set_ ?_ ?_); (focus (first | exact Nat.le_refl _ | (simp; done) | (simp; omega) | omega))) | (with_reducible refine Below.drew ?_) | ((with_reducible refine after_ ?_ (by assumption) ?_); (rotate_left; (focus (first | exact Nat.le_refl _ | (simp; done) | (simp; omega) | omega)))))) z1))⟩
        case measure => simp [intOf]; omega
      · have HL := Lib.hid (show loadTo l rank (k + 1) = loadTo l rank k by simp [loadTo, hq])
        go_wp2_with fail
        go_roundw
        case rel => exact ⟨k + 1, by omega, by go_num, by rw [HL.out], (HB.out.trans (Below.mono (B := wr.heap.size) (by repeat (first | (with_reducible exact Below.refl _ _) | ((with_reducible refine alloc_ ?_ ?_); (focus (first | exact Nat.le_refl _ | (simp; done) | (simp; omega) | omega))) | ((with_reducible refine set_ ?_ ?_); (focus (first | exact Nat.le_refl _ | (simp; done) | (simp; omega) | omega))) | (with_reducible refine Below.drew ?_) | ((with_reducible refine after_ ?_ (by assumption) ?_); (rotate_left; (focus (first | exact Nat.le_refl _ | (simp; done) | (simp; omega) | omega)))))) z1))⟩
        case measure => simp [intOf]; omega
    · obtain rfl : k = l.length := by omega
      clear hbel
      go_wp2_with fail
      go_ret
      exact ⟨rfl, HB.out⟩
def emLoad (l : List Cons) (rank : Int) : Int × Bool := if goodC l && inR rank 1 9 then (loadTo l rank l.length, true) else (0, false)
theorem rett2 {p : Int × Bool} {a b : Int} {c d : Bool} (h : p = (b, d)) (h1 : a = b) (h2 : c = d) : Ending.returned (.tuple #[.int .i64 a, .bool c]) = .returned (.tuple #[.int .i64 p.1, .bool p.2]) := by rw [h, h1, h2]

theorem implEmergencyLoad_c (l : List Cons) (A : Option Addr) (cap : Nat) (rank : Int) (w : World) (hl : l.length ≤ 1048576) (hcap : l.length ≤ cap) (hs : ∀ i, i < l.length → (nth l i).n.size ≤ maxLen) (hr : Rd w w.heap.size 3 Cons.cells A l) :
    Calls Try.prog 30 #[.slice A l.length cap, .int .i64 rank] w fun e w' => e = .returned (.tuple #[.int .i64 (emLoad l rank).1, .bool (emLoad l rank).2]) ∧ Below w.heap.size w w' := by
  have HS := Lib.hid hs
  clear hs
  rcases hg : goodC l with _ | _
  · have H := Lib.hid (show emLoad l rank = (0, false) by simp [emLoad, hg])
    go_enter Try.func30, Try.ntmps30
    go_wp2_with fail
    refine (AreConsumers_c l _ _ _ hl hcap HS.out hr).mono ?_
    rintro e w1 ⟨rfl, hb1⟩
    go_wp2_with fail
    go_ret2
    exact ⟨rett2 H.out rfl rfl, hb1⟩
  · rcases h2 : inR rank 1 9 with _ | _
    · have H := Lib.hid (show emLoad l rank = (0, false) by simp [emLoad, h2])
      go_enter Try.func30, Try.ntmps30
      go_wp2_with fail
      refine (AreConsumers_c l _ _ _ hl hcap HS.out hr).mono ?_
      rintro e w1 ⟨rfl, hb1⟩
      go_wp2_with (first | (go_at_call 32; refine (within_c _ _ _ _).mono ?_; rintro e w' ⟨rfl, rfl⟩) | (go_at_call 33; refine (l1In_c _ _ _ _).mono ?_; rintro e w' ⟨rfl, rfl⟩))
      go_ret2
      exact ⟨rett2 H.out rfl rfl, hb1⟩
    · have H := Lib.hid (show emLoad l rank = (loadTo l rank l.length, true) by simp [emLoad, hg, h2])
      go_enter Try.func30, Try.ntmps30
      go_wp2_with fail
      refine (AreConsumers_c l _ _ _ hl hcap HS.out hr).mono ?_
      rintro e w1 ⟨rfl, hb1⟩
      have hr1 := hr.carry hb1
      go_wp2_with (first | (go_at_call 32; refine (within_c _ _ _ _).mono ?_; rintro e w' ⟨rfl, rfl⟩) | (go_at_call 33; refine (l1In_c _ _ _ _).mono ?_; rintro e w' ⟨rfl, rfl⟩))
      refine (emergencyLoad_c l _ _ _ _ hg hr1).mono ?_
      rintro e w2 ⟨rfl, hb2⟩
      go_wp2_with fail
      go_ret2
      exact ⟨rett2 H.out rfl rfl, hb1.trans (hb2.mono hb1.size)⟩
theorem specEmergencyLoad_c (l : List Cons) (A : Option Addr) (cap : Nat) (rank : Int) (w : World) (hl : l.length ≤ 1048576) (hcap : l.length ≤ cap) (hs : ∀ i, i < l.length → (nth l i).n.size ≤ maxLen) (hr : Rd w w.heap.size 3 Cons.cells A l) :
    Calls Try.prog 29 #[.slice A l.length cap, .int .i64 rank] w fun e w' => e = .returned (.tuple #[.int .i64 (emLoad l rank).1, .bool (emLoad l rank).2]) ∧ Below w.heap.size w w' := by
  have HS := Lib.hid hs
  clear hs
  rcases hg : goodC l with _ | _
  · have H := Lib.hid (show emLoad l rank = (0, false) by simp [emLoad, hg])
    go_enter Try.func29, Try.ntmps29
    go_wp2_with fail
    refine (l18Good_c l _ _ _ hl HS.out hr).mono ?_
    rintro e w1 ⟨rfl, hb1⟩
    go_wp2_with fail
    go_ret2
    exact ⟨rett2 H.out rfl rfl, hb1⟩
  · rcases h2 : inR rank 1 9 with _ | _
    · have H := Lib.hid (show emLoad l rank = (0, false) by simp [emLoad, h2])
      go_enter Try.func29, Try.ntmps29
      go_wp2_with fail
      refine (l18Good_c l _ _ _ hl HS.out hr).mono ?_
      rintro e w1 ⟨rfl, hb1⟩
      go_wp2_with (first | (go_at_call 32; refine (within_c _ _ _ _).mono ?_; rintro e w' ⟨rfl, rfl⟩) | (go_at_call 33; refine (l1In_c _ _ _ _).mono ?_; rintro e w' ⟨rfl, rfl⟩))
      go_ret2
      exact ⟨rett2 H.out rfl rfl, hb1⟩
    · have H := Lib.hid (show emLoad l rank = (loadTo l rank l.length, true) by simp [emLoad, hg, h2])
      go_enter Try.func29, Try.ntmps29
      go_wp2_with fail
      refine (l18Good_c l _ _ _ hl HS.out hr).mono ?_
      rintro e w1 ⟨rfl, hb1⟩
      have hr1 := hr.carry hb1
      go_wp2_with (first | (go_at_call 32; refine (within_c _ _ _ _).mono ?_; rintro e w' ⟨rfl, rfl⟩) | (go_at_call 33; refine (l1In_c _ _ _ _).mono ?_; rintro e w' ⟨rfl, rfl⟩))
      refine (l18Load_c l _ _ _ _ hg hr1).mono ?_
      rintro e w2 ⟨rfl, hb2⟩
      go_wp2_with fail
      go_ret2
      exact ⟨rett2 H.out rfl rfl, hb1.trans (hb2.mono hb1.size)⟩
theorem specAreConsumers_c (l : List Cons) (A : Option Addr) (cap : Nat) (w : World) (hl : l.length ≤ 1048576) (hs : ∀ i, i < l.length → (nth l i).n.size ≤ maxLen) (hr : Rd w w.heap.size 3 Cons.cells A l) :
    Calls Try.prog 25 #[.slice A l.length cap] w fun e w' => e = .returned (.bool (goodC l)) ∧ Below w.heap.size w w' := by
  have HS := Lib.hid hs
  clear hs
  go_enter Try.func25, Try.ntmps25
  go_wp2_with fail
  refine (l18Good_c l _ _ _ hl HS.out hr).mono ?_
  rintro e w1 ⟨rfl, hb1⟩
  go_wp2_with fail
  go_ret
  exact ⟨rfl, hb1⟩
end Go.Proofs.Ytjlgembpaalijaa
