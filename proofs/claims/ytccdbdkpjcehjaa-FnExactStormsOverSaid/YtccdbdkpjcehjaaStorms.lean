/- StormsOver of the program and of the reference return one Lean function; no conditions but the length. -/
import Derived.Test.YtccdbdkpjcehjaaWinds
namespace Go.Proofs.Ytccdbdkpjcehjaa
open Go.RowKit

theorem retbb {p : Bool × Bool} {a b c d : Bool} (h : p = (b, d)) (h1 : a = b) (h2 : c = d) : Ending.returned (.tuple #[.bool a, .bool c]) = .returned (.tuple #[.bool p.1, .bool p.2]) := by rw [h, h1, h2]
def cntTo (l : List Wea) (f t : Int) : Nat → Int
  | 0 => 0
  | k + 1 => if inR (nth l k).m f t then cntTo l f t k + 1 else cntTo l f t k
def overTo (l : List Wea) (f t : Int) (k : Nat) : Bool := allTo k fun i => !inR (nth l i).m f t || !(nth l i).s
theorem overTo_s {l : List Wea} {f t : Int} {k : Nat} : overTo l f t (k + 1) = (overTo l f t k && (!inR (nth l k).m f t || !(nth l k).s)) := by
  simp [overTo, allTo, List.range_succ]
theorem overTo_no {l : List Wea} {f t : Int} {n k : Nat} (hk : k < n) (h1 : inR (nth l k).m f t = true) (h2 : (nth l k).s = true) : overTo l f t n = false :=
  allTo_no (p := fun i => !inR (nth l i).m f t || !(nth l i).s) hk (by simp [h1, h2])
def okO (l : List Wea) (m wt : Int) : Bool := goodW l && inR m 0 9999 && inR wt 0 600
def storms (l : List Wea) (m wt : Int) : Bool × Bool := if okO l m wt then (overTo l (m - wt) m l.length && decide (0 < cntTo l (m - wt) m l.length), true) else (false, false)
theorem cntTo_bd {l : List Wea} {f t : Int} : ∀ k, 0 ≤ cntTo l f t k ∧ cntTo l f t k ≤ k
  | 0 => by simp [cntTo]
  | k + 1 => by
    have h1 := cntTo_bd (l := l) (f := f) (t := t) k
    simp only [cntTo]
    split <;> omega

theorem implStormsOver_c (l : List Wea) (A : Option Addr) (cap : Nat) (m wt : Int) (w : World) (hl : l.length ≤ 1048576) (hr : Rd w w.heap.size 5 Wea.cells A l) :
    Calls Try.prog 22 #[.slice A l.length cap, .int .i64 m, .int .i64 wt] w fun e w' => e = .returned (.tuple #[.bool (storms l m wt).1, .bool (storms l m wt).2]) ∧ Below w.heap.size w w' := by
  have hfalse : okO l m wt = false → storms l m wt = (false, false) := fun h => by simp [storms, h]
  rcases hg : goodW l with _ | _
  · have H := Lib.hid (hfalse (by simp [okO, hg]))
    clear hfalse
    go_enter Try.func22, Try.ntmps22
    go_wp2_with fail
    refine (AreRecords_c l _ _ _ hl hr).mono ?_
    rintro e w1 ⟨rfl, hb1⟩
    go_wp2_with fail
    go_ret2
    exact ⟨retbb H.out rfl rfl, hb1⟩
  rcases h1 : inR m 0 9999 with _ | _
  · have H := Lib.hid (hfalse (by simp [okO, h1]))
    clear hfalse
    go_enter Try.func22, Try.ntmps22
    go_wp2_with fail
    refine (AreRecords_c l _ _ _ hl hr).mono ?_
    rintro e w1 ⟨rfl, hb1⟩
    go_wp2_with (first | (go_at_call 37; refine (within_c _ _ _ _).mono ?_; rintro e w' ⟨rfl, rfl⟩) | (go_at_call 40; refine (l1In_c _ _ _ _).mono ?_; rintro e w' ⟨rfl, rfl⟩) | (go_at_call 39; refine (l17Minute_c _ _).mono ?_; rintro e w' ⟨rfl, rfl⟩))
    go_ret2
    exact ⟨retbb H.out rfl rfl, hb1⟩
  rcases h2 : inR wt 0 600 with _ | _
  · have H := Lib.hid (hfalse (by simp [okO, h2]))
    clear hfalse
    go_enter Try.func22, Try.ntmps22
    go_wp2_with fail
    refine (AreRecords_c l _ _ _ hl hr).mono ?_
    rintro e w1 ⟨rfl, hb1⟩
    go_wp2_with (first | (go_at_call 37; refine (within_c _ _ _ _).mono ?_; rintro e w' ⟨rfl, rfl⟩) | (go_at_call 40; refine (l1In_c _ _ _ _).mono ?_; rintro e w' ⟨rfl, rfl⟩) | (go_at_call 39; refine (l17Minute_c _ _).mono ?_; rintro e w' ⟨rfl, rfl⟩))
    go_ret2
    exact ⟨retbb H.out rfl rfl, hb1⟩
  clear hfalse
  have H := Lib.hid (show storms l m wt = (overTo l (m - wt) m l.length && decide (0 < cntTo l (m - wt) m l.length), true) by simp [storms, okO, hg, h1, h2])
  obtain ⟨q1, q2⟩ := inR_true.1 h1
  obtain ⟨q3, q4⟩ := inR_true.1 h2
  go_enter Try.func22, Try.ntmps22
  go_wp2_with fail
  refine (AreRecords_c l _ _ _ hl hr).mono ?_
  rintro e w1 ⟨rfl, hb1⟩
  have hr1 := hr.carry hb1
  have HB1 := Lib.hid hb1
  clear hb1
  go_wp2_with (first | (go_at_call 37; refine (within_c _ _ _ _).mono ?_; rintro e w' ⟨rfl, rfl⟩) | (go_at_call 40; refine (l1In_c _ _ _ _).mono ?_; rintro e w' ⟨rfl, rfl⟩) | (go_at_call 39; refine (l17Minute_c _ _).mono ?_; rintro e w' ⟨rfl, rfl⟩))
  clear h1 h2 hg
  go_loopw [8, 10, 26] (fun s _ i wr => ∃ k : Nat, k ≤ l.length ∧ i = .int .i64 k ∧ s = .int .i64 (cntTo l (m - wt) m k) ∧ overTo l (m - wt) m k = true ∧ Below w1.heap.size w1 wr) (fun _ _ i _ => l.length - (intOf i).toNat)
  case atStart => exact ⟨0, Nat.zero_le _, rfl, rfl, rfl, Below.refl _ _⟩
  case round =>
    obtain ⟨k, hk, rfl, rfl, hov, hbel⟩ := hrel
    have HB := Lib.hid hbel
    have HO := Lib.hid hov
    obtain ⟨b1, b2⟩ := cntTo_bd (l := l) (f := m - wt) (t := m) k
    clear hov
    by_cases hlt : k < l.length
    · obtain ⟨b, off, rfl, hb1, hcs⟩ := Wea.rd (hr1.below hbel (Nat.le_refl _)) hlt
      have z1 := hbel.size
      clear hbel
      rcases hq : inR (nth l k).m (m - wt) m with _ | _
      · have HL := Lib.hid (show cntTo l (m - wt) m (k + 1) = cntTo l (m - wt) m k by simp [cntTo, hq])
        have HO2 := Lib.hid (show overTo l (m - wt) m (k + 1) = true by simp [overTo_s, HO.out, hq])
        go_wp2_with (first | (go_at_call 37; refine (within_c _ _ _ _).mono ?_; rintro e w' ⟨rfl, rfl⟩))
        go_roundw
        case rel => exact ⟨k + 1, by omega, by go_num, by rw [HL.out], HO2.out, (HB.out.trans (Below.mono (B := wr.heap.size) (by repeat (first | (with_reducible exact Below.refl _ _) | ((with_reducible refine alloc_ ?_ ?_); (focus (first | exact Nat.le_refl _ | (simp; done) | (simp; omega) | omega))) | ((with_reducible refine set_ ?_ ?_); (focus (first | exact Nat.le_refl _ | (simp; done) | (simp; omega) | omega))) | (with_reducible refine Below.drew ?_) | ((with_reducible refine after_ ?_ (by assumption) ?_); (rotate_left; (focus (first | exact Nat.le_refl _ | (simp; done) | (simp; omega) | omega)))))) z1))⟩
        case measure => simp [intOf]; omega
      rcases hs : (nth l k).s with _ | _
      · have HL := Lib.hid (show cntTo l (m - wt) m (k + 1) = cntTo l (m - wt) m k + 1 by simp [cntTo, hq])
        have HO2 := Lib.hid (show overTo l (m - wt) m (k + 1) = true by simp [overTo_s, HO.out, hs])
        go_wp2_with (first | (go_at_call 37; refine (within_c _ _ _ _).mono ?_; rintro e w' ⟨rfl, rfl⟩))
        go_roundw
        case rel => exact ⟨k + 1, by omega, by go_num, by rw [HL.out], HO2.out, (HB.out.trans (Below.mono (B := wr.heap.size) (by repeat (first | (with_reducible exact Below.refl _ _) | ((with_reducible refine alloc_ ?_ ?_); (focus (first | exact Nat.le_refl _ | (simp; done) | (simp; omega) | omega))) | ((with_reducible refine set_ ?_ ?_); (focus (first | exact Nat.le_refl _ | (simp; done) | (simp; omega) | omega))) | (with_reducible refine Below.drew ?_) | ((with_reducible refine after_ ?_ (by assumption) ?_); (rotate_left; (focus (first | exact Nat.le_refl _ | (simp; done) | (simp; omega) | omega)))))) z1))⟩
        case measure => simp [intOf]; omega
      · have HO2 := Lib.hid (overTo_no hlt hq hs)
        go_wp2_with (first | (go_at_call 37; refine (within_c _ _ _ _).mono ?_; rintro e w' ⟨rfl, rfl⟩))
        go_ret2
        exact ⟨retbb H.out (by rw [HO2.out]; rfl) rfl, HB1.out.trans (Below.mono (HB.out.trans (Below.mono (B := wr.heap.size) (by repeat (first | (with_reducible exact Below.refl _ _) | ((with_reducible refine alloc_ ?_ ?_); (focus (first | exact Nat.le_refl _ | (simp; done) | (simp; omega) | omega))) | ((with_reducible refine set_ ?_ ?_); (focus (first | exact Nat.le_refl _ | (simp; done) | (simp; omega) | omega))) | (with_reducible refine Below.drew ?_) | ((with_reducible refine after_ ?_ (by assumption) ?_); (rotate_left; (focus (first | exact Nat.le_refl _ | (simp; done) | (simp; omega) | omega)))))) z1)) HB1.out.size)⟩
    · obtain rfl : k = l.length := by omega
      have HE := Lib.hid (HB1.out.trans (HB.out.mono HB1.out.size))
      clear hbel
      go_wp2_with fail
      go_ret2
      exact ⟨retbb H.out (by rw [HO.out]; simp) rfl, HE.out⟩

theorem specStormsOver_c (l : List Wea) (A : Option Addr) (cap : Nat) (m wt : Int) (w : World) (hl : l.length ≤ 1048576) (hr : Rd w w.heap.size 5 Wea.cells A l) :
    Calls Try.prog 21 #[.slice A l.length cap, .int .i64 m, .int .i64 wt] w fun e w' => e = .returned (.tuple #[.bool (storms l m wt).1, .bool (storms l m wt).2]) ∧ Below w.heap.size w w' := by
  have hfalse : okO l m wt = false → storms l m wt = (false, false) := fun h => by simp [storms, h]
  rcases hg : goodW l with _ | _
  · have H := Lib.hid (hfalse (by simp [okO, hg]))
    clear hfalse
    go_enter Try.func21, Try.ntmps21
    go_wp2_with fail
    refine (l17Good_c l _ _ _ hl hr).mono ?_
    rintro e w1 ⟨rfl, hb1⟩
    go_wp2_with fail
    go_ret2
    exact ⟨retbb H.out rfl rfl, hb1⟩
  rcases h1 : inR m 0 9999 with _ | _
  · have H := Lib.hid (hfalse (by simp [okO, h1]))
    clear hfalse
    go_enter Try.func21, Try.ntmps21
    go_wp2_with fail
    refine (l17Good_c l _ _ _ hl hr).mono ?_
    rintro e w1 ⟨rfl, hb1⟩
    go_wp2_with (first | (go_at_call 37; refine (within_c _ _ _ _).mono ?_; rintro e w' ⟨rfl, rfl⟩) | (go_at_call 40; refine (l1In_c _ _ _ _).mono ?_; rintro e w' ⟨rfl, rfl⟩) | (go_at_call 39; refine (l17Minute_c _ _).mono ?_; rintro e w' ⟨rfl, rfl⟩))
    go_ret2
    exact ⟨retbb H.out rfl rfl, hb1⟩
  rcases h2 : inR wt 0 600 with _ | _
  · have H := Lib.hid (hfalse (by simp [okO, h2]))
    clear hfalse
    go_enter Try.func21, Try.ntmps21
    go_wp2_with fail
    refine (l17Good_c l _ _ _ hl hr).mono ?_
    rintro e w1 ⟨rfl, hb1⟩
    go_wp2_with (first | (go_at_call 37; refine (within_c _ _ _ _).mono ?_; rintro e w' ⟨rfl, rfl⟩) | (go_at_call 40; refine (l1In_c _ _ _ _).mono ?_; rintro e w' ⟨rfl, rfl⟩) | (go_at_call 39; refine (l17Minute_c _ _).mono ?_; rintro e w' ⟨rfl, rfl⟩))
    go_ret2
    exact ⟨retbb H.out rfl rfl, hb1⟩
  clear hfalse
  have H := Lib.hid (show storms l m wt = (overTo l (m - wt) m l.length && decide (0 < cntTo l (m - wt) m l.length), true) by simp [storms, okO, hg, h1, h2])
  obtain ⟨q1, q2⟩ := inR_true.1 h1
  obtain ⟨q3, q4⟩ := inR_true.1 h2
  go_enter Try.func21, Try.ntmps21
  go_wp2_with fail
  refine (l17Good_c l _ _ _ hl hr).mono ?_
  rintro e w1 ⟨rfl, hb1⟩
  have hr1 := hr.carry hb1
  have HB1 := Lib.hid hb1
  clear hb1
  go_wp2_with (first | (go_at_call 37; refine (within_c _ _ _ _).mono ?_; rintro e w' ⟨rfl, rfl⟩) | (go_at_call 40; refine (l1In_c _ _ _ _).mono ?_; rintro e w' ⟨rfl, rfl⟩) | (go_at_call 39; refine (l17Minute_c _ _).mono ?_; rintro e w' ⟨rfl, rfl⟩))
  clear h1 h2 hg
  go_loopw [8, 9, 10] (fun s o i wr => ∃ k : Nat, k ≤ l.length ∧ i = .int .i64 k ∧ s = .int .i64 (cntTo l (m - wt) m k) ∧ o = .bool (overTo l (m - wt) m k) ∧ Below w1.heap.size w1 wr) (fun _ _ i _ => l.length - (intOf i).toNat)
  case atStart => exact ⟨0, Nat.zero_le _, rfl, rfl, rfl, Below.refl _ _⟩
  case round =>
    obtain ⟨k, hk, rfl, rfl, rfl, hbel⟩ := hrel
    have HB := Lib.hid hbel
    obtain ⟨b1, b2⟩ := cntTo_bd (l := l) (f := m - wt) (t := m) k
    by_cases hlt : k < l.length
    · obtain ⟨b, off, rfl, hb1, hcs⟩ := Wea.rd (hr1.below hbel (Nat.le_refl _)) hlt
      have z1 := hbel.size
      clear hbel
      rcases hq : inR (nth l k).m (m - wt) m with _ | _
      · have HL := Lib.hid (show cntTo l (m - wt) m (k + 1) = cntTo l (m - wt) m k by simp [cntTo, hq])
        have HO2 := Lib.hid (show overTo l (m - wt) m (k + 1) = overTo l (m - wt) m k by simp [overTo_s, hq])
        go_wp2_with (first | (go_at_call 40; refine (l1In_c _ _ _ _).mono ?_; rintro e w' ⟨rfl, rfl⟩))
        go_roundw
        case rel => exact ⟨k + 1, by omega, by go_num, by rw [HL.out], by rw [HO2.out], (HB.out.trans (Below.mono (B := wr.heap.size) (by repeat (first | (with_reducible exact Below.refl _ _) | ((with_reducible refine alloc_ ?_ ?_); (focus (first | exact Nat.le_refl _ | (simp; done) | (simp; omega) | omega))) | ((with_reducible refine set_ ?_ ?_); (focus (first | exact Nat.le_refl _ | (simp; done) | (simp; omega) | omega))) | (with_reducible refine Below.drew ?_) | ((with_reducible refine after_ ?_ (by assumption) ?_); (rotate_left; (focus (first | exact Nat.le_refl _ | (simp; done) | (simp; omega) | omega)))))) z1))⟩
        case measure => simp [intOf]; omega
      have HL := Lib.hid (show cntTo l (m - wt) m (k + 1) = cntTo l (m - wt) m k + 1 by simp [cntTo, hq])
      have HO2 := Lib.hid (show overTo l (m - wt) m (k + 1) = (overTo l (m - wt) m k && !(nth l k).s) by simp [overTo_s, hq])
      rcases ho : overTo l (m - wt) m k with _ | _
      · have HO := Lib.hid ho
        go_wp2_with (first | (go_at_call 40; refine (l1In_c _ _ _ _).mono ?_; rintro e w' ⟨rfl, rfl⟩))
        go_roundw
        case rel => exact ⟨k + 1, by omega, by go_num, by rw [HL.out], by rw [HO2.out, HO.out]; rfl, (HB.out.trans (Below.mono (B := wr.heap.size) (by repeat (first | (with_reducible exact Below.refl _ _) | ((with_reducible refine alloc_ ?_ ?_); (focus (first | exact Nat.le_refl _ | (simp; done) | (simp; omega) | omega))) | ((with_reducible refine set_ ?_ ?_); (focus (first | exact Nat.le_refl _ | (simp; done) | (simp; omega) | omega))) | (with_reducible refine Below.drew ?_) | ((with_reducible refine after_ ?_ (by assumption) ?_); (rotate_left; (focus (first | exact Nat.le_refl _ | (simp; done) | (simp; omega) | omega)))))) z1))⟩
        case measure => simp [intOf]; omega
      · have HO := Lib.hid ho
        go_wp2_with (first | (go_at_call 40; refine (l1In_c _ _ _ _).mono ?_; rintro e w' ⟨rfl, rfl⟩))
        go_roundw
        case rel => exact ⟨k + 1, by omega, by go_num, by rw [HL.out], by rw [HO2.out, HO.out]; simp, (HB.out.trans (Below.mono (B := wr.heap.size) (by repeat (first | (with_reducible exact Below.refl _ _) | ((with_reducible refine alloc_ ?_ ?_); (focus (first | exact Nat.le_refl _ | (simp; done) | (simp; omega) | omega))) | ((with_reducible refine set_ ?_ ?_); (focus (first | exact Nat.le_refl _ | (simp; done) | (simp; omega) | omega))) | (with_reducible refine Below.drew ?_) | ((with_reducible refine after_ ?_ (by assumption) ?_); (rotate_left; (focus (first | exact Nat.le_refl _ | (simp; done) | (simp; omega) | omega)))))) z1))⟩
        case measure => simp [intOf]; omega
    · obtain rfl : k = l.length := by omega
      have HE := Lib.hid (HB1.out.trans (HB.out.mono HB1.out.size))
      clear hbel
      rcases ho : overTo l (m - wt) m l.length with _ | _
      · have HO := Lib.hid ho
        go_wp2_with fail
        go_ret2
        exact ⟨retbb H.out (by rw [HO.out]; rfl) rfl, HE.out⟩
      · have HO := Lib.hid ho
        go_wp2_with fail
        go_ret2
        exact ⟨retbb H.out (by rw [HO.out]; simp) rfl, HE.out⟩
end Go.Proofs.Ytccdbdkpjcehjaa
