/- The test whether a queue is valid and all groups fit: the program's and the reference's return one Lean function; no conditions but the length. -/
import Derived.Test.YtalabohacedgnaaSplit
namespace Go.Proofs.Ytalabohacedgnaa
open Go.RowKit

def fitG (l : List Gro) (s : Int) : Bool := goodG l && inR s 1 10 && allTo l.length fun i => decide ((nth l i).s ≤ s)
theorem fitG_true {l : List Gro} {s : Int} (h : fitG l s = true) : (l.length ≤ 12 ∧ ∀ i, i < l.length → 1 ≤ (nth l i).s ∧ (nth l i).s ≤ 8) ∧ (1 ≤ s ∧ s ≤ 10) ∧ ∀ i, i < l.length → (nth l i).s ≤ s := by
  simp only [fitG, Bool.and_eq_true, allTo_true, decide_eq_true_eq] at h
  exact ⟨goodG_true h.1.1, inR_true.1 h.1.2, h.2⟩
theorem fitsClo_c (x : Gro) (g : Nat) (s : Int) (w : World) (hc : w.cell? ⟨g, 0, none⟩ = some (.int .i64 s)) (hg : g < w.heap.size) : Calls Try.prog 77 #[.agg #[.int .i64 x.s, .bool x.q], .pointer (some ⟨g, 0, none⟩)] w fun e w' => e = .returned (.bool (decide (s < x.s))) ∧ Below w.heap.size w w' := by
  have l3 : g ≠ w.heap.size := by omega
  go_enter Try.func77, Try.ntmps77
  go_wp2_with fail
  go_ret
  exact ⟨rfl, (by repeat (first | (with_reducible exact Below.refl _ _) | ((with_reducible refine alloc_ ?_ ?_); (focus (first | exact Nat.le_refl _ | (simp; done) | (simp; omega) | omega))) | ((with_reducible refine set_ ?_ ?_); (focus (first | exact Nat.le_refl _ | (simp; done) | (simp; omega) | omega))) | (with_reducible refine Below.drew ?_) | ((with_reducible refine after_ ?_ (by assumption) ?_); (rotate_left; (focus (first | exact Nat.le_refl _ | (simp; done) | (simp; omega) | omega))))))⟩
def Foundfits (l : List Gro) (p : Gro → Bool) (w : World) (e : Ending) (w' : World) : Prop := ∃ r : Int, e = .returned (.int .i64 r) ∧ decide (0 ≤ r) = anyTo l.length (fun j => p (nth l j)) ∧ Below w.heap.size w w'
theorem fitsIndex_c (l : List Gro) (A : Option Addr) (n cap : Nat) (w : World) (hn : n = l.length) (hl : l.length ≤ maxLen) (hr : Rd w w.heap.size 2 Gro.cells A l) (g : Nat) (p : Gro → Bool)
    (hclo : ∀ (x : Gro) (w' : World), Below w.heap.size w w' → Calls Try.prog 77 #[.agg #[.int .i64 x.s, .bool x.q], .pointer (some ⟨g, 0, none⟩)] w' fun e w'' => e = .returned (.bool (p x)) ∧ Below w'.heap.size w' w'') :
    Calls Try.prog 75 #[.slice A n cap, .func (.func 77) #[] #[.pointer (some ⟨g, 0, none⟩)]] w (Foundfits l p w) := by
  subst hn
  have HC := Lib.hid hclo
  clear hclo
  unfold maxLen at hl
  go_enter Try.func75, Try.ntmps75
  go_wp2_with fail
  go_loopw [5, 8] (fun _ i wr => ∃ k : Nat, k ≤ l.length ∧ i = .int .i64 k ∧ (∀ j, j < k → p (nth l j) = false) ∧ Below w.heap.size w wr) (fun _ i _ => l.length - (intOf i).toNat)
  case atStart => exact ⟨0, Nat.zero_le _, rfl, fun j hj => absurd hj (by omega), Below.refl _ _⟩
  case round =>
    obtain ⟨k, hk, rfl, hall, hbel⟩ := hrel
    have HB := Lib.hid hbel
    have HA := Lib.hid hall
    clear hall
    by_cases hlt : k < l.length
    · obtain ⟨b, off, rfl, hb1, hcs⟩ := Gro.rd (hr.below hbel (Nat.le_refl _)) hlt
      have z1 := hbel.size
      clear hbel
      go_wp2_with fail
      refine (HC.out (nth l k) _ HB.out).mono ?_
      rintro e w1 ⟨rfl, hb2⟩
      have HB2 := Lib.hid (HB.out.trans (hb2.mono z1))
      clear hb2
      rcases hp : p (nth l k) with _ | _
      · go_wp2_with fail
        go_roundw
        case rel => exact ⟨k + 1, by omega, by go_num, below_add HA.out hp, HB2.out⟩
        case measure => simp [intOf]; omega
      · go_wp2_with fail
        go_ret
        exact ⟨k, rfl, by rw [anyTo_yes hlt hp]; simp, HB2.out⟩
    · clear hbel
      obtain rfl : k = l.length := by omega
      go_wp2_with fail
      go_ret
      exact ⟨-1, rfl, by rw [anyTo_none HA.out]; rfl, HB.out⟩
theorem fitsContains_c (l : List Gro) (A : Option Addr) (n cap : Nat) (w : World) (hn : n = l.length) (hl : l.length ≤ maxLen) (hr : Rd w w.heap.size 2 Gro.cells A l) (g : Nat) (p : Gro → Bool)
    (hclo : ∀ (x : Gro) (w' : World), Below w.heap.size w w' → Calls Try.prog 77 #[.agg #[.int .i64 x.s, .bool x.q], .pointer (some ⟨g, 0, none⟩)] w' fun e w'' => e = .returned (.bool (p x)) ∧ Below w'.heap.size w' w'') :
    Calls Try.prog 53 #[.slice A n cap, .func (.func 77) #[] #[.pointer (some ⟨g, 0, none⟩)]] w fun e w' => e = .returned (.bool (anyTo l.length fun j => p (nth l j))) ∧ Below w.heap.size w w' := by
  subst hn
  have HC := Lib.hid hclo
  clear hclo
  go_enter Try.func53, Try.ntmps53
  go_wp2_with fail
  refine (fitsIndex_c l _ _ _ _ rfl hl hr _ p HC.out).mono ?_
  rintro e w1 ⟨r, rfl, hd, hb1⟩
  have HD := Lib.hid hd
  clear hd
  go_wp2_with fail
  go_ret
  exact ⟨retb HD.out, hb1⟩
theorem anyTo_fit {l : List Gro} {s : Int} : (!anyTo l.length fun j => decide (s < (nth l j).s)) = allTo l.length fun i => decide ((nth l i).s ≤ s) := by
  rw [anyTo, Bool.not_not]
  rw [Bool.eq_iff_iff, allTo_true, allTo_true]
  exact ⟨fun h i hi => by have := h i hi; simp at this ⊢; omega, fun h i hi => by have := h i hi; simp at this ⊢; omega⟩
theorem fits_c (l : List Gro) (A : Option Addr) (cap : Nat) (s : Int) (w : World) (hl : l.length ≤ 1048576) (hr : Rd w w.heap.size 2 Gro.cells A l) :
    Calls Try.prog 63 #[.slice A l.length cap, .int .i64 s] w fun e w' => e = .returned (.bool (fitG l s)) ∧ Below w.heap.size w w' := by
  have hx := Box.new w [.int .i64 s] 3
  rcases hg : goodG l with _ | _
  · have H := Lib.hid (show fitG l s = false by simp [fitG, hg])
    go_enter Try.func63, Try.ntmps63
    go_wp2_with fail
    refine (IsQueue_c l _ _ _ hl (hr.alloc _)).mono ?_
    rintro e w1 ⟨rfl, hb1⟩
    go_wp2_with fail
    go_ret
    exact ⟨retb H.out.symm, (by repeat (first | (with_reducible exact Below.refl _ _) | ((with_reducible refine alloc_ ?_ ?_); (focus (first | exact Nat.le_refl _ | (simp; done) | (simp; omega) | omega))) | ((with_reducible refine set_ ?_ ?_); (focus (first | exact Nat.le_refl _ | (simp; done) | (simp; omega) | omega))) | (with_reducible refine Below.drew ?_) | ((with_reducible refine after_ ?_ (by assumption) ?_); (rotate_left; (focus (first | exact Nat.le_refl _ | (simp; done) | (simp; omega) | omega))))))⟩
  rcases hs : inR s 1 10 with _ | _
  · have H := Lib.hid (show fitG l s = false by simp [fitG, hs])
    go_enter Try.func63, Try.ntmps63
    go_wp2_with fail
    refine (IsQueue_c l _ _ _ hl (hr.alloc _)).mono ?_
    rintro e w1 ⟨rfl, hb1⟩
    have hx1 := (hx.carry hb1).cell (j := 0) rfl
    go_wp2_with (go_at_call 60; refine (isSeats_c _ _).mono ?_; rintro e w' ⟨rfl, rfl⟩)
    go_ret
    exact ⟨retb H.out.symm, (by repeat (first | (with_reducible exact Below.refl _ _) | ((with_reducible refine alloc_ ?_ ?_); (focus (first | exact Nat.le_refl _ | (simp; done) | (simp; omega) | omega))) | ((with_reducible refine set_ ?_ ?_); (focus (first | exact Nat.le_refl _ | (simp; done) | (simp; omega) | omega))) | (with_reducible refine Below.drew ?_) | ((with_reducible refine after_ ?_ (by assumption) ?_); (rotate_left; (focus (first | exact Nat.le_refl _ | (simp; done) | (simp; omega) | omega))))))⟩
  have H := Lib.hid (show fitG l s = !anyTo l.length fun j => decide (s < (nth l j).s) by rw [fitG, hg, hs, anyTo_fit]; rfl)
  have hl12 := (goodG_true hg).1
  go_enter Try.func63, Try.ntmps63
  go_wp2_with fail
  refine (IsQueue_c l _ _ _ hl (hr.alloc _)).mono ?_
  rintro e w1 ⟨rfl, hb1⟩
  have hX1 := hx.carry hb1
  have hx1 := hX1.cell (j := 0) rfl
  have HX1 := Lib.hid hX1
  have hr1 := (hr.alloc (.cells #[.int .i64 s] 3)).carry hb1
  have HB1 := Lib.hid (show Below w.heap.size w w1 from (by repeat (first | (with_reducible exact Below.refl _ _) | ((with_reducible refine alloc_ ?_ ?_); (focus (first | exact Nat.le_refl _ | (simp; done) | (simp; omega) | omega))) | ((with_reducible refine set_ ?_ ?_); (focus (first | exact Nat.le_refl _ | (simp; done) | (simp; omega) | omega))) | (with_reducible refine Below.drew ?_) | ((with_reducible refine after_ ?_ (by assumption) ?_); (rotate_left; (focus (first | exact Nat.le_refl _ | (simp; done) | (simp; omega) | omega)))))))
  clear hx hX1 hb1
  go_wp2_with (go_at_call 60; refine (isSeats_c _ _).mono ?_; rintro e w' ⟨rfl, rfl⟩)
  refine (fitsContains_c l _ _ _ _ rfl (by unfold maxLen; omega) hr1 w.heap.size (fun x => decide (s < x.s)) (fun x w' hb => fitsClo_c x _ s w' ((HX1.out.carry hb).cell (j := 0) rfl) (HX1.out.carry hb).lt)).mono ?_
  rintro e w2 ⟨rfl, hb2⟩
  have HB2 := Lib.hid (HB1.out.trans (hb2.mono HB1.out.size))
  clear hb2 hg hs
  go_wp2_with fail
  go_ret
  exact ⟨retb H.out.symm, HB2.out⟩
theorem l13Asked_c (l : List Gro) (A : Option Addr) (cap : Nat) (s : Int) (w : World) (hl : l.length ≤ 1048576) (hr : Rd w w.heap.size 2 Gro.cells A l) :
    Calls Try.prog 61 #[.slice A l.length cap, .int .i64 s] w fun e w' => e = .returned (.bool (fitG l s)) ∧ w = w' := by
  go_enter Try.func61, Try.ntmps61
  go_wp2_with fail
  go_loop [5] (fun i => ∃ k : Nat, k ≤ l.length ∧ i = .int .i64 k ∧ ∀ j, j < k → decide ((nth l j).s ≤ s) = true) (fun i => l.length - (intOf i).toNat)
  case atStart => exact ⟨0, Nat.zero_le _, rfl, fun j hj => absurd hj (by omega)⟩
  case round =>
    obtain ⟨k, hk, rfl, hall⟩ := hrel
    have HA := Lib.hid hall
    clear hall
    by_cases hlt : k < l.length
    · obtain ⟨b, off, rfl, hb1, hcs⟩ := Gro.rd hr hlt
      by_cases h1 : s < (nth l k).s
      · have H := Lib.hid (show fitG l s = false by
          have := allTo_no (p := fun i => decide ((nth l i).s ≤ s)) hlt (by simp; omega)
          simp [fitG, this])
        go_wp2_with fail
        go_ret
        exact ⟨retb H.out.symm, rfl⟩
      · have H := Lib.hid (show decide ((nth l k).s ≤ s) = true by simp; omega)
        go_wp2_with fail
        go_round
        case rel => exact ⟨k + 1, by omega, by go_num, below_add HA.out H.out⟩
        case measure => simp [intOf]; omega
    · obtain rfl : k = l.length := by omega
      have H := Lib.hid (show fitG l s = (goodG l && inR s 1 10) by simp only [fitG, allTo_true.2 HA.out, Bool.and_true])
      go_wp2_with (first | (go_at_call 51; refine (l13Queue_c l _ _ _ hl hr).mono ?_; rintro e w' ⟨rfl, rfl⟩) | (go_at_call 58; refine (l1In_c _ _ _ _).mono ?_; rintro e w' ⟨rfl, rfl⟩))
      all_goals (go_ret; exact ⟨retb (by rw [H.out]; simp [*]), rfl⟩)
end Go.Proofs.Ytalabohacedgnaa
