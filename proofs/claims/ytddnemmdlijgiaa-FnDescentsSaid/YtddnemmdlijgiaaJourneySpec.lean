/- IsJourney of the reference returns the same Lean function; no conditions but the lengths. -/
import Derived.Test.YtddnemmdlijgiaaJourney
namespace Go.Proofs.Ytddnemmdlijgiaa
open Go.RowKit

theorem specIsJourney_c (l : List Rid) (js : List Int) (A B : Option Addr) (cap cap' : Nat) (f t : Int) (w : World) (hl : l.length ≤ 1048576) (hj : js.length ≤ 1048576) (hr : Rd w w.heap.size 5 Rid.cells A l) (hs : Rd w w.heap.size 1 intCells B js) :
    Calls Try.prog 21 #[.slice A l.length cap, .slice B js.length cap', .int .i64 f, .int .i64 t] w fun e w' => e = .returned (.tuple #[.bool (jour l js f t).1, .bool (jour l js f t).2]) ∧ Below w.heap.size w w' := by
  have hno : (goodR l && inR f 0 5 && inR t 0 5) = false → jour l js f t = (false, false) := fun h => by simp [jour, h]
  rcases hg : goodR l with _ | _
  · have H := Lib.hid (hno (by simp [hg]))
    clear hno
    go_enter Try.func21, Try.ntmps21
    go_wp2_with fail
    refine (l15Good_c l _ _ _ hl hr).mono ?_
    rintro e w1 ⟨rfl, hb1⟩
    go_wp2_with fail
    go_ret2
    exact ⟨retbb H.out rfl rfl, hb1⟩
  rcases hf1 : inR f 0 5 with _ | _
  · have H := Lib.hid (hno (by simp [hf1]))
    clear hno
    go_enter Try.func21, Try.ntmps21
    go_wp2_with fail
    refine (l15Good_c l _ _ _ hl hr).mono ?_
    rintro e w1 ⟨rfl, hb1⟩
    go_wp2_with (go_at_call 58; refine (l15Stop_c _ _).mono ?_; rintro e w' ⟨rfl, rfl⟩)
    go_ret2
    exact ⟨retbb H.out rfl rfl, hb1⟩
  rcases ht1 : inR t 0 5 with _ | _
  · have H := Lib.hid (hno (by simp [ht1]))
    clear hno
    go_enter Try.func21, Try.ntmps21
    go_wp2_with fail
    refine (l15Good_c l _ _ _ hl hr).mono ?_
    rintro e w1 ⟨rfl, hb1⟩
    go_wp2_with (go_at_call 58; refine (l15Stop_c _ _).mono ?_; rintro e w' ⟨rfl, rfl⟩)
    go_ret2
    exact ⟨retbb H.out rfl rfl, hb1⟩
  have HG := Lib.hid (show (goodR l && inR f 0 5 && inR t 0 5) = true by simp [hg, hf1, ht1])
  clear hno
  go_enter Try.func21, Try.ntmps21
  go_wp2_with fail
  refine (l15Good_c l _ _ _ hl hr).mono ?_
  rintro e w1 ⟨rfl, hb1⟩
  have hr1 := hr.carry hb1
  have hs1 := hs.carry hb1
  have HB1 := Lib.hid hb1
  clear hb1
  go_wp2_with (go_at_call 58; refine (l15Stop_c _ _).mono ?_; rintro e w' ⟨rfl, rfl⟩)
  clear hg hf1 ht1
  go_loopw [10, 11, 12, 13] (fun a m i _ wr => ∃ (k : Nat) (x y : Int), k ≤ js.length ∧ i = .int .i64 k ∧ a = .int .i64 x ∧ m = .int .i64 y ∧ jrTo l js f k = some (x, y) ∧ Below w1.heap.size w1 wr) (fun _ _ i _ _ => js.length - (intOf i).toNat)
  case atStart => exact ⟨0, f, 0, Nat.zero_le _, rfl, rfl, rfl, rfl, Below.refl _ _⟩
  case round =>
    obtain ⟨k, x, y, hk, rfl, rfl, rfl, hst, hbel⟩ := hrel
    have HB := Lib.hid hbel
    have HS := Lib.hid hst
    have HT := Lib.hid (jrTo_step hst)
    clear hst
    have z1 := hbel.size
    by_cases hlt : k < js.length
    · obtain ⟨b, off, rfl, hb1, hc⟩ := (hs1.below hbel (Nat.le_refl _)).int hlt
      rcases hin : inR (nth js k) 0 ((l.length : Int) - 1) with _ | _
      · have H := Lib.hid (jour_none (t := t) HG.out (show k + 1 ≤ js.length by omega) (by rw [HT.out, takeR_no hin]))
        clear hbel
        go_wp2_with (go_at_call 59; refine (l1In_c _ _ _ _).mono ?_; rintro e w' ⟨rfl, rfl⟩)
        go_ret2
        exact ⟨retbb H.out rfl rfl, HB1.out.trans (HB.out.mono HB1.out.size)⟩
      obtain ⟨i1, i2⟩ := inR_true.1 hin
      obtain ⟨q, hq⟩ : ∃ q : Nat, nth js k = (q : Int) := ⟨(nth js k).toNat, by omega⟩
      rw [hq] at hin hc i1 i2
      have HQ := Lib.hid hq
      clear hq
      obtain ⟨b', off', rfl, hb2, hcs⟩ := Rid.rd (hr1.below hbel (Nat.le_refl _)) (show q < l.length by omega)
      have l2 : b' < wr.heap.size := by omega
      have i3 : (q : Int) < l.length := by omega
      clear hbel
      by_cases hf : (nth l q).f = x
      · have hf' : ((nth l q).f != x) = false := by simp [hf]
        by_cases hd : y ≤ (nth l q).d
        · have HN := Lib.hid (show jrTo l js f (k + 1) = some ((nth l q).t, (nth l q).a) by rw [HT.out, HQ.out, takeR_ok hin hf hd])
          clear hf
          go_wp2_with (go_at_call 59; refine (l1In_c _ _ _ _).mono ?_; rintro e w' ⟨rfl, rfl⟩)
          go_roundw
          case rel => exact ⟨k + 1, _, _, by omega, by go_num, rfl, rfl, HN.out, (HB.out.trans (Below.mono (B := wr.heap.size) (by repeat (first | (with_reducible exact Below.refl _ _) | ((with_reducible refine alloc_ ?_ ?_); (focus (first | exact Nat.le_refl _ | (simp; done) | (simp; omega) | omega))) | ((with_reducible refine set_ ?_ ?_); (focus (first | exact Nat.le_refl _ | (simp; done) | (simp; omega) | omega))) | (with_reducible refine Below.drew ?_) | ((with_reducible refine after_ ?_ (by assumption) ?_); (rotate_left; (focus (first | exact Nat.le_refl _ | (simp; done) | (simp; omega) | omega)))))) z1))⟩
          case measure => simp [intOf]; omega
        · have H := Lib.hid (jour_none (t := t) HG.out (show k + 1 ≤ js.length by omega) (by rw [HT.out, HQ.out, takeR_d hd]))
          clear hf
          go_wp2_with (go_at_call 59; refine (l1In_c _ _ _ _).mono ?_; rintro e w' ⟨rfl, rfl⟩)
          go_ret2
          exact ⟨retbb H.out rfl rfl, HB1.out.trans (Below.mono (HB.out.trans (Below.mono (B := wr.heap.size) (by repeat (first | (with_reducible exact Below.refl _ _) | ((with_reducible refine alloc_ ?_ ?_); (focus (first | exact Nat.le_refl _ | (simp; done) | (simp; omega) | omega))) | ((with_reducible refine set_ ?_ ?_); (focus (first | exact Nat.le_refl _ | (simp; done) | (simp; omega) | omega))) | (with_reducible refine Below.drew ?_) | ((with_reducible refine after_ ?_ (by assumption) ?_); (rotate_left; (focus (first | exact Nat.le_refl _ | (simp; done) | (simp; omega) | omega)))))) z1)) HB1.out.size)⟩
      · have hf' : ((nth l q).f != x) = true := by rw [bne_iff_ne]; exact hf
        have H := Lib.hid (jour_none (t := t) HG.out (show k + 1 ≤ js.length by omega) (by rw [HT.out, HQ.out, takeR_f hf]))
        clear hf
        go_wp2_with (go_at_call 59; refine (l1In_c _ _ _ _).mono ?_; rintro e w' ⟨rfl, rfl⟩)
        go_ret2
        exact ⟨retbb H.out rfl rfl, HB1.out.trans (Below.mono (HB.out.trans (Below.mono (B := wr.heap.size) (by repeat (first | (with_reducible exact Below.refl _ _) | ((with_reducible refine alloc_ ?_ ?_); (focus (first | exact Nat.le_refl _ | (simp; done) | (simp; omega) | omega))) | ((with_reducible refine set_ ?_ ?_); (focus (first | exact Nat.le_refl _ | (simp; done) | (simp; omega) | omega))) | (with_reducible refine Below.drew ?_) | ((with_reducible refine after_ ?_ (by assumption) ?_); (rotate_left; (focus (first | exact Nat.le_refl _ | (simp; done) | (simp; omega) | omega)))))) z1)) HB1.out.size)⟩
    · obtain rfl : k = js.length := by omega
      have H := Lib.hid (jour_some (t := t) HG.out HS.out)
      clear hbel
      go_wp2_with fail
      go_ret2
      exact ⟨retbb H.out rfl rfl, HB1.out.trans (HB.out.mono HB1.out.size)⟩
end Go.Proofs.Ytddnemmdlijgiaa
