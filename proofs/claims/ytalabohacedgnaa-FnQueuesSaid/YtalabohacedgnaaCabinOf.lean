/- CabinOf and EmptySeats of the program and of the reference return one Lean function each; no conditions but the length. -/
import Derived.Test.YtalabohacedgnaaNeeded
namespace Go.Proofs.Ytalabohacedgnaa
open Go.RowKit

theorem ofF_no1 {l : List Gro} {s j : Int} (h : fitG l s = false) : ofF l s j = (0, false) := by simp [ofF, h]
theorem ofF_no2 {l : List Gro} {s j : Int} (h : inR j 0 (l.length - 1) = false) : ofF l s j = (0, false) := by simp [ofF, h]
theorem ofF_yes {l : List Gro} {s j : Int} (h1 : fitG l s = true) (h2 : inR j 0 (l.length - 1) = true) : ofF l s j = (nth (cabs l s).1 j.toNat, true) := by simp [ofF, h1, h2]
theorem implCabinOf_c (l : List Gro) (A : Option Addr) (cap : Nat) (s j : Int) (w : World) (hl : l.length ≤ 1048576) (hr : Rd w w.heap.size 2 Gro.cells A l) :
    Calls Try.prog 35 #[.slice A l.length cap, .int .i64 s, .int .i64 j] w fun e w' => e = .returned (.tuple #[.int .i64 (ofF l s j).1, .bool (ofF l s j).2]) ∧ Below w.heap.size w w' := by
  rcases hg : fitG l s with _ | _
  · have H := Lib.hid (ofF_no1 (j := j) hg)
    go_enter Try.func35, Try.ntmps35
    go_wp2_with fail
    refine (fits_c l _ _ _ _ hl hr).mono ?_
    rintro e w1 ⟨rfl, hb1⟩
    go_wp2_with fail
    go_ret2
    exact ⟨retib (by rw [H.out]) (by rw [H.out]), hb1⟩
  rcases hj : inR j 0 (l.length - 1) with _ | _
  · have H := Lib.hid (ofF_no2 (s := s) hj)
    go_enter Try.func35, Try.ntmps35
    go_wp2_with fail
    refine (fits_c l _ _ _ _ hl hr).mono ?_
    rintro e w1 ⟨rfl, hb1⟩
    go_wp2_with (go_at_call 55; refine (within_c _ _ _ _).mono ?_; rintro e w' ⟨rfl, rfl⟩)
    go_ret2
    exact ⟨retib (by rw [H.out]) (by rw [H.out]), hb1⟩
  have HF := Lib.hid (fit_of hg)
  have H := Lib.hid (ofF_yes hg hj)
  have hlen := (cabs_spec (fit_of hg).s0 (fit_of hg).both).2.1
  obtain ⟨j0, j1⟩ := inR_true.1 hj
  obtain ⟨x, rfl⟩ : ∃ x : Nat, j = x := ⟨j.toNat, by omega⟩
  go_enter Try.func35, Try.ntmps35
  go_wp2_with fail
  refine (fits_c l _ _ _ _ hl hr).mono ?_
  rintro e w1 ⟨rfl, hb1⟩
  have hr1 := hr.carry hb1
  have HB1 := Lib.hid hb1
  clear hb1
  go_wp2_with (go_at_call 55; refine (within_c _ _ _ _).mono ?_; rintro e w' ⟨rfl, rfl⟩)
  refine (cabins_c l _ _ s _ hr1 HF.out.len HF.out.sizes HF.out.fit HF.out.s0 (Int.le_trans HF.out.s1 (by omega))).mono ?_
  rintro e w2 ⟨g, gc, rfl, hge, ha2, hb2⟩
  obtain ⟨o, ho⟩ : ∃ o, (cabs l s).1 = o := ⟨_, rfl⟩
  rw [ho] at H hlen ha2 ⊢
  have HB2 := Lib.hid (HB1.out.trans (hb2.mono HB1.out.size))
  have hc := ha2.cell (i := x) (by omega)
  have hlt := ha2.lt
  have hxo : (x : Int) < o.length := by omega
  clear hb2 ha2 ho
  go_wp2_with fail
  go_ret2
  exact ⟨retib (by rw [H.out]; rfl) (by rw [H.out]), HB2.out⟩
theorem specCabinOf_c (l : List Gro) (A : Option Addr) (cap : Nat) (s j : Int) (w : World) (hl : l.length ≤ 1048576) (hr : Rd w w.heap.size 2 Gro.cells A l) :
    Calls Try.prog 34 #[.slice A l.length cap, .int .i64 s, .int .i64 j] w fun e w' => e = .returned (.tuple #[.int .i64 (ofF l s j).1, .bool (ofF l s j).2]) ∧ Below w.heap.size w w' := by
  rcases hg : fitG l s with _ | _
  · have H := Lib.hid (ofF_no1 (j := j) hg)
    go_enter Try.func34, Try.ntmps34
    go_wp2_with fail
    refine (l13Asked_c l _ _ _ _ hl hr).mono ?_
    rintro e w1 ⟨rfl, rfl⟩
    go_wp2_with fail
    go_ret2
    exact ⟨retib (by rw [H.out]) (by rw [H.out]), (by repeat (first | (with_reducible exact Below.refl _ _) | ((with_reducible refine alloc_ ?_ ?_); (focus (first | exact Nat.le_refl _ | (simp; done) | (simp; omega) | omega))) | ((with_reducible refine set_ ?_ ?_); (focus (first | exact Nat.le_refl _ | (simp; done) | (simp; omega) | omega))) | (with_reducible refine Below.drew ?_) | ((with_reducible refine after_ ?_ (by assumption) ?_); (rotate_left; (focus (first | exact Nat.le_refl _ | (simp; done) | (simp; omega) | omega))))))⟩
  rcases hj : inR j 0 (l.length - 1) with _ | _
  · have H := Lib.hid (ofF_no2 (s := s) hj)
    go_enter Try.func34, Try.ntmps34
    go_wp2_with fail
    refine (l13Asked_c l _ _ _ _ hl hr).mono ?_
    rintro e w1 ⟨rfl, rfl⟩
    go_wp2_with (go_at_call 58; refine (l1In_c _ _ _ _).mono ?_; rintro e w' ⟨rfl, rfl⟩)
    go_ret2
    exact ⟨retib (by rw [H.out]) (by rw [H.out]), (by repeat (first | (with_reducible exact Below.refl _ _) | ((with_reducible refine alloc_ ?_ ?_); (focus (first | exact Nat.le_refl _ | (simp; done) | (simp; omega) | omega))) | ((with_reducible refine set_ ?_ ?_); (focus (first | exact Nat.le_refl _ | (simp; done) | (simp; omega) | omega))) | (with_reducible refine Below.drew ?_) | ((with_reducible refine after_ ?_ (by assumption) ?_); (rotate_left; (focus (first | exact Nat.le_refl _ | (simp; done) | (simp; omega) | omega))))))⟩
  have HF := Lib.hid (fit_of hg)
  have H := Lib.hid (ofF_yes hg hj)
  have hlen := (cabs_spec (fit_of hg).s0 (fit_of hg).both).2.1
  obtain ⟨j0, j1⟩ := inR_true.1 hj
  obtain ⟨x, rfl⟩ : ∃ x : Nat, j = x := ⟨j.toNat, by omega⟩
  go_enter Try.func34, Try.ntmps34
  go_wp2_with fail
  refine (l13Asked_c l _ _ _ _ hl hr).mono ?_
  rintro e w1 ⟨rfl, rfl⟩
  go_wp2_with (go_at_call 58; refine (l1In_c _ _ _ _).mono ?_; rintro e w' ⟨rfl, rfl⟩)
  refine (l13Cabins_c l _ _ s _ hr HF.out.len HF.out.sizes HF.out.fit HF.out.s0 (Int.le_trans HF.out.s1 (by omega))).mono ?_
  rintro e w2 ⟨g, gc, rfl, hge, ha2, hb2⟩
  obtain ⟨o, ho⟩ : ∃ o, (cabs l s).1 = o := ⟨_, rfl⟩
  rw [ho] at H hlen ha2 ⊢
  have HB2 := Lib.hid hb2
  have hc := ha2.cell (i := x) (by omega)
  have hlt := ha2.lt
  have hxo : (x : Int) < o.length := by omega
  clear hb2 ha2 ho
  go_wp2_with fail
  go_ret2
  exact ⟨retib (by rw [H.out]; rfl) (by rw [H.out]), HB2.out⟩
theorem empty_bd {l : List Gro} {s : Int} (h : Fit l s) : (0 ≤ (cabs l s).2 * s ∧ (cabs l s).2 * s ≤ 130) ∧ 0 ≤ peopleTo l l.length ∧ peopleTo l l.length ≤ 96 := by
  obtain ⟨a, b, _⟩ := h.bd
  have h1 := Int.mul_nonneg a h.s0
  have h2 := Int.mul_le_mul b h.s1 h.s0 (by omega : (0 : Int) ≤ 13)
  have h3 := peopleTo_bd h.sizes l.length (Nat.le_refl _)
  have h4 := h.len
  exact ⟨⟨h1, by omega⟩, by omega, by omega⟩
theorem implEmptySeats_c (l : List Gro) (A : Option Addr) (cap : Nat) (s : Int) (w : World) (hl : l.length ≤ 1048576) (hr : Rd w w.heap.size 2 Gro.cells A l) :
    Calls Try.prog 39 #[.slice A l.length cap, .int .i64 s] w fun e w' => e = .returned (.tuple #[.int .i64 (emptyF l s).1, .bool (emptyF l s).2]) ∧ Below w.heap.size w w' := by
  rcases hg : fitG l s with _ | _
  · have H := Lib.hid (show emptyF l s = (0, false) by simp [emptyF, hg])
    have HN := Lib.hid (show needF l s = (0, false) by simp [needF, hg])
    go_enter Try.func39, Try.ntmps39
    go_wp2_with fail
    refine (implCabinsNeeded_c l _ _ _ _ hl hr).mono ?_
    rintro e w1 ⟨rfl, hb1⟩
    rw [HN.out]
    have hr1 := hr.carry hb1
    have HB1 := Lib.hid hb1
    clear hb1
    go_wp2_with fail
    refine (implPeopleIn_c l _ _ _ hl hr1).mono ?_
    rintro e w2 ⟨rfl, hb2⟩
    have HB2 := Lib.hid (HB1.out.trans (hb2.mono HB1.out.size))
    clear hb2
    go_wp2_with fail
    go_ret2
    exact ⟨retib (by rw [H.out]) (by rw [H.out]), HB2.out⟩
  have HF := Lib.hid (fit_of hg)
  have H := Lib.hid (show emptyF l s = ((cabs l s).2 * s - peopleTo l l.length, true) by simp [emptyF, hg])
  have HN := Lib.hid (show needF l s = ((cabs l s).2, true) by simp [needF, hg])
  have HP := Lib.hid (show people l = ⟨peopleTo l l.length, quickTo l l.length, true⟩ by
    have : goodG l = true := by simp only [fitG, Bool.and_eq_true] at hg; exact hg.1.1
    simp [people, this])
  have hbd := empty_bd (fit_of hg)
  obtain ⟨c, hc⟩ : ∃ c, (cabs l s).2 = c := ⟨_, rfl⟩
  obtain ⟨m, hm⟩ : ∃ m, c * s = m := ⟨_, rfl⟩
  obtain ⟨p, hp⟩ : ∃ p, peopleTo l l.length = p := ⟨_, rfl⟩
  rw [hc] at H HN hbd
  rw [hm] at H hbd
  rw [hp] at H HP hbd
  have e1 : IntKind.i64.wrap (c * s) = m := by rw [hm]; exact IntWalk.i64_in _ (by omega)
  have e2 : IntKind.i64.wrap (m - p) = m - p := IntWalk.i64_in _ (by omega)
  clear hc hm hp
  go_enter Try.func39, Try.ntmps39
  go_wp2_with fail
  refine (implCabinsNeeded_c l _ _ _ _ hl hr).mono ?_
  rintro e w1 ⟨rfl, hb1⟩
  rw [HN.out]
  have hr1 := hr.carry hb1
  have HB1 := Lib.hid hb1
  clear hb1
  go_wp2_with fail
  refine (implPeopleIn_c l _ _ _ hl hr1).mono ?_
  rintro e w2 ⟨rfl, hb2⟩
  rw [HP.out]
  have HB2 := Lib.hid (HB1.out.trans (hb2.mono HB1.out.size))
  clear hb2
  go_wp2_with fail
  go_ret2
  exact ⟨retib (by rw [H.out]) (by rw [H.out]), HB2.out⟩
theorem specEmptySeats_c (l : List Gro) (A : Option Addr) (cap : Nat) (s : Int) (w : World) (hl : l.length ≤ 1048576) (hr : Rd w w.heap.size 2 Gro.cells A l) :
    Calls Try.prog 38 #[.slice A l.length cap, .int .i64 s] w fun e w' => e = .returned (.tuple #[.int .i64 (emptyF l s).1, .bool (emptyF l s).2]) ∧ Below w.heap.size w w' := by
  rcases hg : fitG l s with _ | _
  · have H := Lib.hid (show emptyF l s = (0, false) by simp [emptyF, hg])
    go_enter Try.func38, Try.ntmps38
    go_wp2_with fail
    refine (l13Asked_c l _ _ _ _ hl hr).mono ?_
    rintro e w1 ⟨rfl, rfl⟩
    go_wp2_with fail
    go_ret2
    exact ⟨retib (by rw [H.out]) (by rw [H.out]), (by repeat (first | (with_reducible exact Below.refl _ _) | ((with_reducible refine alloc_ ?_ ?_); (focus (first | exact Nat.le_refl _ | (simp; done) | (simp; omega) | omega))) | ((with_reducible refine set_ ?_ ?_); (focus (first | exact Nat.le_refl _ | (simp; done) | (simp; omega) | omega))) | (with_reducible refine Below.drew ?_) | ((with_reducible refine after_ ?_ (by assumption) ?_); (rotate_left; (focus (first | exact Nat.le_refl _ | (simp; done) | (simp; omega) | omega))))))⟩
  have HF := Lib.hid (fit_of hg)
  have H := Lib.hid (show emptyF l s = ((cabs l s).2 * s - peopleTo l l.length, true) by simp [emptyF, hg])
  have hbd := empty_bd (fit_of hg)
  have HC := Lib.hid (fun w hr => l13Needed_c l A cap s w hr (fit_of hg))
  have HQ := Lib.hid (fun w hr => l13People_c l A cap w hr ⟨(fit_of hg).len, (fit_of hg).sizes⟩)
  obtain ⟨c, hc⟩ : ∃ c, (cabs l s).2 = c := ⟨_, rfl⟩
  obtain ⟨m, hm⟩ : ∃ m, c * s = m := ⟨_, rfl⟩
  obtain ⟨p, hp⟩ : ∃ p, peopleTo l l.length = p := ⟨_, rfl⟩
  rw [hc] at H HC hbd
  rw [hm] at H hbd
  rw [hp] at H HQ hbd
  have e1 : IntKind.i64.wrap (c * s) = m := by rw [hm]; exact IntWalk.i64_in _ (by omega)
  have e2 : IntKind.i64.wrap (m - p) = m - p := IntWalk.i64_in _ (by omega)
  clear hc hm hp
  go_enter Try.func38, Try.ntmps38
  go_wp2_with fail
  refine (l13Asked_c l _ _ _ _ hl hr).mono ?_
  rintro e w1 ⟨rfl, rfl⟩
  go_wp2_with fail
  refine (HC.out _ hr).mono ?_
  rintro e w2 ⟨rfl, hb2⟩
  have hr2 := hr.carry hb2
  have HB2 := Lib.hid hb2
  clear hb2
  go_wp2_with fail
  refine (HQ.out _ hr2).mono ?_
  rintro e w3 ⟨rfl, rfl⟩
  go_wp2_with fail
  go_ret2
  exact ⟨retib (by rw [H.out]) (by rw [H.out]), HB2.out⟩
end Go.Proofs.Ytalabohacedgnaa
