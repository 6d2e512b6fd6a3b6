/- RopeVerdict: the reference's returns the Lean function; no conditions but the length and a kind that is not far off. -/
import Derived.Test.YtlgpgcfncmomiaaDamVerdict
namespace Go.Proofs.Ytlgpgcfncmomiaa
open Go.RowKit

theorem repl_of {k : Kin} {l : List Dam} {a : Int} {N n : Nat} (ha : allW k = a) (hN : k.st = N) (hn : n < N) (h : a < 20 * most l 10 (-1) ∨ k.wi < 2 * most l 10 n) : repl k l = true := by
  rw [← runR_repl hN]
  unfold runR
  rw [ha, Bool.or_eq_true, decide_eq_true_eq]
  rcases h with h | h
  · exact .inl h
  · exact .inr (anyTo_yes (i := n) hn (decide_eq_true h))
theorem repl_no {k : Kin} {l : List Dam} {a : Int} {N : Nat} (ha : allW k = a) (hN : k.st = N) (hpos : 0 < N) (h : ∀ n : Nat, n < N → 20 * most l 10 (-1) ≤ a ∧ 2 * most l 10 n ≤ k.wi) : repl k l = false := by
  rw [← runR_repl hN]
  unfold runR
  rw [ha, Bool.or_eq_false_iff, decide_eq_false_iff_not]
  exact ⟨by have := (h 0 hpos).1; omega, anyTo_none fun i hi => decide_eq_false (by have := (h i hi).2; omega)⟩
set_option maxHeartbeats 1600000 in
theorem specRopeVerdict_c (k : Kin) (l : List Dam) (A : Option Addr) (cap : Nat) (w : World) (hl : l.length ≤ 1048576) (hst : -1000 ≤ k.st ∧ k.st ≤ 1000) (hr : Rd w w.heap.size 3 Dam.cells A l) :
    Calls Try.prog 13 #[.agg #[.int .i64 k.i, .int .i64 k.st, .int .i64 k.wi, .int .i64 k.we, .int .i64 k.sg], .slice A l.length cap] w fun e w' => e = .returned (.tuple #[.string (verdP k l).1, .bool (verdP k l).2]) ∧ Below w.heap.size w w' := by
  have HX := Lib.hid (Box.new w k.cells 25)
  have HR := Lib.hid (hr.alloc (.cells k.cells.toArray 25))
  clear hr
  go_enter Try.func13, Try.ntmps13
  go_wp2_with fail
  refine (l3Good_c k l _ _ _ hl hst HR.out).mono ?_
  rintro e w1 ⟨rfl, hb1⟩
  have HB1 := Lib.hid (show Below w.heap.size w w1 from (by repeat (first | (with_reducible exact Below.refl _ _) | ((with_reducible refine alloc_ ?_ ?_); (focus (first | exact Nat.le_refl _ | (simp; done) | (simp; omega) | omega))) | ((with_reducible refine set_ ?_ ?_); (focus (first | exact Nat.le_refl _ | (simp; done) | (simp; omega) | omega))) | (with_reducible refine Below.drew ?_) | ((with_reducible refine after_ ?_ (by assumption) ?_); (rotate_left; (focus (first | exact Nat.le_refl _ | (simp; done) | (simp; omega) | omega)))))))
  have HX1 := Lib.hid (HX.out.carry hb1)
  have HR1 := Lib.hid (HR.out.carry hb1)
  clear hb1
  rcases hg : goodD k l with _ | _
  · have H := Lib.hid (show verdP k l = (⟨#[]⟩, false) by simp [verdP, hg])
    go_wp2_with fail
    go_ret2
    exact ⟨by rw [H.out]; rfl, HB1.out⟩
  have H := Lib.hid (show verdP k l = (verd k l, true) by simp [verdP, hg])
  have HG := Lib.hid hg
  have hk := (goodD_true hg).1
  obtain ⟨a1, a2⟩ := allW_bd hk
  obtain ⟨b1, b2⟩ := wires_bd hk
  obtain ⟨N, hN, n1, n2⟩ := strands hk
  have HN := Lib.hid hN
  obtain ⟨a, ha⟩ : ∃ a, k.st * k.wi = a := ⟨_, rfl⟩
  have HA := Lib.hid (show allW k = a from ha)
  rw [show allW k = a from ha] at a1 a2
  have e1 : IntKind.i64.wrap (k.st * k.wi) = a := by rw [ha]; exact IntWalk.i64_in _ (by omega)
  have x1 := HX1.out.cell (j := 1) rfl
  have x2 := HX1.out.cell (j := 2) rfl
  have lx := HX1.out.lt
  obtain ⟨s1, s2⟩ := most_at hg 10 (-1)
  obtain ⟨s, hs⟩ : ∃ s, most l 10 (-1) = s := ⟨_, rfl⟩
  obtain ⟨t1, t2⟩ := most_at hg 100 (-1)
  obtain ⟨t, ht⟩ : ∃ t, most l 100 (-1) = t := ⟨_, rfl⟩
  rw [hs] at s1 s2
  rw [ht] at t1 t2
  have HSm := Lib.hid hs
  have HTm := Lib.hid ht
  have e3 : IntKind.i64.wrap (20 * s) = 20 * s := IntWalk.i64_in _ (by omega)
  have e4 : IntKind.i64.wrap (20 * t) = 20 * t := IntWalk.i64_in _ (by omega)
  clear hg hk hN ha hs ht
  go_wp2_with fail
  refine (l3Most_c l 10 (-1) _ _ _ (good_few HG.out) (good_placed HG.out) (by omega) HR1.out).mono ?_
  rintro e w2 ⟨p, rfl, hb2⟩
  rw [HSm.out]
  have HB2 := Lib.hid (HB1.out.trans (hb2.mono HB1.out.size))
  have HX2 := Lib.hid (HX1.out.carry hb2)
  have HR2 := Lib.hid (HR1.out.carry hb2)
  clear hb2 x1 x2 lx
  go_wp2_with fail
  refine (l3Most_c l 100 (-1) _ _ _ (good_few HG.out) (good_placed HG.out) (by omega) HR2.out).mono ?_
  rintro e w3 ⟨q, rfl, hb3⟩
  rw [HTm.out]
  have HB3 := Lib.hid (HB2.out.trans (hb3.mono HB2.out.size))
  have HX3 := Lib.hid (HX2.out.carry hb3)
  have HR3 := Lib.hid (HR2.out.carry hb3)
  clear hb3
  have HW := Lib.hid (show verd k l = if repl k l = true then ⟨#[114, 101, 112, 108, 97, 99, 101]⟩ else if a < 20 * t then ⟨#[119, 97, 116, 99, 104]⟩ else sGood by unfold verd; rw [HA.out, HTm.out])
  go_wp2_with fail
  go_loopw [11, 12, 13] (fun i _ _ wr => ∃ n : Nat, n ≤ N ∧ i = .int .i64 n ∧ (∀ j, j < n → 20 * s ≤ a ∧ 2 * most l 10 (j : Int) ≤ k.wi) ∧ Below w3.heap.size w3 wr) (fun i _ _ _ => N - (intOf i).toNat)
  case atStart => exact ⟨0, Nat.zero_le _, rfl, fun j hj => absurd hj (by omega), Below.refl _ _⟩
  case round =>
    obtain ⟨n, hn, rfl, hall, hbel⟩ := hrel
    have HAll := Lib.hid hall
    have HB := Lib.hid hbel
    have HBw := Lib.hid (HB3.out.trans (hbel.mono HB3.out.size))
    have HXr := Lib.hid (HX3.out.carry hbel)
    have HRr := Lib.hid (HR3.out.carry hbel)
    have z1 := HXr.out.cell (j := 1) rfl
    have z2 := HXr.out.cell (j := 2) rfl
    have lx2 := HXr.out.lt
    rw [HN.out] at z1
    clear hbel hall
    by_cases hlt : n < N
    · obtain ⟨m1, m2⟩ := most_at HG.out 10 (n : Int)
      obtain ⟨m, hm⟩ : ∃ m, most l 10 (n : Int) = m := ⟨_, rfl⟩
      rw [hm] at m1 m2
      have HM := Lib.hid hm
      have e2 : IntKind.i64.wrap (2 * m) = 2 * m := IntWalk.i64_in _ (by omega)
      clear hm
      go_wp2_with fail
      refine (l3Most_c l 10 n _ _ _ (good_few HG.out) (good_placed HG.out) (by omega) HRr.out).mono ?_
      rintro e w4 ⟨x, rfl, hb4⟩
      rw [HM.out]
      have HB4 := Lib.hid (HB.out.trans (hb4.mono HB.out.size))
      have HB4w := Lib.hid (HBw.out.trans (hb4.mono HBw.out.size))
      have t2 := (HXr.out.carry hb4).cell (j := 2) rfl
      have lt2 := (HXr.out.carry hb4).lt
      clear hb4
      by_cases hq : k.wi < 2 * m
      · have HV := Lib.hid (show verdP k l = (⟨#[114, 101, 112, 108, 97, 99, 101]⟩, true) by rw [H.out, HW.out, repl_of HA.out HN.out hlt (.inr (by rw [HM.out]; exact hq)), if_pos rfl])
        go_wp2_with fail
        go_ret2
        exact ⟨by rw [HV.out]; rfl, HB4w.out⟩
      by_cases hq2 : a < 20 * s
      · have HV := Lib.hid (show verdP k l = (⟨#[114, 101, 112, 108, 97, 99, 101]⟩, true) by rw [H.out, HW.out, repl_of HA.out HN.out hlt (.inl (by rw [HSm.out]; exact hq2)), if_pos rfl])
        go_wp2_with fail
        go_ret2
        exact ⟨by rw [HV.out]; rfl, HB4w.out⟩
      · have HC := Lib.hid (below_add (p := fun j : Nat => 20 * s ≤ a ∧ 2 * most l 10 (j : Int) ≤ k.wi) HAll.out ⟨by omega, by rw [HM.out]; omega⟩)
        go_wp2_with fail
        go_roundw
        case rel => exact ⟨n + 1, by omega, by go_num, HC.out, HB4.out⟩
        case measure => simp [intOf]; omega
    · obtain rfl : n = N := by omega
      have HP := Lib.hid (repl_no (l := l) HA.out HN.out (by omega) (by rw [HSm.out]; exact HAll.out))
      by_cases hm : a < 20 * t
      · have HV := Lib.hid (show verdP k l = (⟨#[119, 97, 116, 99, 104]⟩, true) by rw [H.out, HW.out, HP.out, if_neg (by simp), if_pos hm])
        go_wp2_with fail
        go_ret2
        exact ⟨by rw [HV.out]; rfl, HBw.out⟩
      · have HV := Lib.hid (show verdP k l = (⟨#[103, 111, 111, 100]⟩, true) by rw [H.out, HW.out, HP.out, if_neg (by simp), if_neg hm]; rfl)
        go_wp2_with fail
        go_ret2
        exact ⟨by rw [HV.out]; rfl, HBw.out⟩
end Go.Proofs.Ytlgpgcfncmomiaa
