/- RopeVerdict: the program's and the reference's return one Lean function; no conditions but the length and a kind that is not far off. -/
import Derived.Test.YtlgpgcfncmomiaaDamMany
namespace Go.Proofs.Ytlgpgcfncmomiaa
open Go.RowKit

theorem anyTo_succ {n : Nat} {p : Nat → Bool} : anyTo (n + 1) p = (anyTo n p || p n) := by
  rw [Bool.eq_iff_iff, Bool.or_eq_true]
  constructor
  · intro h
    by_cases h1 : p n = true
    · exact .inr h1
    · refine .inl ?_
      rcases h2 : anyTo n p with _ | _
      · have h3 := anyTo_false h2
        have : anyTo (n + 1) p = false := anyTo_none fun i hi => by
          by_cases e : i = n
          · subst e; simpa using h1
          · exact h3 i (by omega)
        rw [this] at h; cases h
      · rfl
  · rintro (h | h)
    · rcases h2 : anyTo (n + 1) p with _ | _
      · have h3 := anyTo_false h2
        rw [anyTo_none fun i hi => h3 i (by omega)] at h; cases h
      · rfl
    · exact anyTo_yes (Nat.lt_succ_self n) h
def runR (k : Kin) (l : List Dam) (n : Nat) : Bool := decide (allW k < 20 * most l 10 (-1)) || anyTo n (fun j => decide (k.wi < 2 * most l 10 j))
theorem runR_zero {k : Kin} {l : List Dam} : runR k l 0 = decide (allW k < 20 * most l 10 (-1)) := by simp [runR, anyTo, allTo]
theorem runR_succ {k : Kin} {l : List Dam} {n : Nat} : runR k l (n + 1) = (runR k l n || decide (k.wi < 2 * most l 10 n)) := by
  unfold runR; rw [anyTo_succ, Bool.or_assoc]
theorem runR_repl {k : Kin} {l : List Dam} {n : Nat} (h : k.st = n) : runR k l n = repl k l := by unfold runR repl; rw [h]; rfl
def sGood : ByteArray := ⟨#[103, 111, 111, 100]⟩
def verd (k : Kin) (l : List Dam) : ByteArray := if repl k l = true then ⟨#[114, 101, 112, 108, 97, 99, 101]⟩ else if allW k < 20 * most l 100 (-1) then ⟨#[119, 97, 116, 99, 104]⟩ else sGood
def verdP (k : Kin) (l : List Dam) : ByteArray × Bool := if goodD k l = true then (verd k l, true) else (⟨#[]⟩, false)
theorem most_at {k : Kin} {l : List Dam} (h : goodD k l = true) (n s : Int) : 0 ≤ most l n s ∧ most l n s ≤ 600 := most_bd (good_few h).2 (goodD_true h).2.1 l.length (Nat.le_refl _)
theorem wires_bd {k : Kin} (h : okKd k = true) : 7 ≤ k.wi ∧ k.wi ≤ 40 := (okKd_true.1 h).2.2.1
theorem strands {k : Kin} (h : okKd k = true) : ∃ n : Nat, k.st = n ∧ n ≤ 8 ∧ 4 ≤ n := ⟨k.st.toNat, by have := (okKd_true.1 h).2.1; omega, by have := (okKd_true.1 h).2.1; omega, by have := (okKd_true.1 h).2.1; omega⟩
set_option maxHeartbeats 1600000 in
theorem implRopeVerdict_c (k : Kin) (l : List Dam) (A : Option Addr) (cap : Nat) (w : World) (hl : l.length ≤ 1048576) (hr : Rd w w.heap.size 3 Dam.cells A l) :
    Calls Try.prog 12 #[.agg #[.int .i64 k.i, .int .i64 k.st, .int .i64 k.wi, .int .i64 k.we, .int .i64 k.sg], .slice A l.length cap] w fun e w' => e = .returned (.tuple #[.string (verdP k l).1, .bool (verdP k l).2]) ∧ Below w.heap.size w w' := by
  have HX := Lib.hid (Box.new w k.cells 25)
  have hs := Box.new (w.alloc (.cells k.cells.toArray 25)) [.slice A l.length cap] 26
  rw [World.size_alloc] at hs
  have HS := Lib.hid hs
  have HR := Lib.hid ((hr.alloc (.cells k.cells.toArray 25)).alloc (.cells #[.slice A l.length cap] 26))
  clear hr hs
  go_enter Try.func12, Try.ntmps12
  go_wp2_with fail
  refine (AreDamages_c k l _ _ _ hl HR.out).mono ?_
  rintro e w1 ⟨rfl, hb1⟩
  have HB1 := Lib.hid (show Below w.heap.size w w1 from (by repeat (first | (with_reducible exact Below.refl _ _) | ((with_reducible refine alloc_ ?_ ?_); (focus (first | exact Nat.le_refl _ | (simp; done) | (simp; omega) | omega))) | ((with_reducible refine set_ ?_ ?_); (focus (first | exact Nat.le_refl _ | (simp; done) | (simp; omega) | omega))) | (with_reducible refine Below.drew ?_) | ((with_reducible refine after_ ?_ (by assumption) ?_); (rotate_left; (focus (first | exact Nat.le_refl _ | (simp; done) | (simp; omega) | omega)))))))
  have HX1 := Lib.hid ((HX.out.alloc _).carry hb1)
  have HS1 := Lib.hid (HS.out.carry hb1)
  have HR1 := Lib.hid (HR.out.carry hb1)
  have lz := hb1.size
  simp only [World.size_alloc] at lz
  clear hb1
  rcases hg : goodD k l with _ | _
  · have H := Lib.hid (show verdP k l = (⟨#[]⟩, false) by simp [verdP, hg])
    go_wp2_with fail
    go_ret2
    exact ⟨by rw [H.out]; rfl, HB1.out⟩
  have H := Lib.hid (show verdP k l = (verd k l, true) by simp [verdP, hg])
  have HG := Lib.hid hg
  have hk := (goodD_true hg).1
  obtain ⟨a1, a2⟩ := allW_bd hk
  obtain ⟨b1, b2⟩ := wires_bd hk
  obtain ⟨N, hN, n1, n2⟩ := strands hk
  have HN := Lib.hid hN
  obtain ⟨a, ha⟩ : ∃ a, k.st * k.wi = a := ⟨_, rfl⟩
  have HA := Lib.hid (show allW k = a from ha)
  rw [show allW k = a from ha] at a1 a2
  have e1 : IntKind.i64.wrap (k.st * k.wi) = a := by rw [ha]; exact IntWalk.i64_in _ (by omega)
  have x1 := HX1.out.cell (j := 1) rfl
  have x2 := HX1.out.cell (j := 2) rfl
  have lx := HX1.out.lt
  clear hg hk hN ha
  go_wp2_with fail
  have HB2 := Lib.hid (show Below w1.heap.size w1 (w1.alloc (.cells #[.int .i64 a] 3)) from (by repeat (first | (with_reducible exact Below.refl _ _) | ((with_reducible refine alloc_ ?_ ?_); (focus (first | exact Nat.le_refl _ | (simp; done) | (simp; omega) | omega))) | ((with_reducible refine set_ ?_ ?_); (focus (first | exact Nat.le_refl _ | (simp; done) | (simp; omega) | omega))) | (with_reducible refine Below.drew ?_) | ((with_reducible refine after_ ?_ (by assumption) ?_); (rotate_left; (focus (first | exact Nat.le_refl _ | (simp; done) | (simp; omega) | omega)))))))
  have HS2 := Lib.hid (HS1.out.carry HB2.out)
  have HR2 := Lib.hid (HR1.out.carry HB2.out)
  have HA2 := Lib.hid (Box.new w1 [.int .i64 a] 3)
  refine (many_c l 10 a (w.heap.size + 1) w1.heap.size A cap _ (good_few HG.out) (good_placed HG.out) (by omega) HR2.out (HS2.out.cell (j := 0) rfl) (HA2.out.cell (j := 0) rfl) HS2.out.lt HA2.out.lt).mono ?_
  rintro e w3 ⟨rfl, hb3⟩
  have HB3 := Lib.hid (HB1.out.trans ((HB2.out.trans (hb3.mono HB2.out.size)).mono HB1.out.size))
  have HX3 := Lib.hid ((HX1.out.carry HB2.out).carry hb3)
  have HS3 := Lib.hid (HS2.out.carry hb3)
  have HA3 := Lib.hid (HA2.out.carry hb3)
  have HR3 := Lib.hid (HR2.out.carry hb3)
  have lz3 := hb3.size
  simp only [World.size_alloc] at lz3
  obtain ⟨r0, hr0⟩ : ∃ r, decide (a < 20 * most l 10 (-1)) = r := ⟨_, rfl⟩
  rw [hr0]
  have HZ := Lib.hid (show runR k l 0 = r0 by rw [runR_zero, HA.out, hr0])
  have y1 := HX3.out.cell (j := 1) rfl
  have ly := HX3.out.lt
  rw [HN.out] at y1
  clear hb3 hr0 x1 x2
  go_wp2_with fail
  go_loopw [8, 9, 10, 11, 26] (fun r _ _ _ i wr => ∃ n : Nat, n ≤ N ∧ i = .int .i64 n ∧ r = .bool (runR k l n) ∧ Below w3.heap.size w3 wr) (fun _ _ _ _ i _ => N - (intOf i).toNat)
  case atStart => exact ⟨0, Nat.zero_le _, rfl, by rw [HZ.out], Below.refl _ _⟩
  case round =>
    obtain ⟨n, hn, rfl, rfl, hbel⟩ := hrel
    have HB := Lib.hid hbel
    have HBw := Lib.hid (HB3.out.trans (hbel.mono HB3.out.size))
    have HXr := Lib.hid (HX3.out.carry hbel)
    have HSr := Lib.hid (HS3.out.carry hbel)
    have HRr := Lib.hid (HR3.out.carry hbel)
    have HAr := Lib.hid (HA3.out.carry hbel)
    have z2 := HXr.out.cell (j := 2) rfl
    have zs := HSr.out.cell (j := 0) rfl
    have lx2 := HXr.out.lt
    have ls2 := HSr.out.lt
    clear hbel
    by_cases hlt : n < N
    · obtain ⟨m1, m2⟩ := most_at HG.out 10 (n : Int)
      obtain ⟨m, hm⟩ : ∃ m, most l 10 (n : Int) = m := ⟨_, rfl⟩
      rw [hm] at m1 m2
      have HM := Lib.hid (show runR k l (n + 1) = (runR k l n || decide (k.wi < 2 * m)) by rw [runR_succ, hm])
      have e2 : IntKind.i64.wrap (2 * m) = 2 * m := IntWalk.i64_in _ (by omega)
      obtain ⟨r, hr⟩ : ∃ r, runR k l n = r := ⟨_, rfl⟩
      rw [hr] at HM ⊢
      clear hr
      go_wp2_with fail
      refine (worstWindow_c l 10 n _ _ _ (good_few HG.out) (good_placed HG.out) (by omega) HRr.out).mono ?_
      rintro e w4 ⟨x, rfl, hb4⟩
      rw [hm]
      have HB4 := Lib.hid (HB.out.trans (hb4.mono HB.out.size))
      have t2 := (HXr.out.carry hb4).cell (j := 2) rfl
      have lt2 := (HXr.out.carry hb4).lt
      clear hb4 hm
      rcases r with _ | _
      all_goals
        go_wp2_with fail
        go_roundw
        case rel => exact ⟨n + 1, by omega, by go_num, by rw [HM.out]; simp, HB4.out⟩
        case measure => simp [intOf]; omega
    · obtain rfl : n = N := by omega
      have HP := Lib.hid (runR_repl (l := l) HN.out)
      rw [HP.out]
      have HW := Lib.hid (show verd k l = if repl k l = true then ⟨#[114, 101, 112, 108, 97, 99, 101]⟩ else if a < 20 * most l 100 (-1) then ⟨#[119, 97, 116, 99, 104]⟩ else sGood by unfold verd; rw [HA.out])
      rcases hrp : repl k l with _ | _
      · go_wp2_with fail
        refine (many_c l 100 a (w.heap.size + 1) w1.heap.size A cap _ (good_few HG.out) (good_placed HG.out) (by omega) HRr.out (HSr.out.cell (j := 0) rfl) (HAr.out.cell (j := 0) rfl) HSr.out.lt HAr.out.lt).mono ?_
        rintro e w4 ⟨rfl, hb4⟩
        have HB4 := Lib.hid (HBw.out.trans (hb4.mono HBw.out.size))
        clear hb4
        by_cases hm : a < 20 * most l 100 (-1)
        · have HV := Lib.hid (show verdP k l = (⟨#[119, 97, 116, 99, 104]⟩, true) by rw [H.out, HW.out, hrp, if_neg (by simp), if_pos hm])
          go_wp2_with fail
          go_ret2
          exact ⟨by rw [HV.out]; rfl, HB4.out⟩
        · have HV := Lib.hid (show verdP k l = (⟨#[103, 111, 111, 100]⟩, true) by rw [H.out, HW.out, hrp, if_neg (by simp), if_neg hm]; rfl)
          go_wp2_with fail
          go_ret2
          exact ⟨by rw [HV.out]; rfl, HB4.out⟩
      · have HV := Lib.hid (show verdP k l = (⟨#[114, 101, 112, 108, 97, 99, 101]⟩, true) by rw [H.out, HW.out, hrp, if_pos rfl])
        go_wp2_with fail
        go_ret2
        exact ⟨by rw [HV.out]; rfl, HBw.out⟩
end Go.Proofs.Ytlgpgcfncmomiaa
