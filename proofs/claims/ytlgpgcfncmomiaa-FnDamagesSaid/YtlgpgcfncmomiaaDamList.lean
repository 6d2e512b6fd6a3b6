/- Lists of damages: the program's and the reference's test return one Lean function; no conditions but the length. -/
import Derived.Test.YtlgpgcfncmomiaaDamGood
namespace Go.Proofs.Ytlgpgcfncmomiaa
open Go.RowKit

theorem goodD_kin {k : Kin} {l : List Dam} (h : okKd k = false) : goodD k l = false := by simp [goodD, h]
theorem goodD_long {k : Kin} {l : List Dam} (h : 15 < l.length) : goodD k l = false := by simp [goodD]; intros; omega
theorem goodD_no {k : Kin} {l : List Dam} {i : Nat} (hi : i < l.length) (h : (okDm k (nth l i) && prevD l i) = false) : goodD k l = false := by
  have := allTo_no (p := fun i => okDm k (nth l i) && prevD l i) hi h
  simp [goodD, this]
theorem goodD_all {k : Kin} {l : List Dam} (h : ∀ i, i < l.length → (okDm k (nth l i) && prevD l i) = true) : goodD k l = (okKd k && decide (l.length ≤ 15)) := by
  simp only [goodD, allTo_true.2 h, Bool.and_true]
def Kin.cells (k : Kin) : List Value := [.int .i64 k.i, .int .i64 k.st, .int .i64 k.wi, .int .i64 k.we, .int .i64 k.sg]
theorem wrapNat {n : Nat} (h : n ≤ 9000000) : IntKind.i64.wrap (n : Int) = n := IntWalk.i64_in _ (by omega)
theorem cmpD_ge {x y : Dam} : decide (0 ≤ cmpD x y) = !ltD x y := by
  rw [cmpD_lt, Bool.eq_iff_iff]; simp
theorem bel_step {B : Nat} {a w wq : World} {o : Obj} (h : Below B a w) (hb : Below (w.alloc o).heap.size (w.alloc o) wq) (hB : B ≤ w.heap.size) : Below B a wq := (h.alloc hB o).trans (hb.mono (by simp; omega))
set_option maxHeartbeats 1600000 in
theorem AreDamages_c (k : Kin) (l : List Dam) (A : Option Addr) (cap : Nat) (w : World) (hl : l.length ≤ 1048576) (hr : Rd w w.heap.size 3 Dam.cells A l) :
    Calls Try.prog 10 #[.agg #[.int .i64 k.i, .int .i64 k.st, .int .i64 k.wi, .int .i64 k.we, .int .i64 k.sg], .slice A l.length cap] w fun e w' => e = .returned (.bool (goodD k l)) ∧ Below w.heap.size w w' := by
  have HX := Lib.hid (Box.new w k.cells 25)
  rcases hk : okKd k with _ | _
  · have H := Lib.hid (goodD_kin (l := l) hk)
    go_enter Try.func10, Try.ntmps10
    go_wp2_with (go_at_call 17; refine (isRopeKind_c k _).mono ?_; rintro e w1 ⟨rfl, hb1⟩; rw [hk])
    go_ret
    exact ⟨retb H.out.symm, (by repeat (first | (with_reducible exact Below.refl _ _) | ((with_reducible refine alloc_ ?_ ?_); (focus (first | exact Nat.le_refl _ | (simp; done) | (simp; omega) | omega))) | ((with_reducible refine set_ ?_ ?_); (focus (first | exact Nat.le_refl _ | (simp; done) | (simp; omega) | omega))) | (with_reducible refine Below.drew ?_) | ((with_reducible refine after_ ?_ (by assumption) ?_); (rotate_left; (focus (first | exact Nat.le_refl _ | (simp; done) | (simp; omega) | omega))))))⟩
  by_cases h15 : 15 < l.length
  · have H := Lib.hid (goodD_long (k := k) h15)
    have h16 : (15 : Int) < l.length := by omega
    go_enter Try.func10, Try.ntmps10
    go_wp2_with (go_at_call 17; refine (isRopeKind_c k _).mono ?_; rintro e w1 ⟨rfl, hb1⟩; rw [hk])
    go_ret
    exact ⟨retb H.out.symm, (by repeat (first | (with_reducible exact Below.refl _ _) | ((with_reducible refine alloc_ ?_ ?_); (focus (first | exact Nat.le_refl _ | (simp; done) | (simp; omega) | omega))) | ((with_reducible refine set_ ?_ ?_); (focus (first | exact Nat.le_refl _ | (simp; done) | (simp; omega) | omega))) | (with_reducible refine Below.drew ?_) | ((with_reducible refine after_ ?_ (by assumption) ?_); (rotate_left; (focus (first | exact Nat.le_refl _ | (simp; done) | (simp; omega) | omega))))))⟩
  have HK := Lib.hid hk
  have h16 : ¬ (15 : Int) < l.length := by omega
  go_enter Try.func10, Try.ntmps10
  go_wp2_with (go_at_call 17; refine (isRopeKind_c k _).mono ?_; rintro e w1 ⟨rfl, hb1⟩; rw [hk])
  have HB1 := Lib.hid (show Below w.heap.size w w1 from (by repeat (first | (with_reducible exact Below.refl _ _) | ((with_reducible refine alloc_ ?_ ?_); (focus (first | exact Nat.le_refl _ | (simp; done) | (simp; omega) | omega))) | ((with_reducible refine set_ ?_ ?_); (focus (first | exact Nat.le_refl _ | (simp; done) | (simp; omega) | omega))) | (with_reducible refine Below.drew ?_) | ((with_reducible refine after_ ?_ (by assumption) ?_); (rotate_left; (focus (first | exact Nat.le_refl _ | (simp; done) | (simp; omega) | omega)))))))
  have HX1 := Lib.hid (HX.out.carry hb1)
  have hxl := HX1.out.lt
  clear hb1 hk h15 h16
  go_loopw [5, 6, 17] (fun _ _ i wr => ∃ k' : Nat, k' ≤ l.length ∧ i = .int .i64 k' ∧ (∀ j, j < k' → (okDm k (nth l j) && prevD l j) = true) ∧ Below w1.heap.size w1 wr) (fun _ _ i _ => l.length - (intOf i).toNat)
  case atStart => exact ⟨0, Nat.zero_le _, rfl, fun j hj => absurd hj (by omega), Below.refl _ _⟩
  case round =>
    obtain ⟨n, hn, rfl, hall, hbel0⟩ := hrel
    have hbel := HB1.out.trans (hbel0.mono HB1.out.size)
    have HB := Lib.hid hbel0
    have HBw := Lib.hid hbel
    have HA := Lib.hid hall
    have hbx := HX1.out.below hbel0 hxl
    have k0 := hbx.cell (j := 0) rfl
    have k1 := hbx.cell (j := 1) rfl
    have k2 := hbx.cell (j := 2) rfl
    have k3 := hbx.cell (j := 3) rfl
    have k4 := hbx.cell (j := 4) rfl
    have lx := hbx.lt
    clear hall hbel0 hbx
    by_cases hlt : n < l.length
    · obtain ⟨b, off, rfl, hb1, hcs⟩ := Dam.rd (hr.below hbel (Nat.le_refl _)) hlt
      have z1 := hbel.size
      have l1 : b < wr.heap.size := by omega
      have i1 : (0 : Int) ≤ (n : Int) := by omega
      have i2 : (n : Int) < l.length := by omega
      rcases h1 : okDm k (nth l n) with _ | _
      · have H := Lib.hid (goodD_no (k := k) hlt (by simp [h1]))
        clear hbel
        go_wp2_with fail
        refine wp_region_mem (by kernel_rfl) (by kernel_rfl) ?_
        repeat (go_big_quiet_step ((go_at_call 22; exact mem_bool (isDamage_c k _ _ HK.out) h1)))
        refine wpQuiet_nil ?_
        intro _ hw'
        obtain ⟨⟨wq, hbq⟩, hw''⟩ := hw'
        obtain rfl := hw''.symm
        obtain ⟨hcq, hfq, hzq⟩ := bcell hbq
        try simp [Nat.add_one_le_iff] at hzq
        go_wp2_with fail
        go_ret
        exact ⟨retb H.out.symm, bel_step HBw.out hbq z1⟩
      by_cases hk0 : n = 0
      · subst hk0
        simp only [Nat.zero_mul, Nat.add_zero] at hcs
        have H := Lib.hid (show (okDm k (nth l 0) && prevD l 0) = true by simp [prevD, h1])
        clear hbel
        go_wp2_with fail
        refine wp_region_mem (by kernel_rfl) (by kernel_rfl) ?_
        repeat (go_big_quiet_step ((go_at_call 22; exact mem_bool (isDamage_c k _ _ HK.out) h1)))
        refine wpQuiet_nil ?_
        intro _ hw'
        obtain ⟨⟨wq, hbq⟩, hw''⟩ := hw'
        obtain rfl := hw''.symm
        obtain ⟨hcq, hfq, hzq⟩ := bcell hbq
        try simp [Nat.add_one_le_iff] at hzq
        go_wp2_with fail
        go_roundw
        case rel => exact ⟨1, by omega, by first | rfl | go_num, below_add HA.out H.out, bel_step HB.out hbq HB.out.size⟩
        case measure => simp [intOf]; omega
      · obtain ⟨j, rfl⟩ : ∃ j, n = j + 1 := ⟨n - 1, by omega⟩
        obtain ⟨b', off', he, hb2, hds⟩ := Dam.rd (hr.below hbel (Nat.le_refl _)) (show j < l.length by omega)
        simp only [Option.some.injEq, Addr.mk.injEq, and_true] at he
        obtain ⟨rfl, rfl⟩ := he
        have i3 : (0 : Int) ≤ (j : Int) := by omega
        have i4 : (j : Int) < l.length := by omega
        have i5 : decide ((0 : Int) < (j : Int) + 1) = true := by first | (simp; done) | (simp; omega)
        have wj := wrapNat (show j ≤ 9000000 by omega)
        clear hbel hk0
        rcases hm : ltD (nth l j) (nth l (j + 1)) with _ | _
        · have H := Lib.hid (goodD_no (k := k) hlt (by simp [prevD, hm]))
          have hc : decide (0 ≤ cmpD (nth l j) (nth l (j + 1))) = true := by rw [cmpD_ge, hm]; rfl
          go_wp2_with fail
          refine wp_region_mem (by kernel_rfl) (by kernel_rfl) ?_
          repeat (go_big_quiet_step ((first | (go_at_call 22; exact mem_bool (isDamage_c k _ _ HK.out) h1) | (go_at_call 25; exact mem_of (compareDamages_c (nth l j) (nth l (j + 1)) _)))))
          refine wpQuiet_nil ?_
          intro _ hw'
          obtain ⟨⟨wq, hbq⟩, hw''⟩ := hw'
          obtain rfl := hw''.symm
          obtain ⟨hcq, hfq, hzq⟩ := bcell hbq
          try simp [Nat.add_one_le_iff] at hzq
          go_wp2_with fail
          go_ret
          exact ⟨retb H.out.symm, bel_step HBw.out hbq z1⟩
        · have H := Lib.hid (show (okDm k (nth l (j + 1)) && prevD l (j + 1)) = true by simp [prevD, h1, hm])
          have hc : decide (0 ≤ cmpD (nth l j) (nth l (j + 1))) = false := by rw [cmpD_ge, hm]; rfl
          go_wp2_with fail
          refine wp_region_mem (by kernel_rfl) (by kernel_rfl) ?_
          repeat (go_big_quiet_step ((first | (go_at_call 22; exact mem_bool (isDamage_c k _ _ HK.out) h1) | (go_at_call 25; exact mem_of (compareDamages_c (nth l j) (nth l (j + 1)) _)))))
          refine wpQuiet_nil ?_
          intro _ hw'
          obtain ⟨⟨wq, hbq⟩, hw''⟩ := hw'
          obtain rfl := hw''.symm
          obtain ⟨hcq, hfq, hzq⟩ := bcell hbq
          try simp [Nat.add_one_le_iff] at hzq
          go_wp2_with fail
          go_roundw
          case rel => exact ⟨j + 1 + 1, by omega, by go_num, below_add HA.out H.out, bel_step HB.out hbq HB.out.size⟩
          case measure => simp [intOf]; omega
    · obtain rfl : n = l.length := by omega
      clear hbel
      have H := Lib.hid (goodD_all (k := k) HA.out)
      go_wp2_with fail
      go_ret
      exact ⟨retb (by rw [H.out, HK.out]; simp; omega), HBw.out⟩
end Go.Proofs.Ytlgpgcfncmomiaa
