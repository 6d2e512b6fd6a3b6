/- Lists of damages: the reference's test; no conditions but the length and a kind that is not far off. -/
import Derived.Test.YtlgpgcfncmomiaaDamList
namespace Go.Proofs.Ytlgpgcfncmomiaa
open Go.RowKit

theorem l2Place_c (n : Int) (w : World) : Calls Try.prog 42 #[.int .i64 n] w fun e w' => e = .returned (.bool (inR n 0 3000)) ∧ w = w' := by
  go_enter Try.func42, Try.ntmps42
  go_wp2_with (go_at_call 43; refine (l1In_c _ _ _ _).mono ?_; rintro e w' ⟨rfl, rfl⟩)
  go_ret
  exact ⟨rfl, rfl⟩
set_option maxHeartbeats 1600000 in
theorem l3Good_c (k : Kin) (l : List Dam) (A : Option Addr) (cap : Nat) (w : World) (hl : l.length ≤ 1048576) (hst : -1000 ≤ k.st ∧ k.st ≤ 1000) (hr : Rd w w.heap.size 3 Dam.cells A l) :
    Calls Try.prog 27 #[.agg #[.int .i64 k.i, .int .i64 k.st, .int .i64 k.wi, .int .i64 k.we, .int .i64 k.sg], .slice A l.length cap] w fun e w' => e = .returned (.bool (goodD k l)) ∧ Below w.heap.size w w' := by
  have HX := Lib.hid (Box.new w k.cells 25)
  have ws : IntKind.i64.wrap (k.st - 1) = k.st - 1 := IntWalk.i64_in _ (by omega)
  have HK := Lib.hid (l3Kind_c k)
  clear hst
  go_enter Try.func27, Try.ntmps27
  go_wp2_with fail
  have HB1 := Lib.hid (show Below w.heap.size w (w.alloc (.cells #[.int .i64 k.i, .int .i64 k.st, .int .i64 k.wi, .int .i64 k.we, .int .i64 k.sg] 25)) from (by repeat (first | (with_reducible exact Below.refl _ _) | ((with_reducible refine alloc_ ?_ ?_); (focus (first | exact Nat.le_refl _ | (simp; done) | (simp; omega) | omega))) | ((with_reducible refine set_ ?_ ?_); (focus (first | exact Nat.le_refl _ | (simp; done) | (simp; omega) | omega))) | (with_reducible refine Below.drew ?_) | ((with_reducible refine after_ ?_ (by assumption) ?_); (rotate_left; (focus (first | exact Nat.le_refl _ | (simp; done) | (simp; omega) | omega)))))))
  go_loopw [5, 6] (fun i _ wr => ∃ n : Nat, n ≤ l.length ∧ i = .int .i64 n ∧ (∀ j, j < n → (okDm k (nth l j) && prevD l j) = true) ∧ Below w.heap.size w wr ∧ Box wr w.heap.size 25 5 k.cells) (fun i _ _ => l.length - (intOf i).toNat)
  case atStart => exact ⟨0, Nat.zero_le _, rfl, fun j hj => absurd hj (by omega), HB1.out, HX.out⟩
  case round =>
    obtain ⟨n, hn, rfl, hall, hbel, hbx⟩ := hrel
    have HB := Lib.hid hbel
    have HBx := Lib.hid hbx
    have HA := Lib.hid hall
    have k0 := hbx.cell (j := 0) rfl
    have k1 := hbx.cell (j := 1) rfl
    have k2 := hbx.cell (j := 2) rfl
    have k3 := hbx.cell (j := 3) rfl
    have k4 := hbx.cell (j := 4) rfl
    have lx := hbx.lt
    clear hall hbx
    by_cases hlt : n < l.length
    · obtain ⟨b, off, rfl, hb1, hcs⟩ := Dam.rd (hr.below hbel (Nat.le_refl _)) hlt
      have z1 := hbel.size
      have l1 : b < wr.heap.size := by omega
      have i1 : (0 : Int) ≤ (n : Int) := by omega
      have i2 : (n : Int) < l.length := by omega
      rcases a1 : inR (nth l n).a 0 3000 with _ | _
      · have H := Lib.hid (goodD_no (k := k) hlt (by simp [okDm, a1]))
        clear hbel
        go_wp2_with (first | (go_at_call 42; refine (l2Place_c _ _).mono ?_; rintro e w9 ⟨rfl, rfl⟩; rw [a1]) | (go_at_call 43; refine (l1In_c _ _ _ _).mono ?_; rintro e w9 ⟨rfl, rfl⟩; first | rw [a2] | rw [a3]))
        go_ret
        exact ⟨retb H.out.symm, (HB.out.trans (Below.mono (B := wr.heap.size) (by repeat (first | (with_reducible exact Below.refl _ _) | ((with_reducible refine alloc_ ?_ ?_); (focus (first | exact Nat.le_refl _ | (simp; done) | (simp; omega) | omega))) | ((with_reducible refine set_ ?_ ?_); (focus (first | exact Nat.le_refl _ | (simp; done) | (simp; omega) | omega))) | (with_reducible refine Below.drew ?_) | ((with_reducible refine after_ ?_ (by assumption) ?_); (rotate_left; (focus (first | exact Nat.le_refl _ | (simp; done) | (simp; omega) | omega)))))) z1))⟩
      rcases a2 : inR (nth l n).s 0 (k.st - 1) with _ | _
      · have H := Lib.hid (goodD_no (k := k) hlt (by simp [okDm, a1, a2]))
        clear hbel
        go_wp2_with (first | (go_at_call 42; refine (l2Place_c _ _).mono ?_; rintro e w9 ⟨rfl, rfl⟩; rw [a1]) | (go_at_call 43; refine (l1In_c _ _ _ _).mono ?_; rintro e w9 ⟨rfl, rfl⟩; first | rw [a2] | rw [a3]))
        go_ret
        exact ⟨retb H.out.symm, (HB.out.trans (Below.mono (B := wr.heap.size) (by repeat (first | (with_reducible exact Below.refl _ _) | ((with_reducible refine alloc_ ?_ ?_); (focus (first | exact Nat.le_refl _ | (simp; done) | (simp; omega) | omega))) | ((with_reducible refine set_ ?_ ?_); (focus (first | exact Nat.le_refl _ | (simp; done) | (simp; omega) | omega))) | (with_reducible refine Below.drew ?_) | ((with_reducible refine after_ ?_ (by assumption) ?_); (rotate_left; (focus (first | exact Nat.le_refl _ | (simp; done) | (simp; omega) | omega)))))) z1))⟩
      rcases a3 : inR (nth l n).w 1 k.wi with _ | _
      · have H := Lib.hid (goodD_no (k := k) hlt (by simp [okDm, a1, a2, a3]))
        clear hbel
        go_wp2_with (first | (go_at_call 42; refine (l2Place_c _ _).mono ?_; rintro e w9 ⟨rfl, rfl⟩; rw [a1]) | (go_at_call 43; refine (l1In_c _ _ _ _).mono ?_; rintro e w9 ⟨rfl, rfl⟩; first | rw [a2] | rw [a3]))
        go_ret
        exact ⟨retb H.out.symm, (HB.out.trans (Below.mono (B := wr.heap.size) (by repeat (first | (with_reducible exact Below.refl _ _) | ((with_reducible refine alloc_ ?_ ?_); (focus (first | exact Nat.le_refl _ | (simp; done) | (simp; omega) | omega))) | ((with_reducible refine set_ ?_ ?_); (focus (first | exact Nat.le_refl _ | (simp; done) | (simp; omega) | omega))) | (with_reducible refine Below.drew ?_) | ((with_reducible refine after_ ?_ (by assumption) ?_); (rotate_left; (focus (first | exact Nat.le_refl _ | (simp; done) | (simp; omega) | omega)))))) z1))⟩
      have h1 : okDm k (nth l n) = true := by simp [okDm, a1, a2, a3]
      by_cases hk0 : n = 0
      · subst hk0
        simp only [Nat.zero_mul, Nat.add_zero] at hcs
        have H := Lib.hid (show (okDm k (nth l 0) && prevD l 0) = true by simp [prevD, h1])
        clear hbel
        go_wp2_with (first | (go_at_call 42; refine (l2Place_c _ _).mono ?_; rintro e w9 ⟨rfl, rfl⟩; rw [a1]) | (go_at_call 43; refine (l1In_c _ _ _ _).mono ?_; rintro e w9 ⟨rfl, rfl⟩; first | rw [a2] | rw [a3]))
        refine wp_region_mem (by kernel_rfl) (by kernel_rfl) ?_
        repeat (go_big_quiet_step (fail))
        refine wpQuiet_nil ?_
        intro _ hw'
        obtain ⟨⟨wq, hbq⟩, hw''⟩ := hw'
        obtain rfl := hw''.symm
        obtain ⟨hcq, hfq, hzq⟩ := bcell hbq
        try simp [Nat.add_one_le_iff] at hzq
        go_wp2_with fail
        go_roundw
        case rel => exact ⟨1, by omega, by first | rfl | go_num, below_add HA.out H.out, bel_step HB.out hbq z1, (HBx.out.alloc _).carry hbq⟩
        case measure => simp [intOf]; omega
      · obtain ⟨j, rfl⟩ : ∃ j, n = j + 1 := ⟨n - 1, by omega⟩
        obtain ⟨b', off', he, hb2, hds⟩ := Dam.rd (hr.below hbel (Nat.le_refl _)) (show j < l.length by omega)
        simp only [Option.some.injEq, Addr.mk.injEq, and_true] at he
        obtain ⟨rfl, rfl⟩ := he
        have i3 : (0 : Int) ≤ (j : Int) := by omega
        have i4 : (j : Int) < l.length := by omega
        have i5 : decide ((0 : Int) < (j : Int) + 1) = true := by first | (simp; done) | (simp; omega)
        have wj := wrapNat (show j ≤ 9000000 by omega)
        clear hbel hk0
        rcases Int.lt_trichotomy (nth l j).a (nth l (j + 1)).a with h | h | h
        · have c1 : decide ((nth l (j + 1)).a < (nth l j).a) = false := decide_eq_false (by omega)
          have c2 : ((nth l j).a == (nth l (j + 1)).a) = false := by simp; omega
          have H := Lib.hid (show (okDm k (nth l (j + 1)) && prevD l (j + 1)) = true by simp [prevD, ltD, h1, h])
          clear h
          go_wp2_with (first | (go_at_call 42; refine (l2Place_c _ _).mono ?_; rintro e w9 ⟨rfl, rfl⟩; rw [a1]) | (go_at_call 43; refine (l1In_c _ _ _ _).mono ?_; rintro e w9 ⟨rfl, rfl⟩; first | rw [a2] | rw [a3]))
          refine wp_region_mem (by kernel_rfl) (by kernel_rfl) ?_
          repeat (go_big_quiet_step (fail))
          refine wpQuiet_nil ?_
          intro _ hw'
          obtain ⟨⟨wq, hbq⟩, hw''⟩ := hw'
          obtain rfl := hw''.symm
          obtain ⟨hcq, hfq, hzq⟩ := bcell hbq
          try simp [Nat.add_one_le_iff] at hzq
          go_wp2_with fail
          go_roundw
          case rel => exact ⟨j + 1 + 1, by omega, by go_num, below_add HA.out H.out, bel_step HB.out hbq z1, (HBx.out.alloc _).carry hbq⟩
          case measure => simp [intOf]; omega
        · have c1 : decide ((nth l (j + 1)).a < (nth l j).a) = false := decide_eq_false (by omega)
          have c2 : ((nth l j).a == (nth l (j + 1)).a) = true := by simp; omega
          by_cases hs : (nth l (j + 1)).s ≤ (nth l j).s
          · have c3 : decide ((nth l (j + 1)).s ≤ (nth l j).s) = true := decide_eq_true hs
            have H := Lib.hid (goodD_no (k := k) hlt (by simp [prevD, ltD]; intros; omega))
            clear h hs
            go_wp2_with (first | (go_at_call 42; refine (l2Place_c _ _).mono ?_; rintro e w9 ⟨rfl, rfl⟩; rw [a1]) | (go_at_call 43; refine (l1In_c _ _ _ _).mono ?_; rintro e w9 ⟨rfl, rfl⟩; first | rw [a2] | rw [a3]))
            refine wp_region_mem (by kernel_rfl) (by kernel_rfl) ?_
            repeat (go_big_quiet_step (fail))
            refine wpQuiet_nil ?_
            intro _ hw'
            obtain ⟨⟨wq, hbq⟩, hw''⟩ := hw'
            obtain rfl := hw''.symm
            obtain ⟨hcq, hfq, hzq⟩ := bcell hbq
            try simp [Nat.add_one_le_iff] at hzq
            go_wp2_with fail
            go_ret
            exact ⟨retb H.out.symm, bel_step HB.out hbq z1⟩
          · have c3 : decide ((nth l (j + 1)).s ≤ (nth l j).s) = false := decide_eq_false hs
            have H := Lib.hid (show (okDm k (nth l (j + 1)) && prevD l (j + 1)) = true by simp [prevD, ltD, h1, h]; omega)
            clear h hs
            go_wp2_with (first | (go_at_call 42; refine (l2Place_c _ _).mono ?_; rintro e w9 ⟨rfl, rfl⟩; rw [a1]) | (go_at_call 43; refine (l1In_c _ _ _ _).mono ?_; rintro e w9 ⟨rfl, rfl⟩; first | rw [a2] | rw [a3]))
            refine wp_region_mem (by kernel_rfl) (by kernel_rfl) ?_
            repeat (go_big_quiet_step (fail))
            refine wpQuiet_nil ?_
            intro _ hw'
            obtain ⟨⟨wq, hbq⟩, hw''⟩ := hw'
            obtain rfl := hw''.symm
            obtain ⟨hcq, hfq, hzq⟩ := bcell hbq
            try simp [Nat.add_one_le_iff] at hzq
            go_wp2_with fail
            go_roundw
            case rel => exact ⟨j + 1 + 1, by omega, by go_num, below_add HA.out H.out, bel_step HB.out hbq z1, (HBx.out.alloc _).carry hbq⟩
            case measure => simp [intOf]; omega
        · have c1 : decide ((nth l (j + 1)).a < (nth l j).a) = true := decide_eq_true h
          have H := Lib.hid (goodD_no (k := k) hlt (by simp [prevD, ltD]; intros; omega))
          clear h
          go_wp2_with (first | (go_at_call 42; refine (l2Place_c _ _).mono ?_; rintro e w9 ⟨rfl, rfl⟩; rw [a1]) | (go_at_call 43; refine (l1In_c _ _ _ _).mono ?_; rintro e w9 ⟨rfl, rfl⟩; first | rw [a2] | rw [a3]))
          refine wp_region_mem (by kernel_rfl) (by kernel_rfl) ?_
          repeat (go_big_quiet_step (fail))
          refine wpQuiet_nil ?_
          intro _ hw'
          obtain ⟨⟨wq, hbq⟩, hw''⟩ := hw'
          obtain rfl := hw''.symm
          obtain ⟨hcq, hfq, hzq⟩ := bcell hbq
          try simp [Nat.add_one_le_iff] at hzq
          go_wp2_with fail
          go_ret
          exact ⟨retb H.out.symm, bel_step HB.out hbq z1⟩
    · obtain rfl : n = l.length := by omega
      clear hbel
      have H := Lib.hid (goodD_all (k := k) HA.out)
      go_wp2_with (go_at_call 36; refine (HK.out _).mono ?_; rintro e w2 ⟨rfl, hb2⟩)
      all_goals (go_ret; exact ⟨retb (by rw [H.out]; simp [*] <;> omega), HB.out.trans (hb2.mono HB.out.size)⟩)
end Go.Proofs.Ytlgpgcfncmomiaa
