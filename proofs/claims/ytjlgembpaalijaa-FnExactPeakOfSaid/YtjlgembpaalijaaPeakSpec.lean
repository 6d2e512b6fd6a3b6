/- PeakOf of the reference returns the same Lean function as the program's; no conditions but the lengths. -/
import Derived.Test.YtjlgembpaalijaaPeak
namespace Go.Proofs.Ytjlgembpaalijaa
open Go.RowKit

theorem specPeakOf_c (l m : List Int) (A B : Option Addr) (cap cap' : Nat) (w : World) (hl : l.length ≤ 1048576) (hm : m.length ≤ 1048576) (hr : Rd w w.heap.size 1 intCells A l) (hr' : Rd w w.heap.size 1 intCells B m) :
    Calls Try.prog 20 #[.slice A l.length cap, .slice B m.length cap'] w fun e w' => e = .returned (.tuple #[.int .i64 (peak l m).1, .int .i64 (peak l m).2.1, .bool (peak l m).2.2]) ∧ Below w.heap.size w w' := by
  rcases h1 : inR l.length 1 20 with _ | _
  · have Hr := Lib.hid (peak_no (show peakOk l m = false by simp [peakOk, h1]))
    go_enter Try.func20, Try.ntmps20
    go_wp2_with (first | (go_at_call 33; refine (l1In_c _ _ _ _).mono ?_; rintro e w' ⟨rfl, rfl⟩))
    go_ret3
    exact ⟨ret3 Hr.out rfl rfl rfl, (by repeat (first | (with_reducible exact Below.refl _ _) | ((with_reducible refine alloc_ ?_ ?_); (focus (first | exact Nat.le_refl _ | (simp; done) | (simp; omega) | omega))) | ((with_reducible refine set_ ?_ ?_); (focus (first | exact Nat.le_refl _ | (simp; done) | (simp; omega) | omega))) | (with_reducible refine Below.drew ?_) | ((with_reducible refine after_ ?_ (by assumption) ?_); (rotate_left; (focus (first | exact Nat.le_refl _ | (simp; done) | (simp; omega) | omega))))))⟩
  by_cases h2 : m.length = l.length
  · rw [h2]
    obtain ⟨q1, q2⟩ := inR_true.1 h1
    have H2 := Lib.hid h2
    have h2' : ((l.length : Int) != l.length) = false := by simp
    clear h2
    go_enter Try.func20, Try.ntmps20
    go_wp2_with (first | (go_at_call 33; refine (l1In_c _ _ _ _).mono ?_; rintro e w' ⟨rfl, rfl⟩))
    go_loopw [7, 8, 9] (fun mx en i wr => ∃ k : Nat, k ≤ l.length ∧ i = .int .i64 k ∧ mx = .int .i64 (mxTo l k) ∧ en = .int .i64 (enTo l m k) ∧ (∀ j, j < k → inR (nth l j) 0 1000000 = true ∧ inR (nth m j) 0 1000 = true) ∧ Below w.heap.size w wr) (fun _ _ i _ => l.length - (intOf i).toNat)
    case atStart => exact ⟨0, by omega, rfl, rfl, rfl, fun j hj => absurd hj (by omega), Below.refl _ _⟩
    case round =>
      obtain ⟨k, hk, rfl, rfl, rfl, hall, hbel⟩ := hrel
      have HA := Lib.hid hall
      have HB := Lib.hid hbel
      clear hall
      by_cases hlt : k < l.length
      · obtain ⟨b, off, rfl, hb, hc⟩ := (hr.below hbel (Nat.le_refl _)).int hlt
        obtain ⟨b', off', rfl, hb', hc'⟩ := (hr'.below hbel (Nat.le_refl _)).int (show k < m.length by rw [H2.out]; exact hlt)
        have z1 := hbel.size
        have l1 : b < wr.heap.size := by omega
        have l2 : b' < wr.heap.size := by omega
        have i1 : (0 : Int) ≤ (k : Int) := by omega
        have i2 : (k : Int) < l.length := by omega
        clear hbel
        rcases h3 : inR (nth l k) 0 1000000 with _ | _
        · have Hr := Lib.hid (peak_no (show peakOk l m = false by simp [peakOk, allR_no hlt h3]))
          go_wp2_with (first | (go_at_call 33; refine (l1In_c _ _ _ _).mono ?_; rintro e w' ⟨rfl, rfl⟩))
          go_ret3
          exact ⟨ret3 Hr.out rfl rfl rfl, HB.out⟩
        rcases h4 : inR (nth m k) 0 1000 with _ | _
        · have Hr := Lib.hid (peak_no (show peakOk l m = false by simp [peakOk, allR_no (show k < m.length by rw [H2.out]; exact hlt) h4]))
          go_wp2_with (first | (go_at_call 33; refine (l1In_c _ _ _ _).mono ?_; rintro e w' ⟨rfl, rfl⟩))
          go_ret3
          exact ⟨ret3 Hr.out rfl rfl rfl, HB.out⟩
        obtain ⟨e1, e2⟩ := enTo_bd (l := l) (m := m) (n := k) (fun i hi => inR_true.1 (HA.out i hi).1) (fun i hi => inR_true.1 (HA.out i hi).2) k (by omega)
        obtain ⟨e3, e4⟩ := mul_bd2 (inR_true.1 h3) (inR_true.1 h4)
        have e5 : (k : Int) * 1000000000 ≤ 20000000000 := by omega
        go_wp2_with (first | (go_at_call 33; refine (l1In_c _ _ _ _).mono ?_; rintro e w' ⟨rfl, rfl⟩) | (go_at_call 39; refine (l1Most_c _ _ _).mono ?_; rintro e w' ⟨rfl, rfl⟩))
        refine wp_region_mem (by kernel_rfl) (by kernel_rfl) ?_
        repeat (go_big_quiet_step (fail))
        refine wpQuiet_nil ?_
        intro _ hw'
        obtain ⟨⟨wq, hbq⟩, hw''⟩ := hw'
        obtain rfl := hw''.symm
        obtain ⟨hcq, hfq, hzq⟩ := bcell hbq
        try simp [Nat.add_one_le_iff] at hzq
        go_wp2_with fail
        go_roundw
        case rel => exact ⟨k + 1, by omega, by go_num, rfl, rfl, fun j hj => by rcases Nat.lt_succ_iff_lt_or_eq.1 hj with h | h; exact HA.out j h; subst h; exact ⟨h3, h4⟩, HB.out.trans (hbq.mono z1)⟩
        case measure => simp [intOf]; omega
      · obtain rfl : k = l.length := by omega
        have Hr := Lib.hid (peak_yes (show peakOk l m = true by
          simp only [peakOk, allR, h1, H2.out, decide_true, Bool.true_and, Bool.and_eq_true, allTo_true]
          exact ⟨fun i hi => (HA.out i hi).1, fun i hi => (HA.out i hi).2⟩))
        clear hbel
        go_wp2_with fail
        go_ret3
        exact ⟨ret3 Hr.out rfl rfl rfl, HB.out⟩
  · have Hr := Lib.hid (peak_no (show peakOk l m = false by simp [peakOk, h2]))
    have h2' : ((m.length : Int) != l.length) = true := by rw [bne_iff_ne]; omega
    go_enter Try.func20, Try.ntmps20
    go_wp2_with (first | (go_at_call 33; refine (l1In_c _ _ _ _).mono ?_; rintro e w' ⟨rfl, rfl⟩))
    go_ret3
    exact ⟨ret3 Hr.out rfl rfl rfl, (by repeat (first | (with_reducible exact Below.refl _ _) | ((with_reducible refine alloc_ ?_ ?_); (focus (first | exact Nat.le_refl _ | (simp; done) | (simp; omega) | omega))) | ((with_reducible refine set_ ?_ ?_); (focus (first | exact Nat.le_refl _ | (simp; done) | (simp; omega) | omega))) | (with_reducible refine Below.drew ?_) | ((with_reducible refine after_ ?_ (by assumption) ?_); (rotate_left; (focus (first | exact Nat.le_refl _ | (simp; done) | (simp; omega) | omega))))))⟩
end Go.Proofs.Ytjlgembpaalijaa
