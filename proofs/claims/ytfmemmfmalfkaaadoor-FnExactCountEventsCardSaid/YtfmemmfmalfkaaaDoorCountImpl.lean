/- CountEvents of the program returns the same Lean function; no conditions but that the list of kinds lies where the program's text lays it. -/
import Derived.Test.YtfmemmfmalfkaaaDoorCount
namespace Go.Proofs.YtfmemmfmalfkaaaDoor
open Go.RowKit

theorem implCountEvents_c (l : List Evt) (A : Option Addr) (cap : Nat) (s : ByteArray) (w : World) (hr : Rd w w.heap.size 2 Evt.cells A l) (hl : l.length ≤ 1048576) (hk : Rd w w.heap.size 1 strCells (some ⟨0, 0, none⟩) kindsB) :
    Calls Tryd.prog 13 #[.slice A l.length cap, .string s] w (CntIs l s w) := by
  by_cases hl20 : l.length ≤ 20
  case neg =>
    have H := Lib.hid (cntP_no (s := s) (goodE_long (l := l) (by omega)))
    clear hk
    go_enter Tryd.func13, Tryd.ntmps13
    go_wp2_with fail
    go_ret3
    exact ⟨by rw [H.out]; rfl, (by repeat (first | (with_reducible exact Below.refl _ _) | ((with_reducible refine alloc_ ?_ ?_); (focus (first | exact Nat.le_refl _ | (simp; done) | (simp; omega) | omega))) | ((with_reducible refine set_ ?_ ?_); (focus (first | exact Nat.le_refl _ | (simp; done) | (simp; omega) | omega))) | (with_reducible refine Below.drew ?_) | ((with_reducible refine after_ ?_ (by assumption) ?_); (rotate_left; (focus (first | exact Nat.le_refl _ | (simp; done) | (simp; omega) | omega))))))⟩
  have HK := Lib.hid hk
  clear hk
  have HC := Lib.hid (evsContains_c l A l.length cap w rfl (by simp [maxLen]; omega) hr (fun x => !okE x) (fun x w' hb => evClo_c x w' ((HK.out.below hb (Nat.le_refl _)).mono hb.size)))
  rcases ho : anyTo l.length (fun j => !okE (nth l j)) with _ | _
  case true =>
    have hex : ∃ k, k < l.length ∧ okE (nth l k) = false := Classical.byContradiction fun hn => by
      rw [anyTo_none (fun i hi => by
        rcases h : okE (nth l i) with _ | _
        · exact absurd ⟨i, hi, h⟩ hn
        · rfl)] at ho
      cases ho
    obtain ⟨k, hk1, hk2⟩ := hex
    have H := Lib.hid (cntP_no (s := s) (goodE_bad hk1 hk2))
    have HO := Lib.hid ho
    clear ho hk1 hk2
    go_enter Tryd.func13, Tryd.ntmps13
    go_wp2_with fail
    refine HC.out.mono ?_
    rintro e w1 ⟨rfl, hb1⟩
    rw [HO.out]
    go_wp2_with fail
    go_ret3
    exact ⟨by rw [H.out]; rfl, hb1⟩
  have hall : ∀ i, i < l.length → okE (nth l i) = true := fun i hi => by
    have := anyTo_false ho i hi
    simpa using this
  have HS := Lib.hid (show ∀ W : World, Below w.heap.size w W → ∀ c, Calls Tryd.prog 20 #[.slice (some ⟨0, 0, none⟩) 8 c, .string s] W fun e w' => e = .returned (.bool (decide (0 ≤ most s))) ∧ W = w' from fun W hW c => by
    have := containsS_c kindsB _ 8 c s W rfl (by decide) ((HK.out.below hW (Nat.le_refl _)).mono hW.size)
    rwa [isIn_kinds] at this)
  obtain ⟨m, hm⟩ : ∃ m, most s = m := ⟨_, rfl⟩
  rw [hm] at HS
  have HO := Lib.hid ho
  clear ho
  by_cases hm0 : m < 0
  · have H := Lib.hid (cntP_no (goodE_kind (l := l) (by rw [hm]; exact hm0)))
    clear hm
    have HN := Lib.hid (show decide (0 ≤ m) = false by simp; omega)
    go_enter Tryd.func13, Tryd.ntmps13
    go_wp2_with fail
    refine HC.out.mono ?_
    rintro e w1 ⟨rfl, hb1⟩
    rw [HO.out]
    go_wp2_with fail
    refine (HS.out _ hb1 _).mono ?_
    rintro e w2 ⟨rfl, rfl⟩
    rw [HN.out]
    go_wp2_with fail
    go_ret3
    exact ⟨by rw [H.out]; rfl, hb1⟩
  have HG := Lib.hid (cntP_yes (goodE_all (s := s) hl20 hall (by rw [hm]; omega)))
  have HL := Lib.hid hall
  clear hm hall
  have HN := Lib.hid (show decide (0 ≤ m) = true by simp; omega)
  go_enter Tryd.func13, Tryd.ntmps13
  go_wp2_with fail
  refine HC.out.mono ?_
  rintro e w1 ⟨rfl, hb1⟩
  rw [HO.out]
  go_wp2_with fail
  refine (HS.out _ hb1 _).mono ?_
  rintro e w2 ⟨rfl, rfl⟩
  rw [HN.out]
  have HB1 := Lib.hid hb1
  clear hb1
  go_wp2_with fail
  go_loopw [7, 8, 10, 26] (fun c t _ i wr => ∃ (k : Nat) (cv tv : Int), k ≤ l.length ∧ c = .int .i64 cv ∧ t = .int .i64 tv ∧ i = .int .i64 k ∧ (cv = cntTo l s k ∧ tv = sumTo l s k) ∧ Below w.heap.size w wr) (fun _ _ _ i _ => l.length - (intOf i).toNat)
  case atStart => exact ⟨0, 0, 0, Nat.zero_le _, rfl, rfl, rfl, ⟨rfl, rfl⟩, HB1.out⟩
  case round =>
    obtain ⟨k, cv, tv, hk, rfl, rfl, rfl, hvv, hbel⟩ := hrel
    have hb1 : 0 ≤ cv ∧ cv ≤ k := by rw [hvv.1]; exact cnt_in l s k
    have hb2 : 0 ≤ tv ∧ tv ≤ 100 * k := by rw [hvv.2]; exact sum_in fun j hj => HL.out j (by omega)
    obtain ⟨hc1, hc2⟩ := hb1
    obtain ⟨ht1, ht2⟩ := hb2
    have HB := Lib.hid hbel
    have HV := Lib.hid hvv
    clear hvv
    by_cases hlt : k < l.length
    · have z1 := hbel.size
      obtain ⟨b, off, rfl, hb1, a0, a1⟩ := Evt.rd (hr.below hbel (Nat.le_refl _)) hlt
      clear hbel
      have hx := okE_in (HL.out k hlt)
      rcases hh : hitE l s k with _ | _
      · have HC := Lib.hid (show cv = cntTo l s (k + 1) ∧ tv = sumTo l s (k + 1) by rw [cntTo, sumTo, hh, ← HV.out.1, ← HV.out.2]; simp)
        unfold hitE at hh
        go_wp2_with fail
        go_roundw
        case rel => exact ⟨k + 1, cv, tv, by omega, by go_num, by go_num, by go_num, HC.out, (HB.out.trans (Below.mono (B := wr.heap.size) (by repeat (first | (with_reducible exact Below.refl _ _) | ((with_reducible refine alloc_ ?_ ?_); (focus (first | exact Nat.le_refl _ | (simp; done) | (simp; omega) | omega))) | ((with_reducible refine set_ ?_ ?_); (focus (first | exact Nat.le_refl _ | (simp; done) | (simp; omega) | omega))) | (with_reducible refine Below.drew ?_) | ((with_reducible refine after_ ?_ (by assumption) ?_); (rotate_left; (focus (first | exact Nat.le_refl _ | (simp; done) | (simp; omega) | omega)))))) z1))⟩
        case measure => simp [intOf]; omega
      · have HC := Lib.hid (show cv + 1 = cntTo l s (k + 1) ∧ tv + (nth l k).c = sumTo l s (k + 1) by rw [cntTo, sumTo, hh, ← HV.out.1, ← HV.out.2]; simp)
        unfold hitE at hh
        go_wp2_with fail
        go_roundw
        case rel => exact ⟨k + 1, cv + 1, tv + (nth l k).c, by omega, by go_num, by go_num, by go_num, HC.out, (HB.out.trans (Below.mono (B := wr.heap.size) (by repeat (first | (with_reducible exact Below.refl _ _) | ((with_reducible refine alloc_ ?_ ?_); (focus (first | exact Nat.le_refl _ | (simp; done) | (simp; omega) | omega))) | ((with_reducible refine set_ ?_ ?_); (focus (first | exact Nat.le_refl _ | (simp; done) | (simp; omega) | omega))) | (with_reducible refine Below.drew ?_) | ((with_reducible refine after_ ?_ (by assumption) ?_); (rotate_left; (focus (first | exact Nat.le_refl _ | (simp; done) | (simp; omega) | omega)))))) z1))⟩
        case measure => simp [intOf]; omega
    · obtain rfl : k = l.length := by omega
      clear hbel
      go_wp2_with fail
      go_ret3
      exact ⟨by rw [HG.out, HV.out.1, HV.out.2]; rfl, HB.out⟩
end Go.Proofs.YtfmemmfmalfkaaaDoor
