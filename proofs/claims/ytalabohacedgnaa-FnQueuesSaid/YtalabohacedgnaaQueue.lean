/- Lists of groups in memory, and the test on them: the program's and the reference's return one Lean function; no conditions but the length. -/
import Derived.Test.YtalabohacedgnaaRange
import Derived.Test.YtalabohacedgnaaSlice
import Derived.IntWalk
import Derived.Outline
namespace Go.Proofs.Ytalabohacedgnaa
open Go.RowKit
structure Gro where
  s : Int
  q : Bool
instance : Inhabited Gro := ⟨⟨0, false⟩⟩
def Gro.cells (x : Gro) : List Value := [.int .i64 x.s, .bool x.q]
theorem Gro.rd {w : World} {B : Nat} {A : Option Addr} {l : List Gro} (h : Rd w B 2 Gro.cells A l) {i : Nat} (hi : i < l.length) : ∃ b off, A = some ⟨b, off, none⟩ ∧ b < B ∧ w.cell? ⟨b, off + i * 2, none⟩ = some (.int .i64 (nth l i).s) ∧ w.cell? ⟨b, off + i * 2 + 1, none⟩ = some (.bool (nth l i).q) := by
  obtain ⟨b, off, e, hlt, hc⟩ := h i hi
  exact ⟨b, off, e, hlt, by simpa using hc 0 _ rfl, hc 1 _ rfl⟩
theorem toGroup_c (x : Gro) (w : World) : Calls Try.prog 52 #[.agg #[.int .i64 x.s, .bool x.q]] w fun e w' => e = .returned (.agg #[.int .i64 x.s, .bool x.q]) ∧ Below w.heap.size w w' := by
  go_enter Try.func52, Try.ntmps52
  go_wp2
  exact bodyPost_ret (v := .agg #[.int .i64 x.s, .bool x.q]) (by simp [results, Try.results52, go_sem]) rfl ⟨rfl, (by repeat (first | (with_reducible exact Below.refl _ _) | ((with_reducible refine alloc_ ?_ ?_); (focus (first | exact Nat.le_refl _ | (simp; done) | (simp; omega) | omega))) | ((with_reducible refine set_ ?_ ?_); (focus (first | exact Nat.le_refl _ | (simp; done) | (simp; omega) | omega))) | (with_reducible refine Below.drew ?_) | ((with_reducible refine after_ ?_ (by assumption) ?_); (rotate_left; (focus (first | exact Nat.le_refl _ | (simp; done) | (simp; omega) | omega))))))⟩
theorem eqGroup_same (x : Gro) (w : World) : Calls Try.prog 56 #[.agg #[.int .i64 x.s, .bool x.q], .agg #[.int .i64 x.s, .bool x.q]] w fun e w' => e = .returned (.bool true) ∧ Below w.heap.size w w' := by
  go_enter Try.func56, Try.ntmps56
  go_wp2
  go_ret
  exact ⟨rfl, (by repeat (first | (with_reducible exact Below.refl _ _) | ((with_reducible refine alloc_ ?_ ?_); (focus (first | exact Nat.le_refl _ | (simp; done) | (simp; omega) | omega))) | ((with_reducible refine set_ ?_ ?_); (focus (first | exact Nat.le_refl _ | (simp; done) | (simp; omega) | omega))) | (with_reducible refine Below.drew ?_) | ((with_reducible refine after_ ?_ (by assumption) ?_); (rotate_left; (focus (first | exact Nat.le_refl _ | (simp; done) | (simp; omega) | omega))))))⟩
theorem info_Group : (Try.prog.info? 52).map (fun i => (i.zero, i.size, i.bytes)) = some (some (.agg #[.int .i64 0, .bool false]), 2, 16) := by kernel_rfl
set_option maxRecDepth 100000 in
theorem toGroupS_c (l : List Gro) (A : Option Addr) (cap : Nat) (w : World) (hl : l.length ≤ 1048576) (hr : Rd w w.heap.size 2 Gro.cells A l) :
    Calls Try.prog 16 #[.slice A l.length cap] w fun e w' => e = .returned (.slice (some ⟨w.heap.size, 0, none⟩) l.length l.length) ∧ Row w' w.heap.size 52 2 Gro.cells l ∧ Below w.heap.size w w' := by
  have hmk := make_rows (P := Try.prog) 25 52 _ 2 16 Try.underlying25 info_Group l.length (by omega) (by omega)
  go_enter Try.func16, Try.ntmps16
  go_wp2_with fail
  go_loopw [4] (fun i wr => ∃ k : Nat, k ≤ l.length ∧ i = .int .i64 k ∧ Fill w wr 52 2 Gro.cells l k) (fun i _ => l.length - (intOf i).toNat)
  case atStart => exact ⟨0, Nat.zero_le _, rfl, Fill.start (made_row w _ _ _ (size_madeCells _ _)) (by repeat (first | (with_reducible exact Below.refl _ _) | ((with_reducible refine alloc_ ?_ ?_); (focus (first | exact Nat.le_refl _ | (simp; done) | (simp; omega) | omega))) | ((with_reducible refine set_ ?_ ?_); (focus (first | exact Nat.le_refl _ | (simp; done) | (simp; omega) | omega))) | (with_reducible refine Below.drew ?_) | ((with_reducible refine after_ ?_ (by assumption) ?_); (rotate_left; (focus (first | exact Nat.le_refl _ | (simp; done) | (simp; omega) | omega))))))⟩
  case round =>
    obtain ⟨k, hk, rfl, hfill⟩ := hrel
    have HF := Lib.hid hfill
    have hbel := hfill.2
    by_cases hlt : k < l.length
    · obtain ⟨b, off, rfl, hb, hc0, hc1⟩ := Gro.rd (hr.below hbel (Nat.le_refl _)) hlt
      obtain ⟨u0, hs0⟩ := hfill.cell hlt (show 0 < 2 by omega)
      obtain ⟨u1, hs1⟩ := hfill.cell hlt (show 1 < 2 by omega)
      have hgs := hfill.size
      simp only [Nat.add_zero] at hs0
      clear hbel hfill
      go_wp2_with fail
      refine (toGroup_c _ _).mono ?_
      rintro e w1 ⟨rfl, hb1⟩
      have ht0 := (hb1.cell (p := ⟨w.heap.size, k * 2, none⟩) hgs).trans hs0
      have ht1 := (hb1.cell (p := ⟨w.heap.size, k * 2 + 1, none⟩) hgs).trans hs1
      have hf0 := (hb1.frozen (p := ⟨w.heap.size, k * 2, none⟩) hgs).trans (HF.out.frozen _)
      have hf1 := (hb1.frozen (p := ⟨w.heap.size, k * 2 + 1, none⟩) hgs).trans (HF.out.frozen _)
      have HF1 := Lib.hid hb1
      clear hb1 hs0 hs1
      go_wp2_with fail
      go_roundw
      case rel => exact ⟨k + 1, by omega, by go_num, by simpa [puts, Gro.cells] using HF.out.step HF1.out hlt⟩
      case measure => simp [intOf]; omega
    · clear hbel hfill
      obtain rfl : k = l.length := by omega
      go_wp2_with fail
      go_ret
      exact ⟨rfl, HF.out.row, HF.out.2⟩
theorem eqGroupS_same (l : List Gro) (A B : Option Addr) (cap cap' : Nat) (w : World) (hl : l.length ≤ 1048576) (hr : Rd w w.heap.size 2 Gro.cells A l) (hr' : Rd w w.heap.size 2 Gro.cells B l) :
    Calls Try.prog 18 #[.slice A l.length cap, .slice B l.length cap'] w fun e w' => e = .returned (.bool true) ∧ Below w.heap.size w w' := by
  have hb : ((l.length : Int) != l.length) = false := by simp
  go_enter Try.func18, Try.ntmps18
  go_wp2_with fail
  go_loopw [5] (fun i wr => ∃ k : Nat, k ≤ l.length ∧ i = .int .i64 k ∧ Below w.heap.size w wr) (fun i _ => l.length - (intOf i).toNat)
  case atStart => exact ⟨0, Nat.zero_le _, rfl, Below.refl _ _⟩
  case round =>
    obtain ⟨k, hk, rfl, hbel⟩ := hrel
    have HB := Lib.hid hbel
    by_cases hlt : k < l.length
    · obtain ⟨b, off, rfl, hb1, hc0, hc1⟩ := Gro.rd (hr.below hbel (Nat.le_refl _)) hlt
      obtain ⟨b', off', rfl, hb2, hd0, hd1⟩ := Gro.rd (hr'.below hbel (Nat.le_refl _)) hlt
      have z1 := hbel.size
      have l1 : b < wr.heap.size := by omega
      have l2 : b' < wr.heap.size := by omega
      have i1 : (0 : Int) ≤ (k : Int) := by omega
      have i2 : (k : Int) < l.length := by omega
      clear hbel
      go_wp2_with fail
      refine wp_region_mem (by kernel_rfl) (by kernel_rfl) ?_
      repeat (go_big_quiet_step ((go_at_call 56; exact mem_of (eqGroup_same _ _))))
      refine wpQuiet_nil ?_
      intro _ hw'
      obtain ⟨⟨wq, hbq⟩, hw''⟩ := hw'
      obtain rfl := hw''.symm
      obtain ⟨hcq, hfq, hzq⟩ := bcell hbq
      try simp [Nat.add_one_le_iff] at hzq
      go_wp2_with fail
      go_roundw
      case rel => exact ⟨k + 1, by omega, by go_num, HB.out.trans (hbq.mono z1)⟩
      case measure => simp [intOf]; omega
    · clear hbel
      obtain rfl : k = l.length := by omega
      go_wp2_with fail
      go_ret
      exact ⟨rfl, HB.out⟩
theorem szGroupS_yes (l : List Gro) (A : Option Addr) (cap : Nat) (left : Int) (w : World) (h0 : 0 ≤ left) (h1 : left ≤ 1048576) (hl : l.length ≤ maxLen) (h : (l.length : Int) ≤ left) :
    Calls Try.prog 14 #[.slice A l.length cap, .int .i64 left] w fun e w' => e = .returned (.int .i64 (left - l.length)) ∧ w = w' := by
  unfold maxLen at hl
  go_enter Try.func14, Try.ntmps14
  go_wp2_with fail
  go_ret
  exact ⟨rfl, rfl⟩
theorem szGroupS_no (l : List Gro) (A : Option Addr) (cap : Nat) (left : Int) (w : World) (h0 : 0 ≤ left) (h1 : left ≤ 1048576) (hl : l.length ≤ maxLen) (h : left < (l.length : Int)) :
    Calls Try.prog 14 #[.slice A l.length cap, .int .i64 left] w fun e w' => e = .returned (.int .i64 (-1)) ∧ w = w' := by
  unfold maxLen at hl
  go_enter Try.func14, Try.ntmps14
  go_wp2_with fail
  go_ret
  exact ⟨rfl, rfl⟩
def okG (x : Gro) : Bool := inR x.s 1 8
def goodG (l : List Gro) : Bool := allTo l.length (fun i => okG (nth l i)) && decide (l.length ≤ 12)
theorem goodG_true {l : List Gro} (h : goodG l = true) : l.length ≤ 12 ∧ ∀ i, i < l.length → 1 ≤ (nth l i).s ∧ (nth l i).s ≤ 8 := by
  simp only [goodG, Bool.and_eq_true, decide_eq_true_eq, allTo_true] at h
  exact ⟨h.2, fun i hi => inR_true.1 (h.1 i hi)⟩
theorem goodG_no {l : List Gro} {k : Nat} (hk : k < l.length) (h : okG (nth l k) = false) : goodG l = false := by
  have := allTo_no (p := fun i => okG (nth l i)) hk h
  simp [goodG, this]
theorem goodG_all {l : List Gro} (h : ∀ i, i < l.length → okG (nth l i) = true) : goodG l = decide (l.length ≤ 12) := by
  simp only [goodG, allTo_true.2 h, Bool.true_and]
theorem isqClo_c (x : Gro) (w : World) : Calls Try.prog 54 #[.agg #[.int .i64 x.s, .bool x.q]] w fun e w' => e = .returned (.bool (!okG x)) ∧ Below w.heap.size w w' := by
  go_enter Try.func54, Try.ntmps54
  go_wp2_with (go_at_call 55; refine (within_c _ _ _ _).mono ?_; rintro e w' ⟨rfl, rfl⟩)
  go_ret
  exact ⟨rfl, (by repeat (first | (with_reducible exact Below.refl _ _) | ((with_reducible refine alloc_ ?_ ?_); (focus (first | exact Nat.le_refl _ | (simp; done) | (simp; omega) | omega))) | ((with_reducible refine set_ ?_ ?_); (focus (first | exact Nat.le_refl _ | (simp; done) | (simp; omega) | omega))) | (with_reducible refine Below.drew ?_) | ((with_reducible refine after_ ?_ (by assumption) ?_); (rotate_left; (focus (first | exact Nat.le_refl _ | (simp; done) | (simp; omega) | omega))))))⟩
def Foundisq (l : List Gro) (p : Gro → Bool) (w : World) (e : Ending) (w' : World) : Prop := ∃ r : Int, e = .returned (.int .i64 r) ∧ decide (0 ≤ r) = anyTo l.length (fun j => p (nth l j)) ∧ Below w.heap.size w w'
theorem isqIndex_c (l : List Gro) (A : Option Addr) (n cap : Nat) (w : World) (hn : n = l.length) (hl : l.length ≤ maxLen) (hr : Rd w w.heap.size 2 Gro.cells A l)  (p : Gro → Bool)
    (hclo : ∀ (x : Gro) (w' : World), Below w.heap.size w w' → Calls Try.prog 54 #[.agg #[.int .i64 x.s, .bool x.q]] w' fun e w'' => e = .returned (.bool (p x)) ∧ Below w'.heap.size w' w'') :
    Calls Try.prog 75 #[.slice A n cap, .func (.func 54) #[] #[]] w (Foundisq l p w) := by
  subst hn
  have HC := Lib.hid hclo
  clear hclo
  unfold maxLen at hl
  go_enter Try.func75, Try.ntmps75
  go_wp2_with fail
  go_loopw [5, 8] (fun _ i wr => ∃ k : Nat, k ≤ l.length ∧ i = .int .i64 k ∧ (∀ j, j < k → p (nth l j) = false) ∧ Below w.heap.size w wr) (fun _ i _ => l.length - (intOf i).toNat)
  case atStart => exact ⟨0, Nat.zero_le _, rfl, fun j hj => absurd hj (by omega), Below.refl _ _⟩
  case round =>
    obtain ⟨k, hk, rfl, hall, hbel⟩ := hrel
    have HB := Lib.hid hbel
    have HA := Lib.hid hall
    clear hall
    by_cases hlt : k < l.length
    · obtain ⟨b, off, rfl, hb1, hcs⟩ := Gro.rd (hr.below hbel (Nat.le_refl _)) hlt
      have z1 := hbel.size
      clear hbel
      go_wp2_with fail
      refine (HC.out (nth l k) _ HB.out).mono ?_
      rintro e w1 ⟨rfl, hb2⟩
      have HB2 := Lib.hid (HB.out.trans (hb2.mono z1))
      clear hb2
      rcases hp : p (nth l k) with _ | _
      · go_wp2_with fail
        go_roundw
        case rel => exact ⟨k + 1, by omega, by go_num, below_add HA.out hp, HB2.out⟩
        case measure => simp [intOf]; omega
      · go_wp2_with fail
        go_ret
        exact ⟨k, rfl, by rw [anyTo_yes hlt hp]; simp, HB2.out⟩
    · clear hbel
      obtain rfl : k = l.length := by omega
      go_wp2_with fail
      go_ret
      exact ⟨-1, rfl, by rw [anyTo_none HA.out]; rfl, HB.out⟩
theorem isqContains_c (l : List Gro) (A : Option Addr) (n cap : Nat) (w : World) (hn : n = l.length) (hl : l.length ≤ maxLen) (hr : Rd w w.heap.size 2 Gro.cells A l)  (p : Gro → Bool)
    (hclo : ∀ (x : Gro) (w' : World), Below w.heap.size w w' → Calls Try.prog 54 #[.agg #[.int .i64 x.s, .bool x.q]] w' fun e w'' => e = .returned (.bool (p x)) ∧ Below w'.heap.size w' w'') :
    Calls Try.prog 53 #[.slice A n cap, .func (.func 54) #[] #[]] w fun e w' => e = .returned (.bool (anyTo l.length fun j => p (nth l j))) ∧ Below w.heap.size w w' := by
  subst hn
  have HC := Lib.hid hclo
  clear hclo
  go_enter Try.func53, Try.ntmps53
  go_wp2_with fail
  refine (isqIndex_c l _ _ _ _ rfl hl hr  p HC.out).mono ?_
  rintro e w1 ⟨r, rfl, hd, hb1⟩
  have HD := Lib.hid hd
  clear hd
  go_wp2_with fail
  go_ret
  exact ⟨retb HD.out, hb1⟩
theorem IsQueue_c (l : List Gro) (A : Option Addr) (cap : Nat) (w : World) (hl : l.length ≤ 1048576) (hr : Rd w w.heap.size 2 Gro.cells A l) :
    Calls Try.prog 17 #[.slice A l.length cap] w fun e w' => e = .returned (.bool (goodG l)) ∧ Below w.heap.size w w' := by
  by_cases hn : l.length ≤ 12
  · have H := Lib.hid (show goodG l = !(anyTo l.length fun j => !okG (nth l j)) by simp [goodG, hn, anyTo])
    go_enter Try.func17, Try.ntmps17
    go_wp2_with fail
    refine (isqContains_c l _ _ _ _ rfl (by unfold maxLen; omega) hr (fun x => !okG x) (fun x w' _ => isqClo_c x w')).mono ?_
    rintro e w1 ⟨rfl, hb1⟩
    go_wp2_with fail
    go_ret
    exact ⟨retb H.out.symm, hb1⟩
  · have H := Lib.hid (show goodG l = false by simp [goodG, hn])
    go_enter Try.func17, Try.ntmps17
    go_wp2_with fail
    go_ret
    exact ⟨retb H.out.symm, Below.refl _ _⟩
theorem l13Queue_c (l : List Gro) (A : Option Addr) (cap : Nat) (w : World) (hl : l.length ≤ 1048576) (hr : Rd w w.heap.size 2 Gro.cells A l) :
    Calls Try.prog 51 #[.slice A l.length cap] w fun e w' => e = .returned (.bool (goodG l)) ∧ w = w' := by
  go_enter Try.func51, Try.ntmps51
  go_wp2_with fail
  go_loop [3] (fun i => ∃ k : Nat, k ≤ l.length ∧ i = .int .i64 k ∧ ∀ j, j < k → okG (nth l j) = true) (fun i => l.length - (intOf i).toNat)
  case atStart => exact ⟨0, Nat.zero_le _, rfl, fun j hj => absurd hj (by omega)⟩
  case round =>
    obtain ⟨k, hk, rfl, hall⟩ := hrel
    have HA := Lib.hid hall
    clear hall
    by_cases hlt : k < l.length
    · obtain ⟨b, off, rfl, hb1, hcs⟩ := Gro.rd hr hlt
      rcases h1 : inR (nth l k).s 1 8 with _ | _
      · have H := Lib.hid (goodG_no hlt (by simp [okG, h1]))
        go_wp2_with (go_at_call 58; refine (l1In_c _ _ _ _).mono ?_; rintro e w' ⟨rfl, rfl⟩)
        go_ret
        exact ⟨retb H.out.symm, rfl⟩
      · have H := Lib.hid (show okG (nth l k) = true by simp [okG, h1])
        go_wp2_with (go_at_call 58; refine (l1In_c _ _ _ _).mono ?_; rintro e w' ⟨rfl, rfl⟩)
        go_round
        case rel => exact ⟨k + 1, by omega, by go_num, below_add HA.out H.out⟩
        case measure => simp [intOf]; omega
    · obtain rfl : k = l.length := by omega
      have H := Lib.hid (goodG_all HA.out)
      go_wp2_with fail
      go_ret
      exact ⟨retb (by rw [H.out]; simp; omega), rfl⟩
end Go.Proofs.Ytalabohacedgnaa
