/- Events of one kind counted: the program's and the reference's return one Lean function; no conditions but that the list of kinds lies where the program's text lays it. -/
import Derived.Test.YtfmemmfmalfkaaaDoorEvent
import Derived.Outline
namespace Go.Proofs.YtfmemmfmalfkaaaDoor
open Go.RowKit

def hitE (l : List Evt) (s : ByteArray) (i : Nat) : Bool := (nth l i).k.toList == s.toList
def cntTo (l : List Evt) (s : ByteArray) : Nat → Int
  | 0 => 0
  | i + 1 => cntTo l s i + if hitE l s i = true then 1 else 0
def sumTo (l : List Evt) (s : ByteArray) : Nat → Int
  | 0 => 0
  | i + 1 => sumTo l s i + if hitE l s i = true then (nth l i).c else 0
theorem cnt_in (l : List Evt) (s : ByteArray) : ∀ i : Nat, 0 ≤ cntTo l s i ∧ cntTo l s i ≤ i
  | 0 => ⟨by simp [cntTo], by simp [cntTo]⟩
  | i + 1 => by
    have := cnt_in l s i
    rw [cntTo]
    split <;> omega
theorem okE_in {x : Evt} (h : okE x = true) : 0 ≤ x.c ∧ x.c ≤ 100 := by
  unfold okE at h
  rcases most_cases x.k with e | e | e | e <;> rw [e] at h <;> simp [inR] at h <;> omega
theorem sum_in {l : List Evt} {s : ByteArray} : ∀ {i : Nat}, (∀ j, j < i → okE (nth l j) = true) → 0 ≤ sumTo l s i ∧ sumTo l s i ≤ 100 * i
  | 0, _ => ⟨by simp [sumTo], by simp [sumTo]⟩
  | i + 1, h => by
    have := sum_in (s := s) (i := i) fun j hj => h j (by omega)
    have := okE_in (h i (by omega))
    rw [sumTo]
    split <;> omega
def goodE (l : List Evt) (s : ByteArray) : Bool := decide (l.length ≤ 20) && allTo l.length (fun i => okE (nth l i)) && decide (0 ≤ most s)
def cntP (l : List Evt) (s : ByteArray) : Int × Int × Bool := if goodE l s = true then (cntTo l s l.length, sumTo l s l.length, true) else (0, 0, false)
def CntIs (l : List Evt) (s : ByteArray) (w : World) (e : Ending) (w' : World) : Prop := e = .returned (.tuple #[.int .i64 (cntP l s).1, .int .i64 (cntP l s).2.1, .bool (cntP l s).2.2]) ∧ Below w.heap.size w w'
theorem cntP_no {l : List Evt} {s : ByteArray} (h : goodE l s = false) : cntP l s = (0, 0, false) := by simp [cntP, h]
theorem cntP_yes {l : List Evt} {s : ByteArray} (h : goodE l s = true) : cntP l s = (cntTo l s l.length, sumTo l s l.length, true) := by simp [cntP, h]
theorem goodE_long {l : List Evt} {s : ByteArray} (h : 20 < l.length) : goodE l s = false := by
  have : ¬ l.length ≤ 20 := by omega
  simp [goodE, this]
theorem goodE_kind {l : List Evt} {s : ByteArray} (h : most s < 0) : goodE l s = false := by
  have : ¬ 0 ≤ most s := by omega
  simp [goodE, this]
theorem goodE_bad {l : List Evt} {s : ByteArray} {k : Nat} (hk : k < l.length) (h : okE (nth l k) = false) : goodE l s = false := by
  have := allTo_no (p := fun i => okE (nth l i)) hk h
  simp [goodE, this]
theorem goodE_all {l : List Evt} {s : ByteArray} (h20 : l.length ≤ 20) (h : ∀ i, i < l.length → okE (nth l i) = true) (hm : 0 ≤ most s) : goodE l s = true := by
  have := allTo_true.2 h
  simp [goodE, this, h20, hm]

theorem specCountEvents_c (l : List Evt) (A : Option Addr) (cap : Nat) (s : ByteArray) (w : World) (hr : Rd w w.heap.size 2 Evt.cells A l) (hl : l.length ≤ 1048576) :
    Calls Tryd.prog 11 #[.slice A l.length cap, .string s] w (CntIs l s w) := by
  by_cases hl20 : l.length ≤ 20
  case neg =>
    have H := Lib.hid (cntP_no (s := s) (goodE_long (l := l) (by omega)))
    go_enter Tryd.func11, Tryd.ntmps11
    go_wp2_with fail
    go_ret3
    exact ⟨by rw [H.out]; rfl, (by repeat (first | (with_reducible exact Below.refl _ _) | ((with_reducible refine alloc_ ?_ ?_); (focus (first | exact Nat.le_refl _ | (simp; done) | (simp; omega) | omega))) | ((with_reducible refine set_ ?_ ?_); (focus (first | exact Nat.le_refl _ | (simp; done) | (simp; omega) | omega))) | (with_reducible refine Below.drew ?_) | ((with_reducible refine after_ ?_ (by assumption) ?_); (rotate_left; (focus (first | exact Nat.le_refl _ | (simp; done) | (simp; omega) | omega))))))⟩
  obtain ⟨m, hm⟩ : ∃ m, most s = m := ⟨_, rfl⟩
  by_cases hm0 : m < 0
  · have H := Lib.hid (cntP_no (goodE_kind (l := l) (by rw [hm]; exact hm0)))
    have HM := Lib.hid hm
    clear hm
    go_enter Tryd.func11, Tryd.ntmps11
    go_wp2_with ((go_at_call 22); refine (l14Most_c _ _).mono ?_; rintro e w' ⟨rfl, rfl⟩; rw [HM.out])
    go_ret3
    exact ⟨by rw [H.out]; rfl, (by repeat (first | (with_reducible exact Below.refl _ _) | ((with_reducible refine alloc_ ?_ ?_); (focus (first | exact Nat.le_refl _ | (simp; done) | (simp; omega) | omega))) | ((with_reducible refine set_ ?_ ?_); (focus (first | exact Nat.le_refl _ | (simp; done) | (simp; omega) | omega))) | (with_reducible refine Below.drew ?_) | ((with_reducible refine after_ ?_ (by assumption) ?_); (rotate_left; (focus (first | exact Nat.le_refl _ | (simp; done) | (simp; omega) | omega))))))⟩
  have HG := Lib.hid (fun h => cntP_yes (goodE_all (s := s) hl20 h (by rw [hm]; omega)))
  have HM := Lib.hid hm
  clear hm
  go_enter Tryd.func11, Tryd.ntmps11
  go_wp2_with ((go_at_call 22); refine (l14Most_c _ _).mono ?_; rintro e w' ⟨rfl, rfl⟩; rw [HM.out])
  go_loopw [7, 8, 9] (fun c t i wr => ∃ (k : Nat) (cv tv : Int), k ≤ l.length ∧ c = .int .i64 cv ∧ t = .int .i64 tv ∧ i = .int .i64 k ∧ (cv = cntTo l s k ∧ tv = sumTo l s k) ∧ (∀ j, j < k → okE (nth l j) = true) ∧ Below w.heap.size w wr) (fun _ _ i _ => l.length - (intOf i).toNat)
  case atStart => exact ⟨0, 0, 0, Nat.zero_le _, rfl, rfl, rfl, ⟨rfl, rfl⟩, fun j hj => absurd hj (by omega), (by repeat (first | (with_reducible exact Below.refl _ _) | ((with_reducible refine alloc_ ?_ ?_); (focus (first | exact Nat.le_refl _ | (simp; done) | (simp; omega) | omega))) | ((with_reducible refine set_ ?_ ?_); (focus (first | exact Nat.le_refl _ | (simp; done) | (simp; omega) | omega))) | (with_reducible refine Below.drew ?_) | ((with_reducible refine after_ ?_ (by assumption) ?_); (rotate_left; (focus (first | exact Nat.le_refl _ | (simp; done) | (simp; omega) | omega))))))⟩
  case round =>
    obtain ⟨k, cv, tv, hk, rfl, rfl, rfl, hvv, hall, hbel⟩ := hrel
    have hb1 : 0 ≤ cv ∧ cv ≤ k := by rw [hvv.1]; exact cnt_in l s k
    have hb2 : 0 ≤ tv ∧ tv ≤ 100 * k := by rw [hvv.2]; exact sum_in hall
    obtain ⟨hc1, hc2⟩ := hb1
    obtain ⟨ht1, ht2⟩ := hb2
    have HB := Lib.hid hbel
    have HA := Lib.hid hall
    have HV := Lib.hid hvv
    clear hall hvv
    by_cases hlt : k < l.length
    · have z1 := hbel.size
      obtain ⟨b, off, rfl, hb1, a0, a1⟩ := Evt.rd (hr.below hbel (Nat.le_refl _)) hlt
      clear hbel
      go_wp2_with fail
      refine (l14Event_c (nth l k) _).mono ?_
      rintro e w1 ⟨rfl, hb2⟩
      have HB2 := Lib.hid (HB.out.trans (hb2.mono z1))
      have z2 := hb2.size
      clear a0 a1 hb2
      obtain ⟨b', off', e', _, a0, a1⟩ := Evt.rd (hr.below HB2.out (Nat.le_refl _)) hlt
      cases e'
      rcases ho : okE (nth l k) with _ | _
      · have H := Lib.hid (cntP_no (s := s) (goodE_bad hlt ho))
        go_wp2_with fail
        go_ret3
        exact ⟨by rw [H.out]; rfl, HB2.out⟩
      · have hx := okE_in ho
        rcases hh : hitE l s k with _ | _
        · have HC := Lib.hid (show cv = cntTo l s (k + 1) ∧ tv = sumTo l s (k + 1) by rw [cntTo, sumTo, hh, ← HV.out.1, ← HV.out.2]; simp)
          unfold hitE at hh
          go_wp2_with fail
          go_roundw
          case rel => exact ⟨k + 1, cv, tv, by omega, by go_num, by go_num, by go_num, HC.out, below_add HA.out ho, HB2.out⟩
          case measure => simp [intOf]; omega
        · have HC := Lib.hid (show cv + 1 = cntTo l s (k + 1) ∧ tv + (nth l k).c = sumTo l s (k + 1) by rw [cntTo, sumTo, hh, ← HV.out.1, ← HV.out.2]; simp)
          unfold hitE at hh
          go_wp2_with fail
          go_roundw
          case rel => exact ⟨k + 1, cv + 1, tv + (nth l k).c, by omega, by go_num, by go_num, by go_num, HC.out, below_add HA.out ho, HB2.out⟩
          case measure => simp [intOf]; omega
    · obtain rfl : k = l.length := by omega
      clear hbel
      have H := Lib.hid (HG.out HA.out)
      go_wp2_with fail
      go_ret3
      exact ⟨by rw [H.out, HV.out.1, HV.out.2]; rfl, HB.out⟩

theorem evClo_c (x : Evt) (w : World) (hk : Rd w w.heap.size 1 strCells (some ⟨0, 0, none⟩) kindsB) : Calls Tryd.prog 24 #[.agg #[.string x.k, .int .i64 x.c]] w fun e w' => e = .returned (.bool (!okE x)) ∧ Below w.heap.size w w' := by
  go_enter Tryd.func24, Tryd.ntmps24
  go_wp2_with fail
  refine (isBoardEvent_c x _ ((hk.below ((Below.refl _ _).alloc (Nat.le_refl _) _) (Nat.le_refl _)).mono (by simp))).mono ?_
  rintro e w1 ⟨rfl, hb1⟩
  go_wp2_with fail
  go_ret
  exact ⟨rfl, ((Below.refl _ _).alloc (Nat.le_refl _) _).trans (hb1.mono (by simp))⟩
def Foundevs (l : List Evt) (p : Evt → Bool) (w : World) (e : Ending) (w' : World) : Prop := ∃ r : Int, e = .returned (.int .i64 r) ∧ decide (0 ≤ r) = anyTo l.length (fun j => p (nth l j)) ∧ Below w.heap.size w w'
theorem evsIndex_c (l : List Evt) (A : Option Addr) (n cap : Nat) (w : World) (hn : n = l.length) (hl : l.length ≤ maxLen) (hr : Rd w w.heap.size 2 Evt.cells A l)  (p : Evt → Bool)
    (hclo : ∀ (x : Evt) (w' : World), Below w.heap.size w w' → Calls Tryd.prog 24 #[.agg #[.string x.k, .int .i64 x.c]] w' fun e w'' => e = .returned (.bool (p x)) ∧ Below w'.heap.size w' w'') :
    Calls Tryd.prog 32 #[.slice A n cap, .func (.func 24) #[] #[]] w (Foundevs l p w) := by
  subst hn
  have HC := Lib.hid hclo
  clear hclo
  unfold maxLen at hl
  go_enter Tryd.func32, Tryd.ntmps32
  go_wp2_with fail
  go_loopw [5, 8] (fun _ i wr => ∃ k : Nat, k ≤ l.length ∧ i = .int .i64 k ∧ (∀ j, j < k → p (nth l j) = false) ∧ Below w.heap.size w wr) (fun _ i _ => l.length - (intOf i).toNat)
  case atStart => exact ⟨0, Nat.zero_le _, rfl, fun j hj => absurd hj (by omega), Below.refl _ _⟩
  case round =>
    obtain ⟨k, hk, rfl, hall, hbel⟩ := hrel
    have HB := Lib.hid hbel
    have HA := Lib.hid hall
    clear hall
    by_cases hlt : k < l.length
    · obtain ⟨b, off, rfl, hb1, hcs⟩ := Evt.rd (hr.below hbel (Nat.le_refl _)) hlt
      have z1 := hbel.size
      clear hbel
      go_wp2_with fail
      refine (HC.out (nth l k) _ HB.out).mono ?_
      rintro e w1 ⟨rfl, hb2⟩
      have HB2 := Lib.hid (HB.out.trans (hb2.mono z1))
      clear hb2
      rcases hp : p (nth l k) with _ | _
      · go_wp2_with fail
        go_roundw
        case rel => exact ⟨k + 1, by omega, by go_num, below_add HA.out hp, HB2.out⟩
        case measure => simp [intOf]; omega
      · go_wp2_with fail
        go_ret
        exact ⟨k, rfl, by rw [anyTo_yes hlt hp]; simp, HB2.out⟩
    · clear hbel
      obtain rfl : k = l.length := by omega
      go_wp2_with fail
      go_ret
      exact ⟨-1, rfl, by rw [anyTo_none HA.out]; rfl, HB.out⟩
theorem evsContains_c (l : List Evt) (A : Option Addr) (n cap : Nat) (w : World) (hn : n = l.length) (hl : l.length ≤ maxLen) (hr : Rd w w.heap.size 2 Evt.cells A l)  (p : Evt → Bool)
    (hclo : ∀ (x : Evt) (w' : World), Below w.heap.size w w' → Calls Tryd.prog 24 #[.agg #[.string x.k, .int .i64 x.c]] w' fun e w'' => e = .returned (.bool (p x)) ∧ Below w'.heap.size w' w'') :
    Calls Tryd.prog 23 #[.slice A n cap, .func (.func 24) #[] #[]] w fun e w' => e = .returned (.bool (anyTo l.length fun j => p (nth l j))) ∧ Below w.heap.size w w' := by
  subst hn
  have HC := Lib.hid hclo
  clear hclo
  go_enter Tryd.func23, Tryd.ntmps23
  go_wp2_with fail
  refine (evsIndex_c l _ _ _ _ rfl hl hr  p HC.out).mono ?_
  rintro e w1 ⟨r, rfl, hd, hb1⟩
  have HD := Lib.hid hd
  clear hd
  go_wp2_with fail
  go_ret
  exact ⟨retb HD.out, hb1⟩
end Go.Proofs.YtfmemmfmalfkaaaDoor
