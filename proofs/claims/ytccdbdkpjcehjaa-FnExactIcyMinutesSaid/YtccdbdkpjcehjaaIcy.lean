/- IcyMinutes of the program and of the reference return one Lean function; no conditions but the length. -/
import Derived.Test.YtccdbdkpjcehjaaRecords
import Derived.Test.YtccdbdkpjcehjaaMarks
import Derived.Test.YtccdbdkpjcehjaaPush
namespace Go.Proofs.Ytccdbdkpjcehjaa
open Go.RowKit
theorem markWeatherS_c (l : List Wea) (g cap : Nat) (m : Int) (w : World) (hl : l.length ≤ 1048576) (h0 : 0 ≤ m) (h1 : m ≤ 1000) (hr : Row w g 25 5 Wea.cells l) :
    Calls Try.prog 28 #[.slice (some ⟨g, 0, none⟩) l.length cap, .int .i64 m] w fun e w' => e = .returned (.int .i64 (m + l.length * 5)) ∧ w.grownBy w' (some g) := by
  obtain ⟨f0, hf0, _⟩ := hr
  have HF0 := Lib.hid hf0
  clear hf0
  go_enter Try.func28, Try.ntmps28
  go_wp2_with fail
  go_loopw [1, 5] (fun s i wr => ∃ k : Nat, k ≤ l.length ∧ i = .int .i64 k ∧ s = .int .i64 (m + k * 5) ∧ Mk w wr g 25 (l.length * 5)) (fun _ i _ => l.length - (intOf i).toNat)
  case atStart => exact ⟨0, Nat.zero_le _, rfl, by simp, ⟨_, HF0.out⟩, World.grownBy.refl _ _⟩
  case round =>
    obtain ⟨k, hk, rfl, rfl, hm⟩ := hrel
    have HM := Lib.hid hm
    by_cases hlt : k < l.length
    · obtain ⟨u0, hc0⟩ := hm.cell (s := k * 5) (by omega)
      obtain ⟨u1, hc1⟩ := hm.cell (s := k * 5 + 1) (by omega)
      obtain ⟨u2, hc2⟩ := hm.cell (s := k * 5 + 2) (by omega)
      obtain ⟨u3, hc3⟩ := hm.cell (s := k * 5 + 3) (by omega)
      obtain ⟨u4, hc4⟩ := hm.cell (s := k * 5 + 4) (by omega)
      have hz := hm.frozen
      have e1 : (k : Int) * 5 ≤ 5242880 := by omega
      clear hm
      go_wp2_with fail
      go_roundw
      case rel => exact ⟨k + 1, by omega, by go_num, by go_num, (((((HM.out).set_).set_).set_).set_).set_⟩
      case measure => simp [intOf]; omega
    · obtain rfl : k = l.length := by omega
      clear hm
      go_wp2_with fail
      go_ret
      exact ⟨rfl, HM.out.2⟩
def icyOne (x : Wea) : Bool := inR x.d (-100) 10 && decide (50 ≤ x.wi)
def icyTo (l : List Wea) : Nat → List Int
  | 0 => []
  | k + 1 => if icyOne (nth l k) then icyTo l k ++ [(nth l k).m] else icyTo l k
def icy (l : List Wea) : List Int × Bool := if goodW l then (icyTo l l.length, true) else ([], false)
theorem icyTo_len {l : List Wea} : ∀ k, (icyTo l k).length ≤ k
  | 0 => Nat.le_refl _
  | k + 1 => by have := icyTo_len (l := l) k; simp only [icyTo]; split <;> simp <;> omega
theorem icyTo_yes {l : List Wea} {k : Nat} (h : icyOne (nth l k) = true) : icyTo l (k + 1) = icyTo l k ++ [(nth l k).m] := by simp [icyTo, h]
theorem icyTo_no {l : List Wea} {k : Nat} (h : icyOne (nth l k) = false) : icyTo l (k + 1) = icyTo l k := by simp [icyTo, h]
def IcyPost (l : List Wea) (w : World) (e : Ending) (w' : World) : Prop := ∃ A cap, e = .returned (.tuple #[.slice A (icy l).1.length cap, .bool (icy l).2]) ∧ Own w' w.heap.size 3 1 intCells A (icy l).1 ∧ Below w.heap.size w w'
theorem implIcyMinutes_c (l : List Wea) (A : Option Addr) (cap : Nat) (w : World) (hl : l.length ≤ 1048576) (hr : Rd w w.heap.size 5 Wea.cells A l) :
    Calls Try.prog 26 #[.slice A l.length cap] w (IcyPost l w) := by
  rcases hg : goodW l with _ | _
  · have H := Lib.hid (show icy l = ([], false) by simp [icy, hg])
    go_enter Try.func26, Try.ntmps26
    go_wp2_with fail
    refine (AreRecords_c l _ _ _ hl hr).mono ?_
    rintro e w1 ⟨rfl, hb1⟩
    go_wp2_with fail
    go_ret2
    exact ⟨none, 0, retl H.out, by rw [H.out]; exact Own.nil, hb1⟩
  have H := Lib.hid (show icy l = (icyTo l l.length, true) by simp [icy, hg])
  go_enter Try.func26, Try.ntmps26
  go_wp2_with fail
  refine (AreRecords_c l _ _ _ hl hr).mono ?_
  rintro e w1 ⟨rfl, hb1⟩
  have hr1 := hr.carry hb1
  have HB1 := Lib.hid hb1
  clear hb1
  go_wp2_with fail
  clear hg
  go_loopw [4, 6, 13] (fun v _ i wr => ∃ k : Nat, k ≤ l.length ∧ i = .int .i64 k ∧ wr.ownsRow w1.heap.size 3 1 v (icyTo l k).length ((icyTo l k).map (Value.int .i64)) ∧ Below w1.heap.size w1 wr) (fun _ _ i _ => l.length - (intOf i).toNat)
  case atStart => exact ⟨0, Nat.zero_le _, rfl, ownsRow_empty w1 3 1, (by repeat (first | (with_reducible exact Below.refl _ _) | ((with_reducible refine alloc_ ?_ ?_); (focus (first | exact Nat.le_refl _ | (simp; done) | (simp; omega) | omega))) | ((with_reducible refine set_ ?_ ?_); (focus (first | exact Nat.le_refl _ | (simp; done) | (simp; omega) | omega))) | (with_reducible refine Below.drew ?_) | ((with_reducible refine after_ ?_ (by assumption) ?_); (rotate_left; (focus (first | exact Nat.le_refl _ | (simp; done) | (simp; omega) | omega))))))⟩
  case round =>
    obtain ⟨k, hk, rfl, hown, hbel⟩ := hrel
    have HB := Lib.hid hbel
    have HO := Lib.hid hown
    have z1 := hbel.size
    by_cases hlt : k < l.length
    · obtain ⟨b, off, rfl, hb1, hcs⟩ := Wea.rd (hr1.below hbel (Nat.le_refl _)) hlt
      have hle := icyTo_len (l := l) k
      clear hbel hown
      rcases hd : inR (nth l k).d (-100) 10 with _ | _
      · have HL := Lib.hid (icyTo_no (show icyOne (nth l k) = false by simp [icyOne, hd]))
        go_wp2_with (first | (go_at_call 37; refine (within_c _ _ _ _).mono ?_; rintro e w' ⟨rfl, rfl⟩))
        go_roundw
        case rel => exact ⟨k + 1, by omega, by go_num, by rw [HL.out]; exact ownsRow_below HO.out (by repeat (first | (with_reducible exact Below.refl _ _) | ((with_reducible refine alloc_ ?_ ?_); (focus (first | exact Nat.le_refl _ | (simp; done) | (simp; omega) | omega))) | ((with_reducible refine set_ ?_ ?_); (focus (first | exact Nat.le_refl _ | (simp; done) | (simp; omega) | omega))) | (with_reducible refine Below.drew ?_) | ((with_reducible refine after_ ?_ (by assumption) ?_); (rotate_left; (focus (first | exact Nat.le_refl _ | (simp; done) | (simp; omega) | omega)))))), (HB.out.trans (Below.mono (B := wr.heap.size) (by repeat (first | (with_reducible exact Below.refl _ _) | ((with_reducible refine alloc_ ?_ ?_); (focus (first | exact Nat.le_refl _ | (simp; done) | (simp; omega) | omega))) | ((with_reducible refine set_ ?_ ?_); (focus (first | exact Nat.le_refl _ | (simp; done) | (simp; omega) | omega))) | (with_reducible refine Below.drew ?_) | ((with_reducible refine after_ ?_ (by assumption) ?_); (rotate_left; (focus (first | exact Nat.le_refl _ | (simp; done) | (simp; omega) | omega)))))) z1))⟩
        case measure => simp [intOf]; omega
      by_cases hw : 50 ≤ (nth l k).wi
      · have HL := Lib.hid (icyTo_yes (show icyOne (nth l k) = true by simp [icyOne, hd, hw]))
        go_wp2_with (first
          | (go_at_call 37; refine (within_c _ _ _ _).mono ?_; rintro e w' ⟨rfl, rfl⟩)
          | (at_builtin; refine wpList_push _ rfl _ _ 43 rfl w1.heap.size 3 (.int .i64 0) 1 8 Try.underlying43 info_int rfl (by decide) (by decide) _ _ _ rfl ((HO.out.alloc _).alloc _) (wr.heap.size + 1) [.int .i64 (nth l k).m] rfl rfl ?c1 ?c2 ?c3 ?c4 ?_))
        case c1 =>
          intro j u hj
          match j, hj with
          | 0, hj => simp at hj; subst hj; simp [go_sem]
        case c2 => intro u hu; simp at hu; subst hu; rfl
        case c3 => omega
        case c4 => simp; omega
        intro v' w' hown' hb'
        have HO' := Lib.hid hown'
        have HB' := Lib.hid (HB.out.trans ((((Below.refl _ _).alloc (Nat.le_refl _) _).alloc (by simp) _ |>.mono z1).trans hb'))
        clear hown' hb'
        go_wp2_with fail
        go_roundw
        case rel => exact ⟨k + 1, by omega, by go_num, by rw [HL.out]; simpa using HO'.out, HB'.out⟩
        case measure => simp [intOf]; omega
      · have HL := Lib.hid (icyTo_no (show icyOne (nth l k) = false by simp [icyOne, hw]))
        go_wp2_with (first | (go_at_call 37; refine (within_c _ _ _ _).mono ?_; rintro e w' ⟨rfl, rfl⟩))
        go_roundw
        case rel => exact ⟨k + 1, by omega, by go_num, by rw [HL.out]; exact ownsRow_below HO.out (by repeat (first | (with_reducible exact Below.refl _ _) | ((with_reducible refine alloc_ ?_ ?_); (focus (first | exact Nat.le_refl _ | (simp; done) | (simp; omega) | omega))) | ((with_reducible refine set_ ?_ ?_); (focus (first | exact Nat.le_refl _ | (simp; done) | (simp; omega) | omega))) | (with_reducible refine Below.drew ?_) | ((with_reducible refine after_ ?_ (by assumption) ?_); (rotate_left; (focus (first | exact Nat.le_refl _ | (simp; done) | (simp; omega) | omega)))))), (HB.out.trans (Below.mono (B := wr.heap.size) (by repeat (first | (with_reducible exact Below.refl _ _) | ((with_reducible refine alloc_ ?_ ?_); (focus (first | exact Nat.le_refl _ | (simp; done) | (simp; omega) | omega))) | ((with_reducible refine set_ ?_ ?_); (focus (first | exact Nat.le_refl _ | (simp; done) | (simp; omega) | omega))) | (with_reducible refine Below.drew ?_) | ((with_reducible refine after_ ?_ (by assumption) ?_); (rotate_left; (focus (first | exact Nat.le_refl _ | (simp; done) | (simp; omega) | omega)))))) z1))⟩
        case measure => simp [intOf]; omega
    · obtain rfl : k = l.length := by omega
      clear hbel
      obtain ⟨A', cap', rfl⟩ := ownsRow_shape hown
      clear hown
      go_wp2_with fail
      go_ret2
      exact ⟨A', cap', retl H.out, by rw [H.out]; exact (Own.of_row' HO.out rfl (flat_ints _).symm fun _ => rfl).less HB1.out.size, HB1.out.trans (HB.out.mono HB1.out.size)⟩
theorem specIcyMinutes_c (l : List Wea) (A : Option Addr) (cap : Nat) (w : World) (hl : l.length ≤ 1048576) (hr : Rd w w.heap.size 5 Wea.cells A l) :
    Calls Try.prog 25 #[.slice A l.length cap] w (IcyPost l w) := by
  rcases hg : goodW l with _ | _
  · have H := Lib.hid (show icy l = ([], false) by simp [icy, hg])
    go_enter Try.func25, Try.ntmps25
    go_wp2_with fail
    refine (l17Good_c l _ _ _ hl (hr.alloc _)).mono ?_
    rintro e w1 ⟨rfl, hb1⟩
    go_wp2_with fail
    go_ret2
    exact ⟨_, 0, retl H.out, by rw [H.out]; exact Own.nil, (by repeat (first | (with_reducible exact Below.refl _ _) | ((with_reducible refine alloc_ ?_ ?_); (focus (first | exact Nat.le_refl _ | (simp; done) | (simp; omega) | omega))) | ((with_reducible refine set_ ?_ ?_); (focus (first | exact Nat.le_refl _ | (simp; done) | (simp; omega) | omega))) | (with_reducible refine Below.drew ?_) | ((with_reducible refine after_ ?_ (by assumption) ?_); (rotate_left; (focus (first | exact Nat.le_refl _ | (simp; done) | (simp; omega) | omega))))))⟩
  have H := Lib.hid (show icy l = (icyTo l l.length, true) by simp [icy, hg])
  go_enter Try.func25, Try.ntmps25
  go_wp2_with fail
  refine (l17Good_c l _ _ _ hl (hr.alloc _)).mono ?_
  rintro e w1 ⟨rfl, hb1⟩
  have hr1 := (hr.alloc _).carry hb1
  have HB1 : Below w.heap.size w w1 := (by repeat (first | (with_reducible exact Below.refl _ _) | ((with_reducible refine alloc_ ?_ ?_); (focus (first | exact Nat.le_refl _ | (simp; done) | (simp; omega) | omega))) | ((with_reducible refine set_ ?_ ?_); (focus (first | exact Nat.le_refl _ | (simp; done) | (simp; omega) | omega))) | (with_reducible refine Below.drew ?_) | ((with_reducible refine after_ ?_ (by assumption) ?_); (rotate_left; (focus (first | exact Nat.le_refl _ | (simp; done) | (simp; omega) | omega))))))
  have HO1 := Lib.hid (ownsRow_below (ownsRow_empty w 3 1) hb1)
  have hz1 := HB1.size
  clear hb1
  go_wp2_with fail
  clear hg
  go_loopw [4, 5] (fun v i wr => ∃ k : Nat, k ≤ l.length ∧ i = .int .i64 k ∧ wr.ownsRow w.heap.size 3 1 v (icyTo l k).length ((icyTo l k).map (Value.int .i64)) ∧ Below w.heap.size w wr ∧ Rd wr w.heap.size 5 Wea.cells A l) (fun _ i _ => l.length - (intOf i).toNat)
  case atStart => exact ⟨0, Nat.zero_le _, rfl, HO1.out, HB1, hr.below HB1 (Nat.le_refl _)⟩
  case round =>
    obtain ⟨k, hk, rfl, hown, hbel, hrr⟩ := hrel
    have HB := Lib.hid hbel
    have HO := Lib.hid hown
    have HR := Lib.hid hrr
    have z1 := hbel.size
    by_cases hlt : k < l.length
    · obtain ⟨b, off, rfl, hb1, hcs⟩ := Wea.rd hrr hlt
      have hle := icyTo_len (l := l) k
      have hbw : b < wr.heap.size := by omega
      clear hbel hown hrr
      rcases hd : inR (nth l k).d (-100) 10 with _ | _
      · have HL := Lib.hid (icyTo_no (show icyOne (nth l k) = false by simp [icyOne, hd]))
        go_wp2_with (first | (go_at_call 40; refine (l1In_c _ _ _ _).mono ?_; rintro e w' ⟨rfl, rfl⟩))
        go_roundw
        case rel => exact ⟨k + 1, by omega, by go_num, by rw [HL.out]; exact HO.out, HB.out, HR.out⟩
        case measure => simp [intOf]; omega
      by_cases hw : 50 ≤ (nth l k).wi
      · have HL := Lib.hid (icyTo_yes (show icyOne (nth l k) = true by simp [icyOne, hd, hw]))
        go_wp2_with (first
          | (go_at_call 40; refine (l1In_c _ _ _ _).mono ?_; rintro e w' ⟨rfl, rfl⟩)
          | (at_builtin; refine wpList_push _ rfl _ _ 43 rfl w.heap.size 3 (.int .i64 0) 1 8 Try.underlying43 info_int rfl (by decide) (by decide) _ _ _ rfl (HO.out.alloc _) wr.heap.size [.int .i64 (nth l k).m] rfl rfl ?c1 ?c2 ?c3 ?c4 ?_))
        case c1 =>
          intro j u hj
          match j, hj with
          | 0, hj => simp at hj; subst hj; simp [go_sem]
        case c2 => intro u hu; simp at hu; subst hu; rfl
        case c3 => omega
        case c4 => simp; omega
        intro v' w' hown' hb'
        have HO' := Lib.hid hown'
        have HB' := Lib.hid (HB.out.trans (((Below.refl _ _).alloc z1 _).trans hb'))
        clear hown' hb'
        go_wp2_with fail
        go_roundw
        case rel => exact ⟨k + 1, by omega, by go_num, by rw [HL.out]; simpa using HO'.out, HB'.out, hr.below HB'.out (Nat.le_refl _)⟩
        case measure => simp [intOf]; omega
      · have HL := Lib.hid (icyTo_no (show icyOne (nth l k) = false by simp [icyOne, hw]))
        go_wp2_with (first | (go_at_call 40; refine (l1In_c _ _ _ _).mono ?_; rintro e w' ⟨rfl, rfl⟩))
        go_roundw
        case rel => exact ⟨k + 1, by omega, by go_num, by rw [HL.out]; exact HO.out, HB.out, HR.out⟩
        case measure => simp [intOf]; omega
    · obtain rfl : k = l.length := by omega
      clear hbel hrr
      obtain ⟨A', cap', rfl⟩ := ownsRow_shape hown
      clear hown
      go_wp2_with fail
      go_ret2
      exact ⟨A', cap', retl H.out, by rw [H.out]; exact Own.of_row' HO.out rfl (flat_ints _).symm fun _ => rfl, HB.out⟩
end Go.Proofs.Ytccdbdkpjcehjaa
