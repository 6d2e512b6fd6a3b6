/- PeopleIn of the program and of the reference return one Lean function; no conditions but the length. -/
import Derived.Test.YtalabohacedgnaaQueue
namespace Go.Proofs.Ytalabohacedgnaa
open Go.RowKit

def peopleTo (l : List Gro) : Nat → Int
  | 0 => 0
  | k + 1 => peopleTo l k + (nth l k).s
def quickTo (l : List Gro) : Nat → Int
  | 0 => 0
  | k + 1 => if (nth l k).q then quickTo l k + (nth l k).s else quickTo l k
structure Ppl where
  a : Int
  q : Int
  ok : Bool
def people (l : List Gro) : Ppl := if goodG l then ⟨peopleTo l l.length, quickTo l l.length, true⟩ else ⟨0, 0, false⟩
theorem rett3 {p : Ppl} {a b a' b' : Int} {c c' : Bool} (h : p = ⟨a', b', c'⟩) (h1 : a = a') (h2 : b = b') (h3 : c = c') : Ending.returned (.tuple #[.int .i64 a, .int .i64 b, .bool c]) = .returned (.tuple #[.int .i64 p.a, .int .i64 p.q, .bool p.ok]) := by rw [h, h1, h2, h3]
theorem peopleTo_bd {l : List Gro} (h : ∀ i, i < l.length → 1 ≤ (nth l i).s ∧ (nth l i).s ≤ 8) : ∀ k, k ≤ l.length → 0 ≤ peopleTo l k ∧ peopleTo l k ≤ 8 * k
  | 0, _ => by simp [peopleTo]
  | k + 1, hk => by
    have ih := peopleTo_bd h k (by omega)
    have := h k (by omega)
    rw [peopleTo]; omega
theorem quickTo_bd {l : List Gro} (h : ∀ i, i < l.length → 1 ≤ (nth l i).s ∧ (nth l i).s ≤ 8) : ∀ k, k ≤ l.length → 0 ≤ quickTo l k ∧ quickTo l k ≤ 8 * k
  | 0, _ => by simp [quickTo]
  | k + 1, hk => by
    have ih := quickTo_bd h k (by omega)
    have := h k (by omega)
    rw [quickTo]; split <;> omega
theorem quickTo_yes {l : List Gro} {k : Nat} (h : (nth l k).q = true) : quickTo l (k + 1) = quickTo l k + (nth l k).s := by rw [quickTo, if_pos h]
theorem quickTo_no {l : List Gro} {k : Nat} (h : (nth l k).q = false) : quickTo l (k + 1) = quickTo l k := by rw [quickTo, if_neg (by simp [h])]
theorem implPeopleIn_c (l : List Gro) (A : Option Addr) (cap : Nat) (w : World) (hl : l.length ≤ 1048576) (hr : Rd w w.heap.size 2 Gro.cells A l) :
    Calls Try.prog 20 #[.slice A l.length cap] w fun e w' => e = .returned (.tuple #[.int .i64 (people l).a, .int .i64 (people l).q, .bool (people l).ok]) ∧ Below w.heap.size w w' := by
  rcases hg : goodG l with _ | _
  · have H := Lib.hid (show people l = ⟨0, 0, false⟩ by simp [people, hg])
    go_enter Try.func20, Try.ntmps20
    go_wp2_with fail
    refine (IsQueue_c l _ _ _ hl hr).mono ?_
    rintro e w1 ⟨rfl, hb1⟩
    go_wp2_with fail
    exact bodyPost_ret (v := .tuple #[.int .i64 0, .int .i64 0, .bool false]) (by simp [results, Try.results20, go_sem]) rfl ⟨rett3 H.out rfl rfl rfl, hb1⟩
  have HG := Lib.hid (goodG_true hg)
  have H := Lib.hid (show people l = ⟨peopleTo l l.length, quickTo l l.length, true⟩ by simp [people, hg])
  have hl12 := HG.out.1
  go_enter Try.func20, Try.ntmps20
  go_wp2_with fail
  refine (IsQueue_c l _ _ _ hl hr).mono ?_
  rintro e w1 ⟨rfl, hb1⟩
  have hr1 := hr.carry hb1
  have HB1 := Lib.hid hb1
  clear hb1
  go_wp2_with fail
  clear hg
  go_loopw [5, 6, 8, 14] (fun a q _ i wr => ∃ k : Nat, k ≤ l.length ∧ i = .int .i64 k ∧ a = .int .i64 (peopleTo l k) ∧ q = .int .i64 (quickTo l k) ∧ Below w1.heap.size w1 wr) (fun _ _ _ i _ => l.length - (intOf i).toNat)
  case atStart => exact ⟨0, Nat.zero_le _, rfl, rfl, rfl, Below.refl _ _⟩
  case round =>
    obtain ⟨k, hk, rfl, rfl, rfl, hbel⟩ := hrel
    have HB := Lib.hid hbel
    have z1 := hbel.size
    by_cases hlt : k < l.length
    · obtain ⟨b, off, rfl, hb1, hcs⟩ := Gro.rd (hr1.below hbel (Nat.le_refl _)) hlt
      obtain ⟨p1, p2⟩ := peopleTo_bd HG.out.2 k hk
      obtain ⟨q1, q2⟩ := quickTo_bd HG.out.2 k hk
      obtain ⟨s1, s2⟩ := HG.out.2 k hlt
      clear hbel
      rcases hq : (nth l k).q with _ | _
      · have HY := Lib.hid (quickTo_no hq)
        rw [hq] at hcs
        clear hq
        go_wp2_with fail
        go_roundw
        case rel => exact ⟨k + 1, by omega, by go_num, by rw [peopleTo], by rw [HY.out], (HB.out.trans (Below.mono (B := wr.heap.size) (by repeat (first | (with_reducible exact Below.refl _ _) | ((with_reducible refine alloc_ ?_ ?_); (focus (first | exact Nat.le_refl _ | (simp; done) | (simp; omega) | omega))) | ((with_reducible refine set_ ?_ ?_); (focus (first | exact Nat.le_refl _ | (simp; done) | (simp; omega) | omega))) | (with_reducible refine Below.drew ?_) | ((with_reducible refine after_ ?_ (by assumption) ?_); (rotate_left; (focus (first | exact Nat.le_refl _ | (simp; done) | (simp; omega) | omega)))))) z1))⟩
        case measure => simp [intOf]; omega
      · have HY := Lib.hid (quickTo_yes hq)
        rw [hq] at hcs
        clear hq
        go_wp2_with fail
        go_roundw
        case rel => exact ⟨k + 1, by omega, by go_num, by rw [peopleTo], by rw [HY.out], (HB.out.trans (Below.mono (B := wr.heap.size) (by repeat (first | (with_reducible exact Below.refl _ _) | ((with_reducible refine alloc_ ?_ ?_); (focus (first | exact Nat.le_refl _ | (simp; done) | (simp; omega) | omega))) | ((with_reducible refine set_ ?_ ?_); (focus (first | exact Nat.le_refl _ | (simp; done) | (simp; omega) | omega))) | (with_reducible refine Below.drew ?_) | ((with_reducible refine after_ ?_ (by assumption) ?_); (rotate_left; (focus (first | exact Nat.le_refl _ | (simp; done) | (simp; omega) | omega)))))) z1))⟩
        case measure => simp [intOf]; omega
    · obtain rfl : k = l.length := by omega
      clear hbel
      go_wp2_with fail
      exact bodyPost_ret (v := .tuple #[.int .i64 (peopleTo l l.length), .int .i64 (quickTo l l.length), .bool true]) (by simp [results, Try.results20, go_sem]) rfl ⟨rett3 H.out rfl rfl rfl, HB1.out.trans (HB.out.mono HB1.out.size)⟩
theorem l13People_c (l : List Gro) (A : Option Addr) (cap : Nat) (w : World) (hr : Rd w w.heap.size 2 Gro.cells A l) (hg : l.length ≤ 12 ∧ ∀ i, i < l.length → 1 ≤ (nth l i).s ∧ (nth l i).s ≤ 8) :
    Calls Try.prog 57 #[.slice A l.length cap] w fun e w' => e = .returned (.int .i64 (peopleTo l l.length)) ∧ w = w' := by
  obtain ⟨hl12, hg⟩ := hg
  have HG := Lib.hid hg
  clear hg
  go_enter Try.func57, Try.ntmps57
  go_wp2_with fail
  go_loop [3, 4] (fun a i => ∃ k : Nat, k ≤ l.length ∧ i = .int .i64 k ∧ a = .int .i64 (peopleTo l k)) (fun _ i => l.length - (intOf i).toNat)
  case atStart => exact ⟨0, Nat.zero_le _, rfl, rfl⟩
  case round =>
    obtain ⟨k, hk, rfl, rfl⟩ := hrel
    by_cases hlt : k < l.length
    · obtain ⟨b, off, rfl, hb1, hcs⟩ := Gro.rd hr hlt
      obtain ⟨p1, p2⟩ := peopleTo_bd HG.out k hk
      obtain ⟨s1, s2⟩ := HG.out k hlt
      go_wp2_with fail
      go_round
      case rel => exact ⟨k + 1, by omega, by go_num, by rw [peopleTo]⟩
      case measure => simp [intOf]; omega
    · obtain rfl : k = l.length := by omega
      go_wp2_with fail
      go_ret
      exact ⟨rfl, rfl⟩
theorem specPeopleIn_c (l : List Gro) (A : Option Addr) (cap : Nat) (w : World) (hl : l.length ≤ 1048576) (hr : Rd w w.heap.size 2 Gro.cells A l) :
    Calls Try.prog 19 #[.slice A l.length cap] w fun e w' => e = .returned (.tuple #[.int .i64 (people l).a, .int .i64 (people l).q, .bool (people l).ok]) ∧ Below w.heap.size w w' := by
  rcases hg : goodG l with _ | _
  · have H := Lib.hid (show people l = ⟨0, 0, false⟩ by simp [people, hg])
    go_enter Try.func19, Try.ntmps19
    go_wp2_with (go_at_call 51; refine (l13Queue_c l _ _ _ hl hr).mono ?_; rintro e w' ⟨rfl, rfl⟩)
    exact bodyPost_ret (v := .tuple #[.int .i64 0, .int .i64 0, .bool false]) (by simp [results, Try.results19, go_sem]) rfl ⟨rett3 H.out rfl rfl rfl, Below.refl _ _⟩
  have HG := Lib.hid (goodG_true hg)
  have H := Lib.hid (show people l = ⟨peopleTo l l.length, quickTo l l.length, true⟩ by simp [people, hg])
  have hl12 := HG.out.1
  go_enter Try.func19, Try.ntmps19
  go_wp2_with (go_at_call 51; refine (l13Queue_c l _ _ _ hl hr).mono ?_; rintro e w' ⟨rfl, rfl⟩)
  clear hg
  go_loop [5, 6] (fun q i => ∃ k : Nat, k ≤ l.length ∧ i = .int .i64 k ∧ q = .int .i64 (quickTo l k)) (fun _ i => l.length - (intOf i).toNat)
  case atStart => exact ⟨0, Nat.zero_le _, rfl, rfl⟩
  case round =>
    obtain ⟨k, hk, rfl, rfl⟩ := hrel
    by_cases hlt : k < l.length
    · obtain ⟨b, off, rfl, hb1, hcs⟩ := Gro.rd hr hlt
      obtain ⟨q1, q2⟩ := quickTo_bd HG.out.2 k hk
      obtain ⟨s1, s2⟩ := HG.out.2 k hlt
      rcases hq : (nth l k).q with _ | _
      · have HY := Lib.hid (quickTo_no hq)
        rw [hq] at hcs
        clear hq
        go_wp2_with fail
        go_round
        case rel => exact ⟨k + 1, by omega, by go_num, by rw [HY.out]⟩
        case measure => simp [intOf]; omega
      · have HY := Lib.hid (quickTo_yes hq)
        rw [hq] at hcs
        clear hq
        go_wp2_with fail
        go_round
        case rel => exact ⟨k + 1, by omega, by go_num, by rw [HY.out]⟩
        case measure => simp [intOf]; omega
    · obtain rfl : k = l.length := by omega
      go_wp2_with (go_at_call 57; refine (l13People_c l _ _ _ hr HG.out).mono ?_; rintro e w' ⟨rfl, rfl⟩)
      exact bodyPost_ret (v := .tuple #[.int .i64 (peopleTo l l.length), .int .i64 (quickTo l l.length), .bool true]) (by simp [results, Try.results19, go_sem]) rfl ⟨rett3 H.out rfl rfl rfl, Below.refl _ _⟩
end Go.Proofs.Ytalabohacedgnaa
