/- The tests on platforms, and how many can enter: the program's and the reference's return the same Lean function; no conditions. -/
import Derived.Test.YtfmemmfmalfkaaaDoorRange
import Derived.Test.YtfmemmfmalfkaaaDoorSlice
namespace Go.Proofs.YtfmemmfmalfkaaaDoor
open Go.RowKit
structure Pla where
  d : Int
  s : Int
  n : Int
  w : Int
  l : Bool
  g : Int
instance : Inhabited Pla := ⟨⟨0, 0, 0, 0, false, 0⟩⟩
def Pla.cells (x : Pla) : List Value := [.int .i64 x.d, .int .i64 x.s, .int .i64 x.n, .int .i64 x.w, .bool x.l, .int .i64 x.g]
theorem Pla.rd {w : World} {B : Nat} {A : Option Addr} {l : List Pla} (h : Rd w B 6 Pla.cells A l) {i : Nat} (hi : i < l.length) : ∃ b off, A = some ⟨b, off, none⟩ ∧ b < B ∧ w.cell? ⟨b, off + i * 6, none⟩ = some (.int .i64 (nth l i).d) ∧ w.cell? ⟨b, off + i * 6 + 1, none⟩ = some (.int .i64 (nth l i).s) ∧ w.cell? ⟨b, off + i * 6 + 2, none⟩ = some (.int .i64 (nth l i).n) ∧ w.cell? ⟨b, off + i * 6 + 3, none⟩ = some (.int .i64 (nth l i).w) ∧ w.cell? ⟨b, off + i * 6 + 4, none⟩ = some (.bool (nth l i).l) ∧ w.cell? ⟨b, off + i * 6 + 5, none⟩ = some (.int .i64 (nth l i).g) := by
  obtain ⟨b, off, e, hlt, hc⟩ := h i hi
  exact ⟨b, off, e, hlt, by simpa using hc 0 _ rfl, hc 1 _ rfl, hc 2 _ rfl, hc 3 _ rfl, hc 4 _ rfl, hc 5 _ rfl⟩
theorem toPlatform_c (x : Pla) (w : World) : Calls Tryd.prog 16 #[.agg #[.int .i64 x.d, .int .i64 x.s, .int .i64 x.n, .int .i64 x.w, .bool x.l, .int .i64 x.g]] w fun e w' => e = .returned (.agg #[.int .i64 x.d, .int .i64 x.s, .int .i64 x.n, .int .i64 x.w, .bool x.l, .int .i64 x.g]) ∧ Below w.heap.size w w' := by
  go_enter Tryd.func16, Tryd.ntmps16
  go_wp2
  exact bodyPost_ret (v := .agg #[.int .i64 x.d, .int .i64 x.s, .int .i64 x.n, .int .i64 x.w, .bool x.l, .int .i64 x.g]) (by simp [results, Tryd.results16, go_sem]) rfl ⟨rfl, (by repeat (first | (with_reducible exact Below.refl _ _) | ((with_reducible refine alloc_ ?_ ?_); (focus (first | exact Nat.le_refl _ | (simp; done) | (simp; omega) | omega))) | ((with_reducible refine set_ ?_ ?_); (focus (first | exact Nat.le_refl _ | (simp; done) | (simp; omega) | omega))) | (with_reducible refine Below.drew ?_) | ((with_reducible refine after_ ?_ (by assumption) ?_); (rotate_left; (focus (first | exact Nat.le_refl _ | (simp; done) | (simp; omega) | omega))))))⟩
def okP (x : Pla) : Bool := inR x.d 0 1 && inR x.s 0 16 && inR x.n 0 x.s && inR x.w 0 500 && inR x.g 0 9999 && (decide (0 < x.s) || x.d == 0)
theorem okP_true {x : Pla} (h : okP x = true) : (0 ≤ x.d ∧ x.d ≤ 1) ∧ (0 ≤ x.s ∧ x.s ≤ 16) ∧ (0 ≤ x.n ∧ x.n ≤ x.s) ∧ (0 ≤ x.w ∧ x.w ≤ 500) := by
  simp only [okP, Bool.and_eq_true, inR_true] at h
  exact ⟨h.1.1.1.1.1, h.1.1.1.1.2, h.1.1.1.2, h.1.1.2⟩
theorem IsPlatform_c (x : Pla) (w : World) : Calls Tryd.prog 28 #[.agg #[.int .i64 x.d, .int .i64 x.s, .int .i64 x.n, .int .i64 x.w, .bool x.l, .int .i64 x.g]] w fun e w' => e = .returned (.bool (okP x)) ∧ Below w.heap.size w w' := by
  go_enter Tryd.func28, Tryd.ntmps28
  go_wp2_with (go_at_call 21; refine (within_c _ _ _ _).mono ?_; rintro e w' ⟨rfl, rfl⟩)
  all_goals (go_ret; exact ⟨retb (by simp [okP, *]), (by repeat (first | (with_reducible exact Below.refl _ _) | ((with_reducible refine alloc_ ?_ ?_); (focus (first | exact Nat.le_refl _ | (simp; done) | (simp; omega) | omega))) | ((with_reducible refine set_ ?_ ?_); (focus (first | exact Nat.le_refl _ | (simp; done) | (simp; omega) | omega))) | (with_reducible refine Below.drew ?_) | ((with_reducible refine after_ ?_ (by assumption) ?_); (rotate_left; (focus (first | exact Nat.le_refl _ | (simp; done) | (simp; omega) | omega))))))⟩)
theorem l14Good_c (x : Pla) (w : World) : Calls Tryd.prog 26 #[.agg #[.int .i64 x.d, .int .i64 x.s, .int .i64 x.n, .int .i64 x.w, .bool x.l, .int .i64 x.g]] w fun e w' => e = .returned (.bool (okP x)) ∧ Below w.heap.size w w' := by
  rcases h1 : inR x.d 0 1 && inR x.s 0 16 && inR x.n 0 x.s && inR x.w 0 500 && inR x.g 0 9999 with _ | _
  · have H := Lib.hid (show okP x = false by simp [okP, h1])
    go_enter Tryd.func26, Tryd.ntmps26
    go_wp2_with (go_at_call 30; refine (l1In_c _ _ _ _).mono ?_; rintro e w' ⟨rfl, rfl⟩)
    all_goals first
      | (go_ret; exact ⟨retb H.out.symm, (by repeat (first | (with_reducible exact Below.refl _ _) | ((with_reducible refine alloc_ ?_ ?_); (focus (first | exact Nat.le_refl _ | (simp; done) | (simp; omega) | omega))) | ((with_reducible refine set_ ?_ ?_); (focus (first | exact Nat.le_refl _ | (simp; done) | (simp; omega) | omega))) | (with_reducible refine Below.drew ?_) | ((with_reducible refine after_ ?_ (by assumption) ?_); (rotate_left; (focus (first | exact Nat.le_refl _ | (simp; done) | (simp; omega) | omega))))))⟩)
      | (exfalso; simp_all; done)
  · simp only [Bool.and_eq_true] at h1
    obtain ⟨⟨⟨⟨g1, g2⟩, g3⟩, g4⟩, g5⟩ := h1
    have H := Lib.hid (show okP x = (decide (0 < x.s) || x.d == 0) by simp [okP, g1, g2, g3, g4, g5])
    by_cases hs : 0 < x.s
    · go_enter Tryd.func26, Tryd.ntmps26
      go_wp2_with (go_at_call 30; refine (l1In_c _ _ _ _).mono ?_; rintro e w' ⟨rfl, rfl⟩)
      go_ret
      exact ⟨retb (by rw [H.out]; simp [hs]), (by repeat (first | (with_reducible exact Below.refl _ _) | ((with_reducible refine alloc_ ?_ ?_); (focus (first | exact Nat.le_refl _ | (simp; done) | (simp; omega) | omega))) | ((with_reducible refine set_ ?_ ?_); (focus (first | exact Nat.le_refl _ | (simp; done) | (simp; omega) | omega))) | (with_reducible refine Below.drew ?_) | ((with_reducible refine after_ ?_ (by assumption) ?_); (rotate_left; (focus (first | exact Nat.le_refl _ | (simp; done) | (simp; omega) | omega))))))⟩
    · have hs' : decide ((0 : Int) < x.s) = false := by simp [hs]
      go_enter Tryd.func26, Tryd.ntmps26
      go_wp2_with (go_at_call 30; refine (l1In_c _ _ _ _).mono ?_; rintro e w' ⟨rfl, rfl⟩)
      go_ret
      exact ⟨retb (by rw [H.out, hs']; simp), (by repeat (first | (with_reducible exact Below.refl _ _) | ((with_reducible refine alloc_ ?_ ?_); (focus (first | exact Nat.le_refl _ | (simp; done) | (simp; omega) | omega))) | ((with_reducible refine set_ ?_ ?_); (focus (first | exact Nat.le_refl _ | (simp; done) | (simp; omega) | omega))) | (with_reducible refine Below.drew ?_) | ((with_reducible refine after_ ?_ (by assumption) ?_); (rotate_left; (focus (first | exact Nat.le_refl _ | (simp; done) | (simp; omega) | omega))))))⟩
end Go.Proofs.YtfmemmfmalfkaaaDoor
