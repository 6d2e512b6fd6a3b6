/- What the reference draws of ropes and damages: a kind of rope, a damage, a list of damages of the call's own; only the cursor's own block turns; no conditions but that the cursor has not gone very far. -/
import Derived.Test.YtlgpgcfncmomiaaVee
import Derived.Test.YtlgpgcfncmomiaaDamAddI
import Derived.Deep.RegionWith
import Derived.Deep.RegionHeld3
import Derived.Deep.DeepCutAuto
namespace Go.Proofs.Ytlgpgcfncmomiaa
open Go.RowKit

/-- A kind of rope that is not far off. -/
def NearK (k : Kin) : Prop := (-1000 ≤ k.st ∧ k.st ≤ 1000) ∧ -10000 ≤ k.wi ∧ k.wi ≤ 10000
def KinV (k : Kin) : Value := .agg #[.int .i64 k.i, .int .i64 k.st, .int .i64 k.wi, .int .i64 k.we, .int .i64 k.sg]
def KinD (gc K : Nat) (w : World) (e : Ending) (w' : World) : Prop := ∃ k : Kin, e = .returned (.agg #[.int .i64 k.i, .int .i64 k.st, .int .i64 k.wi, .int .i64 k.we, .int .i64 k.sg]) ∧ NearK k ∧ Cur w' gc K ∧ w.grownBy w' (some gc)
set_option maxRecDepth 100000 in
set_option maxHeartbeats 16000000 in
theorem ropeKind_c (i : Int) (gc K : Nat) (w : World) (h : Cur w gc K) (hK : K ≤ 100000) : Calls Try.prog 19 #[.pointer (some ⟨gc, 0, none⟩), .int .i64 i] w (KinD gc (K + 20) w) := by
  have HC := Lib.hid h
  have HLT := Lib.hid h.lt
  clear h
  go_enter Try.func19, Try.ntmps19
  go_wp2_with fail
  refine (among_n [4, 6, 6, 8] 4 8 gc _ _ _ _ _ (HC.out.alloc _) (by omega) (by simp) rfl rfl (by decide) (by decide) (by decide)).mono ?_
  rintro e w1 ⟨a, rfl, a1, a2, hcw1, hgw1⟩
  have HCw1 := Lib.hid hcw1
  have HGw1 := Lib.hid hgw1
  clear hcw1 hgw1
  go_wp2_with fail
  refine (among_n [7, 10, 19, 40] 7 40 gc _ _ _ _ _ HCw1.out (by omega) (by simp) rfl rfl (by decide) (by decide) (by decide)).mono ?_
  rintro e w2 ⟨b, rfl, b1, b2, hcw2, hgw2⟩
  have HCw2 := Lib.hid hcw2
  have HGw2 := Lib.hid hgw2
  clear hcw2 hgw2
  go_wp2_with fail
  refine (among_n [10, 45, 45, 500] 10 500 gc _ _ _ _ _ HCw2.out (by omega) (by simp) rfl rfl (by decide) (by decide) (by decide)).mono ?_
  rintro e w3 ⟨c, rfl, c1, c2, hcw3, hgw3⟩
  have HCw3 := Lib.hid hcw3
  have HGw3 := Lib.hid hgw3
  clear hcw3 hgw3
  go_wp2_with fail
  refine (among_n [10, 800, 1000, 5000] 10 5000 gc _ _ _ _ _ HCw3.out (by omega) (by simp) rfl rfl (by decide) (by decide) (by decide)).mono ?_
  rintro e w4 ⟨d, rfl, d1, d2, hcw4, hgw4⟩
  have HCw4 := Lib.hid hcw4
  have HGw4 := Lib.hid hgw4
  clear hcw4 hgw4
  have HG := Lib.hid (but_trans (but_trans (but_trans HGw1.out HGw2.out) HGw3.out) HGw4.out)
  have g0 := HLT.out
  have HX := Lib.hid (Box.new w4 [.int .i64 i, .int .i64 a, .int .i64 b, .int .i64 c, .int .i64 d] 25)
  have HZ := Lib.hid (((Box.new w [.int .i64 0, .int .i64 0, .int .i64 0, .int .i64 0, .int .i64 0] 25).grown HG.out (by omega)).alloc (.cells #[.int .i64 i, .int .i64 a, .int .i64 b, .int .i64 c, .int .i64 d] 25))
  have HB4 := Lib.hid (but_below (but_trans (but_alloc (.cells #[.int .i64 0, .int .i64 0, .int .i64 0, .int .i64 0, .int .i64 0] 25)) HG.out) ((Below.refl w.heap.size w4).alloc (by have := HG.out.size; simp at this; omega) (.cells #[.int .i64 i, .int .i64 a, .int .i64 b, .int .i64 c, .int .i64 d] 25)))
  have z0 : w.heap.size < w4.heap.size := by have := HG.out.size; simp at this; omega
  go_wp2_with fail
  refine (pick_c 60 gc _ _ (HCw4.out.alloc _) (by omega) (by omega) (by omega)).mono ?_
  rintro e w5 ⟨m, rfl, m1, m2, hcw5, hgw5⟩
  have HCw5 := Lib.hid hcw5
  have HGw5 := Lib.hid hgw5
  clear hcw5 hgw5
  have HX5 := Lib.hid (HX.out.grown HGw5.out (by omega))
  have HZ5 := Lib.hid (HZ.out.grown HGw5.out (by omega))
  have HB5 := Lib.hid (but_trans HB4.out HGw5.out)
  have z5 := HX5.out.lt
  clear HG HGw1 HGw2 HGw3 HGw4 HGw5 HCw1 HCw2 HCw3 HCw4 HX HZ HB4
  have hcase : m = 0 ∨ m = 1 ∨ m = 2 ∨ m = 3 ∨ m = 4 ∨ (m ≠ 0 ∧ m ≠ 1 ∧ m ≠ 2 ∧ m ≠ 3 ∧ m ≠ 4) := by omega
  rcases hcase with rfl | rfl | rfl | rfl | rfl | ⟨q0, q1, q2, q3, q4⟩
  ·
    go_wp2_with fail
    refine (among_n [0, 20, 21] 0 21 gc _ _ _ _ _ HCw5.out (by omega) (by simp) rfl rfl (by decide) (by decide) (by decide)).mono ?_
    rintro e w6 ⟨v, rfl, v1, v2, hcw6, hgw6⟩
    have HCw6 := Lib.hid hcw6
    have HGw6 := Lib.hid hgw6
    clear hcw6 hgw6
    have HX6 := Lib.hid (HX5.out.grown HGw6.out (by omega))
    have HZ6 := Lib.hid (HZ5.out.grown HGw6.out (by omega))
    have HB6 := Lib.hid (but_trans HB5.out HGw6.out)
    clear HGw6
    have k0 := HX6.out.cell (j := 0) rfl
    have k1 := HX6.out.cell (j := 1) rfl
    have k2 := HX6.out.cell (j := 2) rfl
    have k3 := HX6.out.cell (j := 3) rfl
    have k4 := HX6.out.cell (j := 4) rfl
    have kz := HX6.out.frozen
    have o0 := HZ6.out.cell (j := 0) rfl
    have o1 := HZ6.out.cell (j := 1) rfl
    have o2 := HZ6.out.cell (j := 2) rfl
    have o3 := HZ6.out.cell (j := 3) rfl
    have o4 := HZ6.out.cell (j := 4) rfl
    have oz := HZ6.out.frozen
    have lx := HX6.out.lt
    have lz := HB6.out.size
    have n1 : ¬ w4.heap.size = w.heap.size := by omega
    have n2 : ¬ w.heap.size = w4.heap.size := by omega
    go_wp2_with fail
    exact bodyPost_ret (v := .agg #[.int .i64 ((⟨v, a, b, c, d⟩ : Kin)).i, .int .i64 ((⟨v, a, b, c, d⟩ : Kin)).st, .int .i64 ((⟨v, a, b, c, d⟩ : Kin)).wi, .int .i64 ((⟨v, a, b, c, d⟩ : Kin)).we, .int .i64 ((⟨v, a, b, c, d⟩ : Kin)).sg]) (by simp [results, Try.results19, go_sem, o0, o1, o2, o3, o4]) rfl
      ⟨(⟨v, a, b, c, d⟩ : Kin), rfl, ⟨⟨by simp only; omega, by simp only; omega⟩, by simp only; omega, by simp only; omega⟩, (HCw6.out.below (B := w.heap.size) (by repeat (first | (with_reducible exact Below.refl _ _) | ((with_reducible refine alloc_ ?_ ?_); (focus (first | exact Nat.le_refl _ | (simp; done) | (simp; omega) | omega))) | ((with_reducible refine set_ ?_ ?_); (focus (first | exact Nat.le_refl _ | (simp; done) | (simp; omega) | omega))) | (with_reducible refine Below.drew ?_) | ((with_reducible refine after_ ?_ (by assumption) ?_); (rotate_left; (focus (first | exact Nat.le_refl _ | (simp; done) | (simp; omega) | omega)))))) g0).mono (by omega), but_below HB6.out (by repeat (first | (with_reducible exact Below.refl _ _) | ((with_reducible refine alloc_ ?_ ?_); (focus (first | exact Nat.le_refl _ | (simp; done) | (simp; omega) | omega))) | ((with_reducible refine set_ ?_ ?_); (focus (first | exact Nat.le_refl _ | (simp; done) | (simp; omega) | omega))) | (with_reducible refine Below.drew ?_) | ((with_reducible refine after_ ?_ (by assumption) ?_); (rotate_left; (focus (first | exact Nat.le_refl _ | (simp; done) | (simp; omega) | omega))))))⟩
  ·
    go_wp2_with fail
    refine (among_n [3, 9] 3 9 gc _ _ _ _ _ HCw5.out (by omega) (by simp) rfl rfl (by decide) (by decide) (by decide)).mono ?_
    rintro e w6 ⟨v, rfl, v1, v2, hcw6, hgw6⟩
    have HCw6 := Lib.hid hcw6
    have HGw6 := Lib.hid hgw6
    clear hcw6 hgw6
    have HX6 := Lib.hid (HX5.out.grown HGw6.out (by omega))
    have HZ6 := Lib.hid (HZ5.out.grown HGw6.out (by omega))
    have HB6 := Lib.hid (but_trans HB5.out HGw6.out)
    clear HGw6
    have k0 := HX6.out.cell (j := 0) rfl
    have k1 := HX6.out.cell (j := 1) rfl
    have k2 := HX6.out.cell (j := 2) rfl
    have k3 := HX6.out.cell (j := 3) rfl
    have k4 := HX6.out.cell (j := 4) rfl
    have kz := HX6.out.frozen
    have o0 := HZ6.out.cell (j := 0) rfl
    have o1 := HZ6.out.cell (j := 1) rfl
    have o2 := HZ6.out.cell (j := 2) rfl
    have o3 := HZ6.out.cell (j := 3) rfl
    have o4 := HZ6.out.cell (j := 4) rfl
    have oz := HZ6.out.frozen
    have lx := HX6.out.lt
    have lz := HB6.out.size
    have n1 : ¬ w4.heap.size = w.heap.size := by omega
    have n2 : ¬ w.heap.size = w4.heap.size := by omega
    go_wp2_with fail
    exact bodyPost_ret (v := .agg #[.int .i64 ((⟨i, v, b, c, d⟩ : Kin)).i, .int .i64 ((⟨i, v, b, c, d⟩ : Kin)).st, .int .i64 ((⟨i, v, b, c, d⟩ : Kin)).wi, .int .i64 ((⟨i, v, b, c, d⟩ : Kin)).we, .int .i64 ((⟨i, v, b, c, d⟩ : Kin)).sg]) (by simp [results, Try.results19, go_sem, o0, o1, o2, o3, o4]) rfl
      ⟨(⟨i, v, b, c, d⟩ : Kin), rfl, ⟨⟨by simp only; omega, by simp only; omega⟩, by simp only; omega, by simp only; omega⟩, (HCw6.out.below (B := w.heap.size) (by repeat (first | (with_reducible exact Below.refl _ _) | ((with_reducible refine alloc_ ?_ ?_); (focus (first | exact Nat.le_refl _ | (simp; done) | (simp; omega) | omega))) | ((with_reducible refine set_ ?_ ?_); (focus (first | exact Nat.le_refl _ | (simp; done) | (simp; omega) | omega))) | (with_reducible refine Below.drew ?_) | ((with_reducible refine after_ ?_ (by assumption) ?_); (rotate_left; (focus (first | exact Nat.le_refl _ | (simp; done) | (simp; omega) | omega)))))) g0).mono (by omega), but_below HB6.out (by repeat (first | (with_reducible exact Below.refl _ _) | ((with_reducible refine alloc_ ?_ ?_); (focus (first | exact Nat.le_refl _ | (simp; done) | (simp; omega) | omega))) | ((with_reducible refine set_ ?_ ?_); (focus (first | exact Nat.le_refl _ | (simp; done) | (simp; omega) | omega))) | (with_reducible refine Below.drew ?_) | ((with_reducible refine after_ ?_ (by assumption) ?_); (rotate_left; (focus (first | exact Nat.le_refl _ | (simp; done) | (simp; omega) | omega))))))⟩
  ·
    go_wp2_with fail
    refine (among_n [6, 41] 6 41 gc _ _ _ _ _ HCw5.out (by omega) (by simp) rfl rfl (by decide) (by decide) (by decide)).mono ?_
    rintro e w6 ⟨v, rfl, v1, v2, hcw6, hgw6⟩
    have HCw6 := Lib.hid hcw6
    have HGw6 := Lib.hid hgw6
    clear hcw6 hgw6
    have HX6 := Lib.hid (HX5.out.grown HGw6.out (by omega))
    have HZ6 := Lib.hid (HZ5.out.grown HGw6.out (by omega))
    have HB6 := Lib.hid (but_trans HB5.out HGw6.out)
    clear HGw6
    have k0 := HX6.out.cell (j := 0) rfl
    have k1 := HX6.out.cell (j := 1) rfl
    have k2 := HX6.out.cell (j := 2) rfl
    have k3 := HX6.out.cell (j := 3) rfl
    have k4 := HX6.out.cell (j := 4) rfl
    have kz := HX6.out.frozen
    have o0 := HZ6.out.cell (j := 0) rfl
    have o1 := HZ6.out.cell (j := 1) rfl
    have o2 := HZ6.out.cell (j := 2) rfl
    have o3 := HZ6.out.cell (j := 3) rfl
    have o4 := HZ6.out.cell (j := 4) rfl
    have oz := HZ6.out.frozen
    have lx := HX6.out.lt
    have lz := HB6.out.size
    have n1 : ¬ w4.heap.size = w.heap.size := by omega
    have n2 : ¬ w.heap.size = w4.heap.size := by omega
    go_wp2_with fail
    exact bodyPost_ret (v := .agg #[.int .i64 ((⟨i, a, v, c, d⟩ : Kin)).i, .int .i64 ((⟨i, a, v, c, d⟩ : Kin)).st, .int .i64 ((⟨i, a, v, c, d⟩ : Kin)).wi, .int .i64 ((⟨i, a, v, c, d⟩ : Kin)).we, .int .i64 ((⟨i, a, v, c, d⟩ : Kin)).sg]) (by simp [results, Try.results19, go_sem, o0, o1, o2, o3, o4]) rfl
      ⟨(⟨i, a, v, c, d⟩ : Kin), rfl, ⟨⟨by simp only; omega, by simp only; omega⟩, by simp only; omega, by simp only; omega⟩, (HCw6.out.below (B := w.heap.size) (by repeat (first | (with_reducible exact Below.refl _ _) | ((with_reducible refine alloc_ ?_ ?_); (focus (first | exact Nat.le_refl _ | (simp; done) | (simp; omega) | omega))) | ((with_reducible refine set_ ?_ ?_); (focus (first | exact Nat.le_refl _ | (simp; done) | (simp; omega) | omega))) | (with_reducible refine Below.drew ?_) | ((with_reducible refine after_ ?_ (by assumption) ?_); (rotate_left; (focus (first | exact Nat.le_refl _ | (simp; done) | (simp; omega) | omega)))))) g0).mono (by omega), but_below HB6.out (by repeat (first | (with_reducible exact Below.refl _ _) | ((with_reducible refine alloc_ ?_ ?_); (focus (first | exact Nat.le_refl _ | (simp; done) | (simp; omega) | omega))) | ((with_reducible refine set_ ?_ ?_); (focus (first | exact Nat.le_refl _ | (simp; done) | (simp; omega) | omega))) | (with_reducible refine Below.drew ?_) | ((with_reducible refine after_ ?_ (by assumption) ?_); (rotate_left; (focus (first | exact Nat.le_refl _ | (simp; done) | (simp; omega) | omega))))))⟩
  ·
    go_wp2_with fail
    refine (among_n [9, 501] 9 501 gc _ _ _ _ _ HCw5.out (by omega) (by simp) rfl rfl (by decide) (by decide) (by decide)).mono ?_
    rintro e w6 ⟨v, rfl, v1, v2, hcw6, hgw6⟩
    have HCw6 := Lib.hid hcw6
    have HGw6 := Lib.hid hgw6
    clear hcw6 hgw6
    have HX6 := Lib.hid (HX5.out.grown HGw6.out (by omega))
    have HZ6 := Lib.hid (HZ5.out.grown HGw6.out (by omega))
    have HB6 := Lib.hid (but_trans HB5.out HGw6.out)
    clear HGw6
    have k0 := HX6.out.cell (j := 0) rfl
    have k1 := HX6.out.cell (j := 1) rfl
    have k2 := HX6.out.cell (j := 2) rfl
    have k3 := HX6.out.cell (j := 3) rfl
    have k4 := HX6.out.cell (j := 4) rfl
    have kz := HX6.out.frozen
    have o0 := HZ6.out.cell (j := 0) rfl
    have o1 := HZ6.out.cell (j := 1) rfl
    have o2 := HZ6.out.cell (j := 2) rfl
    have o3 := HZ6.out.cell (j := 3) rfl
    have o4 := HZ6.out.cell (j := 4) rfl
    have oz := HZ6.out.frozen
    have lx := HX6.out.lt
    have lz := HB6.out.size
    have n1 : ¬ w4.heap.size = w.heap.size := by omega
    have n2 : ¬ w.heap.size = w4.heap.size := by omega
    go_wp2_with fail
    exact bodyPost_ret (v := .agg #[.int .i64 ((⟨i, a, b, v, d⟩ : Kin)).i, .int .i64 ((⟨i, a, b, v, d⟩ : Kin)).st, .int .i64 ((⟨i, a, b, v, d⟩ : Kin)).wi, .int .i64 ((⟨i, a, b, v, d⟩ : Kin)).we, .int .i64 ((⟨i, a, b, v, d⟩ : Kin)).sg]) (by simp [results, Try.results19, go_sem, o0, o1, o2, o3, o4]) rfl
      ⟨(⟨i, a, b, v, d⟩ : Kin), rfl, ⟨⟨by simp only; omega, by simp only; omega⟩, by simp only; omega, by simp only; omega⟩, (HCw6.out.below (B := w.heap.size) (by repeat (first | (with_reducible exact Below.refl _ _) | ((with_reducible refine alloc_ ?_ ?_); (focus (first | exact Nat.le_refl _ | (simp; done) | (simp; omega) | omega))) | ((with_reducible refine set_ ?_ ?_); (focus (first | exact Nat.le_refl _ | (simp; done) | (simp; omega) | omega))) | (with_reducible refine Below.drew ?_) | ((with_reducible refine after_ ?_ (by assumption) ?_); (rotate_left; (focus (first | exact Nat.le_refl _ | (simp; done) | (simp; omega) | omega)))))) g0).mono (by omega), but_below HB6.out (by repeat (first | (with_reducible exact Below.refl _ _) | ((with_reducible refine alloc_ ?_ ?_); (focus (first | exact Nat.le_refl _ | (simp; done) | (simp; omega) | omega))) | ((with_reducible refine set_ ?_ ?_); (focus (first | exact Nat.le_refl _ | (simp; done) | (simp; omega) | omega))) | (with_reducible refine Below.drew ?_) | ((with_reducible refine after_ ?_ (by assumption) ?_); (rotate_left; (focus (first | exact Nat.le_refl _ | (simp; done) | (simp; omega) | omega))))))⟩
  ·
    go_wp2_with fail
    refine (among_n [9, 5001] 9 5001 gc _ _ _ _ _ HCw5.out (by omega) (by simp) rfl rfl (by decide) (by decide) (by decide)).mono ?_
    rintro e w6 ⟨v, rfl, v1, v2, hcw6, hgw6⟩
    have HCw6 := Lib.hid hcw6
    have HGw6 := Lib.hid hgw6
    clear hcw6 hgw6
    have HX6 := Lib.hid (HX5.out.grown HGw6.out (by omega))
    have HZ6 := Lib.hid (HZ5.out.grown HGw6.out (by omega))
    have HB6 := Lib.hid (but_trans HB5.out HGw6.out)
    clear HGw6
    have k0 := HX6.out.cell (j := 0) rfl
    have k1 := HX6.out.cell (j := 1) rfl
    have k2 := HX6.out.cell (j := 2) rfl
    have k3 := HX6.out.cell (j := 3) rfl
    have k4 := HX6.out.cell (j := 4) rfl
    have kz := HX6.out.frozen
    have o0 := HZ6.out.cell (j := 0) rfl
    have o1 := HZ6.out.cell (j := 1) rfl
    have o2 := HZ6.out.cell (j := 2) rfl
    have o3 := HZ6.out.cell (j := 3) rfl
    have o4 := HZ6.out.cell (j := 4) rfl
    have oz := HZ6.out.frozen
    have lx := HX6.out.lt
    have lz := HB6.out.size
    have n1 : ¬ w4.heap.size = w.heap.size := by omega
    have n2 : ¬ w.heap.size = w4.heap.size := by omega
    go_wp2_with fail
    exact bodyPost_ret (v := .agg #[.int .i64 ((⟨i, a, b, c, v⟩ : Kin)).i, .int .i64 ((⟨i, a, b, c, v⟩ : Kin)).st, .int .i64 ((⟨i, a, b, c, v⟩ : Kin)).wi, .int .i64 ((⟨i, a, b, c, v⟩ : Kin)).we, .int .i64 ((⟨i, a, b, c, v⟩ : Kin)).sg]) (by simp [results, Try.results19, go_sem, o0, o1, o2, o3, o4]) rfl
      ⟨(⟨i, a, b, c, v⟩ : Kin), rfl, ⟨⟨by simp only; omega, by simp only; omega⟩, by simp only; omega, by simp only; omega⟩, (HCw6.out.below (B := w.heap.size) (by repeat (first | (with_reducible exact Below.refl _ _) | ((with_reducible refine alloc_ ?_ ?_); (focus (first | exact Nat.le_refl _ | (simp; done) | (simp; omega) | omega))) | ((with_reducible refine set_ ?_ ?_); (focus (first | exact Nat.le_refl _ | (simp; done) | (simp; omega) | omega))) | (with_reducible refine Below.drew ?_) | ((with_reducible refine after_ ?_ (by assumption) ?_); (rotate_left; (focus (first | exact Nat.le_refl _ | (simp; done) | (simp; omega) | omega)))))) g0).mono (by omega), but_below HB6.out (by repeat (first | (with_reducible exact Below.refl _ _) | ((with_reducible refine alloc_ ?_ ?_); (focus (first | exact Nat.le_refl _ | (simp; done) | (simp; omega) | omega))) | ((with_reducible refine set_ ?_ ?_); (focus (first | exact Nat.le_refl _ | (simp; done) | (simp; omega) | omega))) | (with_reducible refine Below.drew ?_) | ((with_reducible refine after_ ?_ (by assumption) ?_); (rotate_left; (focus (first | exact Nat.le_refl _ | (simp; done) | (simp; omega) | omega))))))⟩
  ·
    have k0 := HX5.out.cell (j := 0) rfl
    have k1 := HX5.out.cell (j := 1) rfl
    have k2 := HX5.out.cell (j := 2) rfl
    have k3 := HX5.out.cell (j := 3) rfl
    have k4 := HX5.out.cell (j := 4) rfl
    have kz := HX5.out.frozen
    have o0 := HZ5.out.cell (j := 0) rfl
    have o1 := HZ5.out.cell (j := 1) rfl
    have o2 := HZ5.out.cell (j := 2) rfl
    have o3 := HZ5.out.cell (j := 3) rfl
    have o4 := HZ5.out.cell (j := 4) rfl
    have oz := HZ5.out.frozen
    have lx := HX5.out.lt
    have lz := HB5.out.size
    have n1 : ¬ w4.heap.size = w.heap.size := by omega
    have n2 : ¬ w.heap.size = w4.heap.size := by omega
    go_wp2_with fail
    exact bodyPost_ret (v := .agg #[.int .i64 ((⟨i, a, b, c, d⟩ : Kin)).i, .int .i64 ((⟨i, a, b, c, d⟩ : Kin)).st, .int .i64 ((⟨i, a, b, c, d⟩ : Kin)).wi, .int .i64 ((⟨i, a, b, c, d⟩ : Kin)).we, .int .i64 ((⟨i, a, b, c, d⟩ : Kin)).sg]) (by simp [results, Try.results19, go_sem, o0, o1, o2, o3, o4]) rfl
      ⟨(⟨i, a, b, c, d⟩ : Kin), rfl, ⟨⟨by simp only; omega, by simp only; omega⟩, by simp only; omega, by simp only; omega⟩, (HCw5.out.below (B := w.heap.size) (by repeat (first | (with_reducible exact Below.refl _ _) | ((with_reducible refine alloc_ ?_ ?_); (focus (first | exact Nat.le_refl _ | (simp; done) | (simp; omega) | omega))) | ((with_reducible refine set_ ?_ ?_); (focus (first | exact Nat.le_refl _ | (simp; done) | (simp; omega) | omega))) | (with_reducible refine Below.drew ?_) | ((with_reducible refine after_ ?_ (by assumption) ?_); (rotate_left; (focus (first | exact Nat.le_refl _ | (simp; done) | (simp; omega) | omega)))))) g0).mono (by omega), but_below HB5.out (by repeat (first | (with_reducible exact Below.refl _ _) | ((with_reducible refine alloc_ ?_ ?_); (focus (first | exact Nat.le_refl _ | (simp; done) | (simp; omega) | omega))) | ((with_reducible refine set_ ?_ ?_); (focus (first | exact Nat.le_refl _ | (simp; done) | (simp; omega) | omega))) | (with_reducible refine Below.drew ?_) | ((with_reducible refine after_ ?_ (by assumption) ?_); (rotate_left; (focus (first | exact Nat.le_refl _ | (simp; done) | (simp; omega) | omega))))))⟩
end Go.Proofs.Ytlgpgcfncmomiaa
