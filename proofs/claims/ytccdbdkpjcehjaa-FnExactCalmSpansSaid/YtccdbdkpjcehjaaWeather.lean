/- Lists of weather records in memory, and the tests on one record; no conditions beyond the length that the statements ask for. -/
import Derived.Test.YtccdbdkpjcehjaaRange
import Derived.Test.YtccdbdkpjcehjaaSlice
namespace Go.Proofs.Ytccdbdkpjcehjaa
open Go.RowKit
structure Wea where
  m : Int
  wi : Int
  f : Int
  d : Int
  s : Bool
instance : Inhabited Wea := ⟨⟨0, 0, 0, 0, false⟩⟩
def Wea.cells (x : Wea) : List Value := [.int .i64 x.m, .int .i64 x.wi, .int .i64 x.f, .int .i64 x.d, .bool x.s]
theorem Wea.rd {w : World} {B : Nat} {A : Option Addr} {l : List Wea} (h : Rd w B 5 Wea.cells A l) {i : Nat} (hi : i < l.length) : ∃ b off, A = some ⟨b, off, none⟩ ∧ b < B ∧ w.cell? ⟨b, off + i * 5, none⟩ = some (.int .i64 (nth l i).m) ∧ w.cell? ⟨b, off + i * 5 + 1, none⟩ = some (.int .i64 (nth l i).wi) ∧ w.cell? ⟨b, off + i * 5 + 2, none⟩ = some (.int .i64 (nth l i).f) ∧ w.cell? ⟨b, off + i * 5 + 3, none⟩ = some (.int .i64 (nth l i).d) ∧ w.cell? ⟨b, off + i * 5 + 4, none⟩ = some (.bool (nth l i).s) := by
  obtain ⟨b, off, e, hlt, hc⟩ := h i hi
  exact ⟨b, off, e, hlt, by simpa using hc 0 _ rfl, hc 1 _ rfl, hc 2 _ rfl, hc 3 _ rfl, hc 4 _ rfl⟩
theorem toWeather_c (x : Wea) (w : World) : Calls Try.prog 11 #[.agg #[.int .i64 x.m, .int .i64 x.wi, .int .i64 x.f, .int .i64 x.d, .bool x.s]] w fun e w' => e = .returned (.agg #[.int .i64 x.m, .int .i64 x.wi, .int .i64 x.f, .int .i64 x.d, .bool x.s]) ∧ Below w.heap.size w w' := by
  go_enter Try.func11, Try.ntmps11
  go_wp2
  exact bodyPost_ret (v := .agg #[.int .i64 x.m, .int .i64 x.wi, .int .i64 x.f, .int .i64 x.d, .bool x.s]) (by simp [results, Try.results11, go_sem]) rfl ⟨rfl, (by repeat (first | (with_reducible exact Below.refl _ _) | ((with_reducible refine alloc_ ?_ ?_); (focus (first | exact Nat.le_refl _ | (simp; done) | (simp; omega) | omega))) | ((with_reducible refine set_ ?_ ?_); (focus (first | exact Nat.le_refl _ | (simp; done) | (simp; omega) | omega))) | (with_reducible refine Below.drew ?_) | ((with_reducible refine after_ ?_ (by assumption) ?_); (rotate_left; (focus (first | exact Nat.le_refl _ | (simp; done) | (simp; omega) | omega))))))⟩
theorem eqWeather_same (x : Wea) (w : World) : Calls Try.prog 20 #[.agg #[.int .i64 x.m, .int .i64 x.wi, .int .i64 x.f, .int .i64 x.d, .bool x.s], .agg #[.int .i64 x.m, .int .i64 x.wi, .int .i64 x.f, .int .i64 x.d, .bool x.s]] w fun e w' => e = .returned (.bool true) ∧ Below w.heap.size w w' := by
  go_enter Try.func20, Try.ntmps20
  go_wp2
  go_ret
  exact ⟨rfl, (by repeat (first | (with_reducible exact Below.refl _ _) | ((with_reducible refine alloc_ ?_ ?_); (focus (first | exact Nat.le_refl _ | (simp; done) | (simp; omega) | omega))) | ((with_reducible refine set_ ?_ ?_); (focus (first | exact Nat.le_refl _ | (simp; done) | (simp; omega) | omega))) | (with_reducible refine Below.drew ?_) | ((with_reducible refine after_ ?_ (by assumption) ?_); (rotate_left; (focus (first | exact Nat.le_refl _ | (simp; done) | (simp; omega) | omega))))))⟩
theorem info_Weather : (Try.prog.info? 25).map (fun i => (i.zero, i.size, i.bytes)) = some (some (.agg #[.int .i64 0, .int .i64 0, .int .i64 0, .int .i64 0, .bool false]), 5, 40) := by kernel_rfl
set_option maxRecDepth 100000 in
theorem toWeatherS_c (l : List Wea) (A : Option Addr) (cap : Nat) (w : World) (hl : l.length ≤ 1048576) (hr : Rd w w.heap.size 5 Wea.cells A l) :
    Calls Try.prog 15 #[.slice A l.length cap] w fun e w' => e = .returned (.slice (some ⟨w.heap.size, 0, none⟩) l.length l.length) ∧ Row w' w.heap.size 25 5 Wea.cells l ∧ Below w.heap.size w w' := by
  have hmk := make_rows (P := Try.prog) 31 25 _ 5 40 Try.underlying31 info_Weather l.length (by omega) (by omega)
  go_enter Try.func15, Try.ntmps15
  go_wp2_with fail
  go_loopw [4] (fun i wr => ∃ k : Nat, k ≤ l.length ∧ i = .int .i64 k ∧ Fill w wr 25 5 Wea.cells l k) (fun i _ => l.length - (intOf i).toNat)
  case atStart => exact ⟨0, Nat.zero_le _, rfl, Fill.start (made_row w _ _ _ (size_madeCells _ _)) (by repeat (first | (with_reducible exact Below.refl _ _) | ((with_reducible refine alloc_ ?_ ?_); (focus (first | exact Nat.le_refl _ | (simp; done) | (simp; omega) | omega))) | ((with_reducible refine set_ ?_ ?_); (focus (first | exact Nat.le_refl _ | (simp; done) | (simp; omega) | omega))) | (with_reducible refine Below.drew ?_) | ((with_reducible refine after_ ?_ (by assumption) ?_); (rotate_left; (focus (first | exact Nat.le_refl _ | (simp; done) | (simp; omega) | omega))))))⟩
  case round =>
    obtain ⟨k, hk, rfl, hfill⟩ := hrel
    have HF := Lib.hid hfill
    have hbel := hfill.2
    by_cases hlt : k < l.length
    · obtain ⟨b, off, rfl, hb, hc0, hc1, hc2, hc3, hc4⟩ := Wea.rd (hr.below hbel (Nat.le_refl _)) hlt
      obtain ⟨u0, hs0⟩ := hfill.cell hlt (show 0 < 5 by omega)
      obtain ⟨u1, hs1⟩ := hfill.cell hlt (show 1 < 5 by omega)
      obtain ⟨u2, hs2⟩ := hfill.cell hlt (show 2 < 5 by omega)
      obtain ⟨u3, hs3⟩ := hfill.cell hlt (show 3 < 5 by omega)
      obtain ⟨u4, hs4⟩ := hfill.cell hlt (show 4 < 5 by omega)
      have hgs := hfill.size
      simp only [Nat.add_zero] at hs0
      clear hbel hfill
      go_wp2_with fail
      refine (toWeather_c _ _).mono ?_
      rintro e w1 ⟨rfl, hb1⟩
      have ht0 := (hb1.cell (p := ⟨w.heap.size, k * 5, none⟩) hgs).trans hs0
      have ht1 := (hb1.cell (p := ⟨w.heap.size, k * 5 + 1, none⟩) hgs).trans hs1
      have ht2 := (hb1.cell (p := ⟨w.heap.size, k * 5 + 2, none⟩) hgs).trans hs2
      have ht3 := (hb1.cell (p := ⟨w.heap.size, k * 5 + 3, none⟩) hgs).trans hs3
      have ht4 := (hb1.cell (p := ⟨w.heap.size, k * 5 + 4, none⟩) hgs).trans hs4
      have hf0 := (hb1.frozen (p := ⟨w.heap.size, k * 5, none⟩) hgs).trans (HF.out.frozen _)
      have hf1 := (hb1.frozen (p := ⟨w.heap.size, k * 5 + 1, none⟩) hgs).trans (HF.out.frozen _)
      have hf2 := (hb1.frozen (p := ⟨w.heap.size, k * 5 + 2, none⟩) hgs).trans (HF.out.frozen _)
      have hf3 := (hb1.frozen (p := ⟨w.heap.size, k * 5 + 3, none⟩) hgs).trans (HF.out.frozen _)
      have hf4 := (hb1.frozen (p := ⟨w.heap.size, k * 5 + 4, none⟩) hgs).trans (HF.out.frozen _)
      have HF1 := Lib.hid hb1
      clear hb1 hs0 hs1 hs2 hs3 hs4
      go_wp2_with fail
      go_roundw
      case rel => exact ⟨k + 1, by omega, by go_num, by simpa [puts, Wea.cells] using HF.out.step HF1.out hlt⟩
      case measure => simp [intOf]; omega
    · clear hbel hfill
      obtain rfl : k = l.length := by omega
      go_wp2_with fail
      go_ret
      exact ⟨rfl, HF.out.row, HF.out.2⟩
theorem eqWeatherS_same (l : List Wea) (A B : Option Addr) (cap cap' : Nat) (w : World) (hl : l.length ≤ 1048576) (hr : Rd w w.heap.size 5 Wea.cells A l) (hr' : Rd w w.heap.size 5 Wea.cells B l) :
    Calls Try.prog 17 #[.slice A l.length cap, .slice B l.length cap'] w fun e w' => e = .returned (.bool true) ∧ Below w.heap.size w w' := by
  have hb : ((l.length : Int) != l.length) = false := by simp
  go_enter Try.func17, Try.ntmps17
  go_wp2_with fail
  go_loopw [5] (fun i wr => ∃ k : Nat, k ≤ l.length ∧ i = .int .i64 k ∧ Below w.heap.size w wr) (fun i _ => l.length - (intOf i).toNat)
  case atStart => exact ⟨0, Nat.zero_le _, rfl, Below.refl _ _⟩
  case round =>
    obtain ⟨k, hk, rfl, hbel⟩ := hrel
    have HB := Lib.hid hbel
    by_cases hlt : k < l.length
    · obtain ⟨b, off, rfl, hb1, hc0, hc1, hc2, hc3, hc4⟩ := Wea.rd (hr.below hbel (Nat.le_refl _)) hlt
      obtain ⟨b', off', rfl, hb2, hd0, hd1, hd2, hd3, hd4⟩ := Wea.rd (hr'.below hbel (Nat.le_refl _)) hlt
      have z1 := hbel.size
      have l1 : b < wr.heap.size := by omega
      have l2 : b' < wr.heap.size := by omega
      have i1 : (0 : Int) ≤ (k : Int) := by omega
      have i2 : (k : Int) < l.length := by omega
      clear hbel
      go_wp2_with fail
      refine wp_region_mem (by kernel_rfl) (by kernel_rfl) ?_
      repeat (go_big_quiet_step ((go_at_call 20; exact mem_of (eqWeather_same _ _))))
      refine wpQuiet_nil ?_
      intro _ hw'
      obtain ⟨⟨wq, hbq⟩, hw''⟩ := hw'
      obtain rfl := hw''.symm
      obtain ⟨hcq, hfq, hzq⟩ := bcell hbq
      try simp [Nat.add_one_le_iff] at hzq
      go_wp2_with fail
      go_roundw
      case rel => exact ⟨k + 1, by omega, by go_num, HB.out.trans (hbq.mono z1)⟩
      case measure => simp [intOf]; omega
    · clear hbel
      obtain rfl : k = l.length := by omega
      go_wp2_with fail
      go_ret
      exact ⟨rfl, HB.out⟩
theorem szWeatherS_yes (l : List Wea) (A : Option Addr) (cap : Nat) (left : Int) (w : World) (h0 : 0 ≤ left) (h1 : left ≤ 1048576) (hl : l.length ≤ maxLen) (h : (l.length : Int) ≤ left) :
    Calls Try.prog 13 #[.slice A l.length cap, .int .i64 left] w fun e w' => e = .returned (.int .i64 (left - l.length)) ∧ w = w' := by
  unfold maxLen at hl
  go_enter Try.func13, Try.ntmps13
  go_wp2_with fail
  go_ret
  exact ⟨rfl, rfl⟩
theorem szWeatherS_no (l : List Wea) (A : Option Addr) (cap : Nat) (left : Int) (w : World) (h0 : 0 ≤ left) (h1 : left ≤ 1048576) (hl : l.length ≤ maxLen) (h : left < (l.length : Int)) :
    Calls Try.prog 13 #[.slice A l.length cap, .int .i64 left] w fun e w' => e = .returned (.int .i64 (-1)) ∧ w = w' := by
  unfold maxLen at hl
  go_enter Try.func13, Try.ntmps13
  go_wp2_with fail
  go_ret
  exact ⟨rfl, rfl⟩
def okW (x : Wea) : Bool := inR x.m 0 9999 && inR x.wi 0 600 && inR x.f 0 359 && inR x.d (-400) 500
theorem l17Minute_c (n : Int) (w : World) : Calls Try.prog 39 #[.int .i64 n] w fun e w' => e = .returned (.bool (inR n 0 9999)) ∧ w = w' := by
  go_enter Try.func39, Try.ntmps39
  go_wp2_with (go_at_call 40; refine (l1In_c _ _ _ _).mono ?_; rintro e w' ⟨rfl, rfl⟩)
  go_ret
  exact ⟨rfl, rfl⟩
theorem l17Wind_c (n : Int) (w : World) : Calls Try.prog 42 #[.int .i64 n] w fun e w' => e = .returned (.bool (inR n 0 600)) ∧ w = w' := by
  go_enter Try.func42, Try.ntmps42
  go_wp2_with (go_at_call 40; refine (l1In_c _ _ _ _).mono ?_; rintro e w' ⟨rfl, rfl⟩)
  go_ret
  exact ⟨rfl, rfl⟩
theorem l17Way_c (n : Int) (w : World) : Calls Try.prog 43 #[.int .i64 n] w fun e w' => e = .returned (.bool (inR n 0 359)) ∧ w = w' := by
  go_enter Try.func43, Try.ntmps43
  go_wp2_with (go_at_call 40; refine (l1In_c _ _ _ _).mono ?_; rintro e w' ⟨rfl, rfl⟩)
  go_ret
  exact ⟨rfl, rfl⟩
theorem IsWeather_c (x : Wea) (w : World) : Calls Try.prog 12 #[.agg #[.int .i64 x.m, .int .i64 x.wi, .int .i64 x.f, .int .i64 x.d, .bool x.s]] w fun e w' => e = .returned (.bool (okW x)) ∧ Below w.heap.size w w' := by
  go_enter Try.func12, Try.ntmps12
  go_wp2_with (go_at_call 37; refine (within_c _ _ _ _).mono ?_; rintro e w' ⟨rfl, rfl⟩)
  all_goals (go_ret; exact ⟨retb (by simp [okW, *]), (by repeat (first | (with_reducible exact Below.refl _ _) | ((with_reducible refine alloc_ ?_ ?_); (focus (first | exact Nat.le_refl _ | (simp; done) | (simp; omega) | omega))) | ((with_reducible refine set_ ?_ ?_); (focus (first | exact Nat.le_refl _ | (simp; done) | (simp; omega) | omega))) | (with_reducible refine Below.drew ?_) | ((with_reducible refine after_ ?_ (by assumption) ?_); (rotate_left; (focus (first | exact Nat.le_refl _ | (simp; done) | (simp; omega) | omega))))))⟩)
theorem l17One_c (x : Wea) (w : World) : Calls Try.prog 36 #[.agg #[.int .i64 x.m, .int .i64 x.wi, .int .i64 x.f, .int .i64 x.d, .bool x.s]] w fun e w' => e = .returned (.bool (okW x)) ∧ Below w.heap.size w w' := by
  go_enter Try.func36, Try.ntmps36
  go_wp2_with (first | (go_at_call 40; refine (l1In_c _ _ _ _).mono ?_; rintro e w' ⟨rfl, rfl⟩) | (go_at_call 39; refine (l17Minute_c _ _).mono ?_; rintro e w' ⟨rfl, rfl⟩) | (go_at_call 42; refine (l17Wind_c _ _).mono ?_; rintro e w' ⟨rfl, rfl⟩) | (go_at_call 43; refine (l17Way_c _ _).mono ?_; rintro e w' ⟨rfl, rfl⟩))
  all_goals (go_ret; exact ⟨retb (by simp [okW, *]), (by repeat (first | (with_reducible exact Below.refl _ _) | ((with_reducible refine alloc_ ?_ ?_); (focus (first | exact Nat.le_refl _ | (simp; done) | (simp; omega) | omega))) | ((with_reducible refine set_ ?_ ?_); (focus (first | exact Nat.le_refl _ | (simp; done) | (simp; omega) | omega))) | (with_reducible refine Below.drew ?_) | ((with_reducible refine after_ ?_ (by assumption) ?_); (rotate_left; (focus (first | exact Nat.le_refl _ | (simp; done) | (simp; omega) | omega))))))⟩)
theorem specIsWeather_c (x : Wea) (w : World) : Calls Try.prog 10 #[.agg #[.int .i64 x.m, .int .i64 x.wi, .int .i64 x.f, .int .i64 x.d, .bool x.s]] w fun e w' => e = .returned (.bool (okW x)) ∧ Below w.heap.size w w' := by
  go_enter Try.func10, Try.ntmps10
  go_wp2_with (go_at_call 36; refine (l17One_c _ _).mono ?_; rintro e w1 ⟨rfl, hb1⟩; obtain ⟨hc1, hf1, hz1⟩ := bcell hb1; try simp [Nat.add_one_le_iff] at hz1)
  go_ret
  exact ⟨rfl, (by repeat (first | (with_reducible exact Below.refl _ _) | ((with_reducible refine alloc_ ?_ ?_); (focus (first | exact Nat.le_refl _ | (simp; done) | (simp; omega) | omega))) | ((with_reducible refine set_ ?_ ?_); (focus (first | exact Nat.le_refl _ | (simp; done) | (simp; omega) | omega))) | (with_reducible refine Below.drew ?_) | ((with_reducible refine after_ ?_ (by assumption) ?_); (rotate_left; (focus (first | exact Nat.le_refl _ | (simp; done) | (simp; omega) | omega))))))⟩
end Go.Proofs.Ytccdbdkpjcehjaa
