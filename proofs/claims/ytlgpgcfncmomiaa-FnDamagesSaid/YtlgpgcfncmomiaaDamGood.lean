/- The tests on kinds of ropes and on damages: the program's and the reference's return one Lean function; no conditions but the length. -/
import Derived.Test.YtlgpgcfncmomiaaDamWays
import Derived.StillTailTactics
namespace Go.Proofs.Ytlgpgcfncmomiaa
open Go.RowKit

theorem isRopeKind_c (k : Kin) (w : World) : Calls Try.prog 17 #[.agg #[.int .i64 k.i, .int .i64 k.st, .int .i64 k.wi, .int .i64 k.we, .int .i64 k.sg]] w fun e w' => e = .returned (.bool (okKd k)) ∧ Below w.heap.size w w' := by
  go_enter Try.func17, Try.ntmps17
  go_wp2_with (go_at_call 28; refine (within_c _ _ _ _).mono ?_; rintro e w' ⟨rfl, rfl⟩)
  all_goals (go_ret; exact ⟨retb (by simp [okKd, *]), (by repeat (first | (with_reducible exact Below.refl _ _) | ((with_reducible refine alloc_ ?_ ?_); (focus (first | exact Nat.le_refl _ | (simp; done) | (simp; omega) | omega))) | ((with_reducible refine set_ ?_ ?_); (focus (first | exact Nat.le_refl _ | (simp; done) | (simp; omega) | omega))) | (with_reducible refine Below.drew ?_) | ((with_reducible refine after_ ?_ (by assumption) ?_); (rotate_left; (focus (first | exact Nat.le_refl _ | (simp; done) | (simp; omega) | omega))))))⟩)
theorem l3Kind_c (k : Kin) (w : World) : Calls Try.prog 36 #[.agg #[.int .i64 k.i, .int .i64 k.st, .int .i64 k.wi, .int .i64 k.we, .int .i64 k.sg]] w fun e w' => e = .returned (.bool (okKd k)) ∧ Below w.heap.size w w' := by
  go_enter Try.func36, Try.ntmps36
  go_wp2_with (go_at_call 43; refine (l1In_c _ _ _ _).mono ?_; rintro e w' ⟨rfl, rfl⟩)
  all_goals (go_ret; exact ⟨retb (by simp [okKd, *]), (by repeat (first | (with_reducible exact Below.refl _ _) | ((with_reducible refine alloc_ ?_ ?_); (focus (first | exact Nat.le_refl _ | (simp; done) | (simp; omega) | omega))) | ((with_reducible refine set_ ?_ ?_); (focus (first | exact Nat.le_refl _ | (simp; done) | (simp; omega) | omega))) | (with_reducible refine Below.drew ?_) | ((with_reducible refine after_ ?_ (by assumption) ?_); (rotate_left; (focus (first | exact Nat.le_refl _ | (simp; done) | (simp; omega) | omega))))))⟩)
theorem specIsRopeKind_c (k : Kin) (w : World) : Calls Try.prog 18 #[.agg #[.int .i64 k.i, .int .i64 k.st, .int .i64 k.wi, .int .i64 k.we, .int .i64 k.sg]] w fun e w' => e = .returned (.bool (okKd k)) ∧ Below w.heap.size w w' := by
  go_enter Try.func18, Try.ntmps18
  go_wp2_with (go_at_call 36; refine (l3Kind_c _ _).mono ?_; rintro e w1 ⟨rfl, hb1⟩)
  go_ret
  exact ⟨rfl, (by repeat (first | (with_reducible exact Below.refl _ _) | ((with_reducible refine alloc_ ?_ ?_); (focus (first | exact Nat.le_refl _ | (simp; done) | (simp; omega) | omega))) | ((with_reducible refine set_ ?_ ?_); (focus (first | exact Nat.le_refl _ | (simp; done) | (simp; omega) | omega))) | (with_reducible refine Below.drew ?_) | ((with_reducible refine after_ ?_ (by assumption) ?_); (rotate_left; (focus (first | exact Nat.le_refl _ | (simp; done) | (simp; omega) | omega))))))⟩
theorem isDamage_c (k : Kin) (x : Dam) (w : World) (hk : okKd k = true) : Calls Try.prog 22 #[.agg #[.int .i64 k.i, .int .i64 k.st, .int .i64 k.wi, .int .i64 k.we, .int .i64 k.sg], .agg #[.int .i64 x.a, .int .i64 x.s, .int .i64 x.w]] w fun e w' => e = .returned (.bool (okDm k x)) ∧ Below w.heap.size w w' := by
  obtain ⟨_, ⟨q1, q2⟩, _⟩ := okKd_true.1 hk
  clear hk
  go_enter Try.func22, Try.ntmps22
  go_wp2_with (go_at_call 28; refine (within_c _ _ _ _).mono ?_; rintro e w' ⟨rfl, rfl⟩)
  all_goals (go_ret; exact ⟨retb (by simp [okDm, *]), (by repeat (first | (with_reducible exact Below.refl _ _) | ((with_reducible refine alloc_ ?_ ?_); (focus (first | exact Nat.le_refl _ | (simp; done) | (simp; omega) | omega))) | ((with_reducible refine set_ ?_ ?_); (focus (first | exact Nat.le_refl _ | (simp; done) | (simp; omega) | omega))) | (with_reducible refine Below.drew ?_) | ((with_reducible refine after_ ?_ (by assumption) ?_); (rotate_left; (focus (first | exact Nat.le_refl _ | (simp; done) | (simp; omega) | omega))))))⟩)

def cmpI (x y : Int) : Int := if x < y then -1 else if y < x then 1 else 0
theorem isNaN_c (x : Int) (w : World) : Calls Try.prog 46 #[.int .i64 x] w fun e w' => e = .returned (.bool false) ∧ w = w' := by
  have h : (x != x) = false := by simp
  go_enter Try.func46, Try.ntmps46
  go_wp2_with fail
  go_ret
  exact ⟨rfl, rfl⟩
theorem compare_c (x y : Int) (w : World) : Calls Try.prog 39 #[.int .i64 x, .int .i64 y] w fun e w' => e = .returned (.int .i64 (cmpI x y)) ∧ w = w' := by
  by_cases h1 : x < y
  · have H := Lib.hid (show cmpI x y = -1 by unfold cmpI; rw [if_pos h1])
    go_enter Try.func39, Try.ntmps39
    go_wp2_with (go_at_call 46; refine (isNaN_c _ _).mono ?_; rintro e w' ⟨rfl, rfl⟩)
    go_ret
    exact ⟨reti H.out.symm, rfl⟩
  · by_cases h2 : y < x
    · have H := Lib.hid (show cmpI x y = 1 by unfold cmpI; rw [if_neg h1, if_pos h2])
      go_enter Try.func39, Try.ntmps39
      go_wp2_with (go_at_call 46; refine (isNaN_c _ _).mono ?_; rintro e w' ⟨rfl, rfl⟩)
      go_ret
      exact ⟨reti H.out.symm, rfl⟩
    · have H := Lib.hid (show cmpI x y = 0 by unfold cmpI; rw [if_neg h1, if_neg h2])
      go_enter Try.func39, Try.ntmps39
      go_wp2_with (go_at_call 46; refine (isNaN_c _ _).mono ?_; rintro e w' ⟨rfl, rfl⟩)
      go_ret
      exact ⟨reti H.out.symm, rfl⟩
theorem cmpI_lt {x y : Int} : cmpI x y < 0 ↔ x < y := by unfold cmpI; split <;> (try split) <;> omega
theorem cmpI_zero {x y : Int} : cmpI x y = 0 ↔ x = y := by unfold cmpI; split <;> (try split) <;> omega
def orI (x y : Int) : Int := if x = 0 then y else x
theorem or_c (x y : Int) (g : Nat) (w : World) (h0 : w.cell? ⟨g, 0, none⟩ = some (.int .i64 x)) (h1 : w.cell? ⟨g, 1, none⟩ = some (.int .i64 y)) : Calls Try.prog 38 #[.slice (some ⟨g, 0, none⟩) 2 2] w fun e w' => e = .returned (.int .i64 (orI x y)) ∧ w = w' := by
  go_enter Try.func38, Try.ntmps38
  go_wp2_with fail
  go_loopw [5, 8] (fun _ i wr => ∃ k : Nat, k ≤ 2 ∧ i = .int .i64 k ∧ (0 < k → x = 0) ∧ (1 < k → y = 0) ∧ wr = w) (fun _ i _ => 2 - (intOf i).toNat)
  case atStart => exact ⟨0, by omega, rfl, by omega, by omega, rfl⟩
  case round =>
    obtain ⟨k, hk, rfl, p1, p2, rfl⟩ := hrel
    rcases (by omega : k = 0 ∨ k = 1 ∨ k = 2) with rfl | rfl | rfl
    · by_cases hx : x = 0
      · subst hx
        go_wp2_with fail
        go_roundw
        case rel => exact ⟨1, by omega, by go_num, by simp, by omega, by first | rfl | trivial⟩
        case measure => simp [intOf]
      · have hd : (x != 0) = true := by simp [hx]
        go_wp2_with fail
        go_ret
        exact ⟨reti (by simp [orI, hx]), by first | rfl | trivial⟩
    · by_cases hy : y = 0
      · subst hy
        go_wp2_with fail
        go_roundw
        case rel => exact ⟨2, by omega, by go_num, fun _ => p1 (by omega), by simp, by first | rfl | trivial⟩
        case measure => simp [intOf]
      · have hd : (y != 0) = true := by simp [hy]
        obtain rfl := p1 (by omega)
        go_wp2_with fail
        go_ret
        exact ⟨reti (by simp [orI]), by first | rfl | trivial⟩
    · obtain rfl := p1 (by omega)
      obtain rfl := p2 (by omega)
      go_wp2_with fail
      go_ret
      exact ⟨reti (by simp [orI]), by first | rfl | trivial⟩
def cmpD (x y : Dam) : Int := orI (cmpI x.a y.a) (cmpI x.s y.s)
theorem cmpD_lt {x y : Dam} : ltD x y = decide (cmpD x y < 0) := by
  have H : cmpD x y < 0 ↔ x.a < y.a ∨ x.a = y.a ∧ x.s < y.s := by
    by_cases e : x.a = y.a
    · rw [show cmpD x y = cmpI x.s y.s from if_pos (cmpI_zero.2 e), cmpI_lt]
      constructor
      · exact fun h => .inr ⟨e, h⟩
      · rintro (h | ⟨_, h⟩)
        · omega
        · exact h
    · rw [show cmpD x y = cmpI x.a y.a from if_neg (fun h => e (cmpI_zero.1 h)), cmpI_lt]
      constructor
      · exact .inl
      · rintro (h | ⟨h, _⟩)
        · exact h
        · exact absurd h e
  rw [Bool.eq_iff_iff, decide_eq_true_eq, H]
  simp only [ltD, Bool.or_eq_true, Bool.and_eq_true, decide_eq_true_eq]
theorem compare_s (x y : Int) (w : World) : Calls Try.prog 39 #[.int .i64 x, .int .i64 y] w fun e w' => e = .returned (.int .i64 (cmpI x y)) ∧ w' = w := (compare_c x y w).mono fun _ _ h => ⟨h.1, h.2.symm⟩
/-- A region that draws, reads, and makes memory at its end alone. -/
theorem wp_region_tail {P : Program} {id : Nat} {Q : Exit → Act → World → Prop} {a : Act} {w : World} {l : List Oper} (n : Nat) (hm : P.follows .mixedOrders = true) (hB : Region.lexTailB .any l.toArray n = true)
    (h : ∀ wd : World, Below w.heap.size w wd → (∀ b o, wd.cell? ⟨b, o, none⟩ = w.cell? ⟨b, o, none⟩) → wpStill P l.toArray wd (fun a' => wpList P l.toArray Q (l.drop n) a' wd) (l.take n) a) : (Code.region id l.toArray true).wp P Q a w :=
  wp_region_still_tail n hm hB (h _ (Below.refl _ _).drew fun _ _ => rfl)
set_option maxHeartbeats 1600000 in
theorem compareDamages_c (x y : Dam) (w : World) : Calls Try.prog 25 #[.agg #[.int .i64 x.a, .int .i64 x.s, .int .i64 x.w], .agg #[.int .i64 y.a, .int .i64 y.s, .int .i64 y.w]] w fun e w' => e = .returned (.int .i64 (cmpD x y)) ∧ Below w.heap.size w w' := by
  go_enter Try.func25, Try.ntmps25
  go_wp2_with fail
  refine wp_region_tail 10 (by kernel_rfl) (by kernel_rfl) fun wd hbd hcd => ?_
  have x0 : wd.cell? ⟨w.heap.size, 0, none⟩ = some (.int .i64 x.a) := (hcd _ _).trans (by simp [go_sem])
  have x1 : wd.cell? ⟨w.heap.size, 1, none⟩ = some (.int .i64 x.s) := (hcd _ _).trans (by simp [go_sem])
  have y0 : wd.cell? ⟨w.heap.size + 1, 0, none⟩ = some (.int .i64 y.a) := (hcd _ _).trans (by simp [go_sem])
  have y1 : wd.cell? ⟨w.heap.size + 1, 1, none⟩ = some (.int .i64 y.s) := (hcd _ _).trans (by simp [go_sem])
  have HB := Lib.hid (show Below w.heap.size w wd from (((Below.refl _ _).alloc (Nat.le_refl _) _).alloc (by simp) _).trans (hbd.mono (by simp; omega)))
  have z1 := HB.out.size
  clear hbd hcd
  simp only [List.take_succ_cons, List.take_zero, List.drop_succ_cons, List.drop_zero]
  repeat still_step
  still_call (compare_s _ _ _)
  repeat still_step
  still_call (compare_s _ _ _)
  refine wpStill_nil ?_
  go_wp2_with (go_at_call 38; refine (or_c (cmpI x.a y.a) (cmpI x.s y.s) _ _ ?_ ?_).mono ?_; (focus simp [go_sem]); (focus simp [go_sem]); rintro e w9 ⟨rfl, rfl⟩)
  go_ret
  exact ⟨rfl, HB.out.alloc z1 _⟩
end Go.Proofs.Ytlgpgcfncmomiaa
