/- SideWind of the program and of the reference return one Lean function; no conditions but that the four sines lie where the program's text lays them. -/
import Derived.Test.YtdhcmmdeickmnaaDoorWeather
namespace Go.Proofs.YtdhcmmdeickmnaaDoor
open Go.RowKit

def sinesL : List Int := [0, 500, 866, 1000]
def far (f p : Int) : Int := max (f - p) (p - f)
def angS (f p : Int) : Int := min (min (far f p) (360 - far f p)) (180 - min (far f p) (360 - far f p))
def sideW (x : Wea) (p : Int) : Int × Bool := if okW x && inR p 0 359 then (x.wi * nth sinesL (angS x.f p / 30).toNat / 1000, true) else (0, false)
theorem retp {p : Int × Bool} {a : Int} {b : Bool} (h : p = (a, b)) : Ending.returned (.tuple #[.int .i64 a, .bool b]) = .returned (.tuple #[.int .i64 p.1, .bool p.2]) := by rw [h]
theorem far_in {f p : Int} (hf : 0 ≤ f ∧ f ≤ 359) (hp : 0 ≤ p ∧ p ≤ 359) : 0 ≤ far f p ∧ far f p ≤ 359 := by unfold far; omega
theorem ang_in {f p : Int} (hf : 0 ≤ f ∧ f ≤ 359) (hp : 0 ≤ p ∧ p ≤ 359) : 0 ≤ angS f p ∧ angS f p ≤ 90 := by
  have := far_in hf hp
  unfold angS; omega
theorem okW_bd {x : Wea} (h : okW x = true) : (0 ≤ x.wi ∧ x.wi ≤ 600) ∧ (0 ≤ x.f ∧ x.f ≤ 359) := by
  simp only [okW, Bool.and_eq_true, inR_true] at h
  exact ⟨h.1.1.2, h.1.2⟩
theorem distance_c (a b : Int) (w : World) (ha : 0 ≤ a ∧ a ≤ 359) (hb : 0 ≤ b ∧ b ≤ 359) : Calls Tryd.prog 13 #[.int .i64 a, .int .i64 b] w fun e w' => e = .returned (.int .i64 (far a b)) ∧ w = w' := by
  go_enter Tryd.func13, Tryd.ntmps13
  go_wp2_with fail
  go_ret
  exact ⟨rfl, rfl⟩
theorem l1Most_c (x y : Int) (w : World) : Calls Tryd.prog 9 #[.int .i64 x, .int .i64 y] w fun e w' => e = .returned (.int .i64 (max x y)) ∧ w = w' := by
  go_enter Tryd.func9, Tryd.ntmps9
  go_wp2
  all_goals (go_ret; exact ⟨reti (by omega), rfl⟩)
theorem l1Least_c (x y : Int) (w : World) : Calls Tryd.prog 10 #[.int .i64 x, .int .i64 y] w fun e w' => e = .returned (.int .i64 (min x y)) ∧ w = w' := by
  go_enter Tryd.func10, Tryd.ntmps10
  go_wp2
  all_goals (go_ret; exact ⟨reti (by omega), rfl⟩)
end Go.Proofs.YtdhcmmdeickmnaaDoor
