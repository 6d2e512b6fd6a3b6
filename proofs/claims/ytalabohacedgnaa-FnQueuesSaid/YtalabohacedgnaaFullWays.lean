/- How full the cabins of a queue are, group by group: plain lists, no program in sight; no conditions beyond those of each statement. -/
import Derived.Test.YtalabohacedgnaaQueueWays
namespace Go.Proofs.Ytalabohacedgnaa
open Go.RowKit

/-- How many people the first i groups put into each cabin. -/
def fullL (l : List Gro) (out : List Int) (c i : Nat) : List Int := (List.range c).map fun k : Nat => fullTo l out (k : Int) i
section
variable {l : List Gro} {out : List Int} {c i k : Nat}
theorem fullL_len : (fullL l out c i).length = c := by simp [fullL]
theorem fullL_nth (hk : k < c) : nth (fullL l out c i) k = fullTo l out k i := by simp [nth, fullL, hk]
theorem fullTo_succ {k : Int} (hi : i < l.length) : fullTo l out k (i + 1) = fullTo l out k i + (if nth out i = k then (nth l i).s else 0) := by
  unfold fullTo
  rw [sumIf, zOf_at hi]
  simp
theorem fullL_zero : fullL l out c 0 = List.replicate c 0 := by
  refine list_nth (by simp [fullL_len]) fun k hk => ?_
  rw [fullL_len] at hk
  rw [fullL_nth hk, nth_eq (by simpa using hk), List.getElem_replicate]; rfl
theorem full_step {q : Nat} (hi : i < l.length) (hq : nth out i = q) (hc : q < c) : fullL l out c (i + 1) = (fullL l out c i).set q (nth (fullL l out c i) q + (nth l i).s) := by
  refine list_nth (by simp [fullL_len]) fun k hk => ?_
  rw [fullL_len] at hk
  rw [nth_set' (by rw [fullL_len]; exact hk), fullL_nth hk, fullL_nth hk, fullL_nth hc, fullTo_succ hi, hq]
  by_cases e : q = k
  · subst e; simp
  · rw [if_neg e, if_neg (by omega)]; omega
theorem full_bd (hg : ∀ i, i < l.length → 1 ≤ (nth l i).s ∧ (nth l i).s ≤ 8) (k : Int) (hi : i ≤ l.length) : 0 ≤ fullTo l out k i ∧ fullTo l out k i ≤ 8 * i := by
  have hz := zOf_ge hg
  have h1 := sumIf_nonneg hz (fun j => decide (nth out j = k)) i
  have h2 := sumIf_mono hz (p := fun j => decide (nth out j = k)) (q := fun _ => true) (n := i) fun _ _ _ => rfl
  rw [people_sum i hi] at h2
  have := peopleTo_bd hg i hi
  unfold fullTo; omega
def sumN (f : Nat → Int) : Nat → Int
  | 0 => 0
  | n + 1 => sumN f n + f n
theorem sumN_congr {f g : Nat → Int} : ∀ n, (∀ k, k < n → f k = g k) → sumN f n = sumN g n
  | 0, _ => rfl
  | n + 1, h => by rw [sumN, sumN, sumN_congr n fun k hk => h k (by omega), h n (by omega)]
theorem sumN_add {f g : Nat → Int} : ∀ n, sumN (fun k => f k + g k) n = sumN f n + sumN g n
  | 0 => rfl
  | n + 1 => by rw [sumN, sumN, sumN, sumN_add n]; omega
theorem sumN_zero : ∀ n, sumN (fun _ => 0) n = 0
  | 0 => rfl
  | n + 1 => by rw [sumN, sumN_zero n]; rfl
theorem sumN_one {q : Nat} {z : Int} : ∀ n, q < n → sumN (fun k => if (q : Int) = (k : Int) then z else 0) n = z
  | 0, h => absurd h (by omega)
  | n + 1, h => by
    rw [sumN]
    by_cases e : q = n
    · subst e
      rw [sumN_congr (g := fun _ => 0) q fun k hk => by rw [if_neg (by omega)], sumN_zero]; simp
    · rw [sumN_one n (by omega), if_neg (by omega)]; omega
/-- All cabins together hold all people. -/
theorem full_sum (hout : ∀ i, i < l.length → 0 ≤ nth out i ∧ nth out i < c) : ∀ i, i ≤ l.length → sumN (fun k : Nat => fullTo l out k i) c = peopleTo l i
  | 0, _ => by
    rw [sumN_congr (f := fun k : Nat => fullTo l out k 0) (g := fun _ => 0) c fun k _ => rfl, sumN_zero]; rfl
  | i + 1, hi => by
    have ih := full_sum hout i (by omega)
    obtain ⟨h0, h1⟩ := hout i (by omega)
    obtain ⟨q, hq⟩ : ∃ q : Nat, nth out i = q := ⟨(nth out i).toNat, by omega⟩
    rw [sumN_congr (f := fun k : Nat => fullTo l out k (i + 1)) (g := fun k : Nat => fullTo l out k i + (if (q : Int) = (k : Int) then (nth l i).s else 0)) c fun k _ => by rw [fullTo_succ (by omega), hq], sumN_add, ih, sumN_one c (by omega), peopleTo]
end
theorem vSum_c (o : List Int) (A : Option Addr) (cap : Nat) (w : World) (hl : o.length ≤ 1000) (hb : ∀ k, k < o.length → 0 ≤ nth o k ∧ nth o k ≤ 1000) (hr : Rd w w.heap.size 1 intCells A o) :
    Calls Try.prog 48 #[.slice A o.length cap] w fun e w' => e = .returned (.int .i64 (sumN (nth o) o.length)) ∧ w = w' := by
  have hsb : ∀ k, k ≤ o.length → 0 ≤ sumN (nth o) k ∧ sumN (nth o) k ≤ 1000 * k := fun k => by
    induction k with
    | zero => intro _; simp [sumN]
    | succ k ih => intro hk; have := ih (by omega); have := hb k (by omega); rw [sumN]; omega
  have HSB := Lib.hid hsb
  have HBB := Lib.hid hb
  clear hsb hb
  go_enter Try.func48, Try.ntmps48
  go_wp2_with fail
  go_loop [3, 4] (fun s i => ∃ k : Nat, k ≤ o.length ∧ i = .int .i64 k ∧ s = .int .i64 (sumN (nth o) k)) (fun _ i => o.length - (intOf i).toNat)
  case atStart => exact ⟨0, Nat.zero_le _, rfl, rfl⟩
  case round =>
    obtain ⟨k, hk, rfl, rfl⟩ := hrel
    obtain ⟨s1, s2⟩ := HSB.out k hk
    by_cases hlt : k < o.length
    · obtain ⟨b, off, rfl, hb, hc⟩ := hr.int hlt
      obtain ⟨v1, v2⟩ := HBB.out k hlt
      have H := Lib.hid (show sumN (nth o) (k + 1) = sumN (nth o) k + nth o k from rfl)
      obtain ⟨sk, hsk⟩ : ∃ x, sumN (nth o) k = x := ⟨_, rfl⟩
      obtain ⟨x, hx⟩ : ∃ x, nth o k = x := ⟨_, rfl⟩
      rw [hsk] at H s1 s2 ⊢
      rw [hx] at H v1 v2 hc
      clear hsk hx
      go_wp2_with fail
      go_round
      case rel => exact ⟨k + 1, by omega, by go_num, by rw [H.out]⟩
      case measure => simp [intOf]; omega
    · obtain rfl : k = o.length := by omega
      go_wp2_with fail
      go_ret
      exact ⟨rfl, rfl⟩
end Go.Proofs.Ytalabohacedgnaa
