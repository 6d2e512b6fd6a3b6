/- Parts of the statement on texts: a byte of a code, a byte that is changed; no conditions but the code's length. -/
import Derived.Test.YtdgjanfielcpdaaDoorStrDraw
import Derived.Test.YtdgjanfielcpdaaDoorArr
import Derived.Deep.DeepCutAuto
import Derived.ChangeOld
namespace Go.Proofs.YtdgjanfielcpdaaDoor
open Go.RowKit

def vAtV (l : List Int) (i : Nat) : Int := if i < l.length then nth l i else (((i * 7 + l.length) % 256 : Nat) : Int)
theorem vAt_bd {l : List Int} (h : ∀ i, i < l.length → 0 ≤ nth l i ∧ nth l i ≤ 255) (i : Nat) : 0 ≤ vAtV l i ∧ vAtV l i ≤ 255 := by
  unfold vAtV
  split
  · next c => exact h i c
  · omega
theorem vAt_c (i : Nat) (l : List Int) (A : Option Addr) (n cap : Nat) (w : World) (hi : i ≤ 1000) (hin : InBytes w A n l) (hn : n ≤ 65536) : Calls Tryd.prog 15 #[.slice A n cap, .int .i64 i] w fun e w' => e = .returned (.int .i64 (vAtV l i)) ∧ w = w' := by
  obtain ⟨rfl, _, hr, hb⟩ := hin
  by_cases hlt : i < l.length
  · have hlt' : (i : Int) < l.length := by omega
    have H := Lib.hid (show vAtV l i = nth l i by rw [vAtV, if_pos hlt])
    obtain ⟨b, off, rfl, hbl, hc⟩ := hr i hlt
    have hc := hc 0 _ rfl
    obtain ⟨v1, v2⟩ := hb i hlt
    obtain ⟨v, hv⟩ : ∃ v, nth l i = v := ⟨_, rfl⟩
    rw [hv] at hc v1 v2 H
    simp only [Nat.mul_one, Nat.add_zero] at hc
    have a1 : IntKind.i64.wrap v = v := IntWalk.i64_in _ (by omega)
    clear hv hb hr
    go_enter Tryd.func15, Tryd.ntmps15
    go_wp2_with fail
    go_ret
    exact ⟨by rw [H.out]; rfl, rfl⟩
  · have hlt' : ¬ (i : Int) < l.length := by omega
    have H := Lib.hid (show vAtV l i = (((i * 7 + l.length) % 256 : Nat) : Int) by rw [vAtV, if_neg hlt])
    have a1 : IntKind.i64.wrap ((i : Int) * 7) = (i : Int) * 7 := IntWalk.i64_in _ (by omega)
    have a2 : IntKind.i64.wrap ((i : Int) * 7 + l.length) = (i : Int) * 7 + l.length := IntWalk.i64_in _ (by omega)
    have a3 : ((i : Int) * 7 + l.length).tmod 256 = (((i * 7 + l.length) % 256 : Nat) : Int) := by rw [Int.tmod_eq_emod_of_nonneg (by omega)]; omega
    clear hb hr
    go_enter Tryd.func15, Tryd.ntmps15
    go_wp2_with fail
    go_ret
    exact ⟨by rw [H.out]; congr 1, rfl⟩
theorem xor_ne {a x : Nat} (ha : a < 256) (hx : 1 ≤ x) (hx2 : x < 256) : (BitVec.ofInt 8 (a : Int) ^^^ BitVec.ofInt 8 (x : Int)).toNat = a ^^^ x ∧ a ^^^ x < 256 ∧ a ^^^ x ≠ a := by
  refine ⟨?_, Nat.xor_lt_two_pow (n := 8) ha hx2, fun h => ?_⟩
  · rw [BitVec.toNat_xor]
    simp
    rw [Nat.mod_eq_of_lt ha, Nat.mod_eq_of_lt hx2]
  · have h2 : a ^^^ (a ^^^ x) = a ^^^ a := by rw [h]
    rw [← Nat.xor_assoc, Nat.xor_self, Nat.zero_xor] at h2
    omega
end Go.Proofs.YtdgjanfielcpdaaDoor
