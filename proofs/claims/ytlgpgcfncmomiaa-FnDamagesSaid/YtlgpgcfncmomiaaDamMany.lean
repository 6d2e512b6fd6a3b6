/- The closure of RopeVerdict: are more than a twentieth of all wires broken in the worst window; no conditions but those of valid damages. -/
import Derived.Test.YtlgpgcfncmomiaaDamStrength
namespace Go.Proofs.Ytlgpgcfncmomiaa
open Go.RowKit

set_option maxHeartbeats 1600000 in
theorem many_c (l : List Dam) (n a : Int) (bs ba : Nat) (A : Option Addr) (cap : Nat) (w : World) (hg : Few l) (hp : Placed l) (hn : 1 ≤ n ∧ n ≤ 3000) (hr : Rd w w.heap.size 3 Dam.cells A l)
    (hs : w.cell? ⟨bs, 0, none⟩ = some (.slice A l.length cap)) (ha : w.cell? ⟨ba, 0, none⟩ = some (.int .i64 a)) (hbs : bs < w.heap.size) (hba : ba < w.heap.size) :
    Calls Try.prog 31 #[.int .i64 n, .pointer (some ⟨bs, 0, none⟩), .pointer (some ⟨ba, 0, none⟩)] w fun e w' => e = .returned (.bool (decide (a < 20 * most l n (-1)))) ∧ Below w.heap.size w w' := by
  obtain ⟨m1, m2⟩ := most_bd (n := n) (s := -1) hg.2 hg.1 l.length (Nat.le_refl _)
  change 0 ≤ most l n (-1) at m1
  change most l n (-1) ≤ 600 at m2
  have HG := Lib.hid hg
  have HP := Lib.hid hp
  have HR := Lib.hid hr
  obtain ⟨m, hm⟩ : ∃ m, most l n (-1) = m := ⟨_, rfl⟩
  rw [hm] at m1 m2 ⊢
  have e1 : IntKind.i64.wrap (20 * m) = 20 * m := IntWalk.i64_in _ (by omega)
  clear hg hp hr
  go_enter Try.func31, Try.ntmps31
  go_wp2_with fail
  refine (worstWindow_c l n (-1) _ _ _ HG.out HP.out hn HR.out).mono ?_
  rintro e w2 ⟨x, rfl, hb2⟩
  rw [hm]
  have HB := Lib.hid hb2
  have t1 := (hb2.cell (p := ⟨ba, 0, none⟩) hba).trans ha
  have l1 := Nat.lt_of_lt_of_le hba hb2.size
  clear hb2
  go_wp2_with fail
  go_ret
  exact ⟨rfl, HB.out⟩
end Go.Proofs.Ytlgpgcfncmomiaa
