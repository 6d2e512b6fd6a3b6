/- BrokenWires and StrengthLeft: what they return; no conditions but those of valid damages, or a kind that is not far off. -/
import Derived.Test.YtlgpgcfncmomiaaDamMost
namespace Go.Proofs.Ytlgpgcfncmomiaa
open Go.RowKit

theorem BrokenWires_c (k : Kin) (l : List Dam) (f n : Int) (A : Option Addr) (cap : Nat) (w : World) (hg : goodD k l = true) (hf : 0 ≤ f ∧ f ≤ 3000) (hn : 1 ≤ n ∧ n ≤ 3000) (hr : Rd w w.heap.size 3 Dam.cells A l) :
    Calls Try.prog 9 #[.agg #[.int .i64 k.i, .int .i64 k.st, .int .i64 k.wi, .int .i64 k.we, .int .i64 k.sg], .slice A l.length cap, .int .i64 f, .int .i64 n] w fun e w' => e = .returned (.tuple #[.int .i64 (brok l f n (-1)), .bool true]) ∧ Below w.heap.size w w' := by
  have hl := (goodD_true hg).2.1
  have a1 : inR f 0 3000 = true := inR_true.2 hf
  have a2 : inR n 1 3000 = true := inR_true.2 hn
  have HG := Lib.hid hg
  have HF := Lib.hid hf
  have HN := Lib.hid hn
  have HR := Lib.hid hr
  clear hg hf hn hr
  go_enter Try.func9, Try.ntmps9
  go_wp2_with (first
    | (go_at_call 10; refine (AreDamages_c k l _ _ _ (by omega) (HR.out.alloc _)).mono ?_; rintro e w1 ⟨rfl, hb1⟩; rw [HG.out]; have HB1 := Lib.hid (show Below w.heap.size w w1 from (by repeat (first | (with_reducible exact Below.refl _ _) | ((with_reducible refine alloc_ ?_ ?_); (focus (first | exact Nat.le_refl _ | (simp; done) | (simp; omega) | omega))) | ((with_reducible refine set_ ?_ ?_); (focus (first | exact Nat.le_refl _ | (simp; done) | (simp; omega) | omega))) | (with_reducible refine Below.drew ?_) | ((with_reducible refine after_ ?_ (by assumption) ?_); (rotate_left; (focus (first | exact Nat.le_refl _ | (simp; done) | (simp; omega) | omega))))))); clear hb1)
    | (go_at_call 28; refine (within_c _ _ _ _).mono ?_; rintro e w9 ⟨rfl, rfl⟩; first | rw [a1] | rw [a2])
    | (go_at_call 29; refine (brokenWires_c l f n (-1) _ _ _ (good_few HG.out) HF.out HN.out (HR.out.carry HB1.out)).mono ?_; rintro e w2 ⟨rfl, hb2⟩))
  go_ret2
  exact ⟨rfl, HB1.out.trans (hb2.mono HB1.out.size)⟩
end Go.Proofs.Ytlgpgcfncmomiaa
