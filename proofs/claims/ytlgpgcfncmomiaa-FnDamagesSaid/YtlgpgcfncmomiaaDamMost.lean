/- The worst window: the program's and the reference's most broken wires; no conditions but those of valid damages. -/
import Derived.Test.YtlgpgcfncmomiaaDamSum
namespace Go.Proofs.Ytlgpgcfncmomiaa
open Go.RowKit

def Placed (l : List Dam) : Prop := ∀ i, i < l.length → 0 ≤ (nth l i).a ∧ (nth l i).a ≤ 3000
theorem good_placed {k : Kin} {l : List Dam} (h : goodD k l = true) : Placed l := fun i hi => (okDm_true.1 ((goodD_true h).2.2.1 i hi)).1
def MostPost (v : Int) (w : World) (e : Ending) (w' : World) : Prop := ∃ a : Int, e = .returned (.tuple #[.int .i64 a, .int .i64 v]) ∧ Below w.heap.size w w'
theorem box_two {wa w9 : World} {x : Dam} {g : Nat} (h : Box wa g 28 3 (Dam.cells x)) (hb : Below wa.heap.size wa w9) : w9.cell? ⟨g, 0, none⟩ = some (.int .i64 x.a) ∧ g < w9.heap.size :=
  ⟨(h.carry hb).cell (j := 0) rfl, (h.carry hb).lt⟩
set_option maxHeartbeats 1600000 in
theorem worstWindow_c (l : List Dam) (n s : Int) (A : Option Addr) (cap : Nat) (w : World) (hg : Few l) (hp : Placed l) (hn : 1 ≤ n ∧ n ≤ 3000) (hr : Rd w w.heap.size 3 Dam.cells A l) :
    Calls Try.prog 32 #[.slice A l.length cap, .int .i64 n, .int .i64 s] w (MostPost (most l n s) w) := by
  have hl := hg.1
  have HG := Lib.hid hg
  have HP := Lib.hid hp
  have HN := Lib.hid hn
  have HR := Lib.hid hr
  clear hg hp hn
  go_enter Try.func32, Try.ntmps32
  go_wp2_with fail
  go_loopw [8, 9, 11, 12, 15] (fun t u _ _ i wr => ∃ (k : Nat) (x m : Int), k ≤ l.length ∧ i = .int .i64 k ∧ t = .int .i64 x ∧ u = .int .i64 m ∧ (max m 0 = mostTo l n s k ∧ -1 ≤ m) ∧ Below w.heap.size w wr) (fun t u _ _ i _ => l.length - (intOf i).toNat)
  case atStart => exact ⟨0, 0, -1, Nat.zero_le _, rfl, rfl, rfl, by (try simp [mostTo]) <;> omega, Below.refl _ _⟩
  case round =>
    obtain ⟨k, x, m, hk, rfl, rfl, rfl, hm, hbel⟩ := hrel
    have HB := Lib.hid hbel
    by_cases hlt : k < l.length
    · obtain ⟨b, off, rfl, hb1, c0, c1, c2⟩ := Dam.rd (hr.below hbel (Nat.le_refl _)) hlt
      have z1 := hbel.size
      have l1 : b < wr.heap.size := by omega
      have i1 : (0 : Int) ≤ (k : Int) := by omega
      have i2 : (k : Int) < l.length := by omega
      have HRr := Lib.hid (HR.out.carry (hbel))
      have HS := Lib.hid (show mostTo l n s (k + 1) = max (mostTo l n s k) (brok l (nth l k).a n s) from rfl)
      have HV := Lib.hid (brok_bd (f := (nth l k).a) (n := n) (s := s) HG.out.2 l.length (Nat.le_refl _))
      have HC := Lib.hid (fun (wz : World) (h : Below wr.heap.size wr wz) => show wz.cell? ⟨b, off + k * 3, none⟩ = some (.int .i64 (nth l k).a) from (h.cell (p := ⟨b, off + k * 3, none⟩) l1).trans c0)
      have HQ := Lib.hid (Box.new wr (Dam.cells (nth l k)) 28)
      obtain ⟨v, hv⟩ : ∃ v, brok l (nth l k).a n s = v := ⟨_, rfl⟩
      change 0 ≤ brok l (nth l k).a n s ∧ brok l (nth l k).a n s ≤ _ at HV
      clear hbel
      go_wp2_with fail
      refine (brokenWires_c l _ n s _ _ _ HG.out (HP.out k hlt) HN.out (by first | exact HRr.out | exact HRr.out.alloc _)).mono ?_
      rintro e w9 ⟨rfl, hb9⟩
      rw [hv]
      obtain ⟨y0, ly⟩ := box_two HQ.out hb9
      have HBQ := Lib.hid (show Below wr.heap.size wr w9 from (by repeat (first | (with_reducible exact Below.refl _ _) | ((with_reducible refine alloc_ ?_ ?_); (focus (first | exact Nat.le_refl _ | (simp; done) | (simp; omega) | omega))) | ((with_reducible refine set_ ?_ ?_); (focus (first | exact Nat.le_refl _ | (simp; done) | (simp; omega) | omega))) | (with_reducible refine Below.drew ?_) | ((with_reducible refine after_ ?_ (by assumption) ?_); (rotate_left; (focus (first | exact Nat.le_refl _ | (simp; done) | (simp; omega) | omega)))))))
      have t0 := HC.out w9 HBQ.out
      have l9 : b < w9.heap.size := Nat.lt_of_lt_of_le l1 HBQ.out.size
      have HB9 := Lib.hid (HB.out.trans (HBQ.out.mono z1))
      clear hb9
      by_cases hmv : m < v
      all_goals
        go_wp2_with fail
        go_roundw
        case rel => exact ⟨k + 1, _, _, by omega, by go_num, rfl, rfl, by have h1 := HS.out; have h2 := HV; rw [hv] at h1 h2; omega, HB9.out⟩
        case measure => simp [intOf]; omega
    · obtain rfl : k = l.length := by omega
      clear hbel
      have hmm : max m 0 = most l n s := by unfold most; omega
      go_wp2_with fail
      go_ret2
      exact ⟨x, by rw [← hmm]; first | rfl | (simp; omega), HB.out⟩
set_option maxHeartbeats 1600000 in
theorem l3Most_c (l : List Dam) (n s : Int) (A : Option Addr) (cap : Nat) (w : World) (hg : Few l) (hp : Placed l) (hn : 1 ≤ n ∧ n ≤ 3000) (hr : Rd w w.heap.size 3 Dam.cells A l) :
    Calls Try.prog 33 #[.slice A l.length cap, .int .i64 n, .int .i64 s] w (MostPost (most l n s) w) := by
  have hl := hg.1
  have HG := Lib.hid hg
  have HP := Lib.hid hp
  have HN := Lib.hid hn
  have HR := Lib.hid hr
  clear hg hp hn
  go_enter Try.func33, Try.ntmps33
  go_wp2_with fail
  go_loopw [8, 9, 10, 11] (fun t u i _ wr => ∃ (k : Nat) (x m : Int), k ≤ l.length ∧ i = .int .i64 k ∧ t = .int .i64 x ∧ u = .int .i64 m ∧ (m = mostTo l n s k ∧ 0 ≤ m) ∧ Below w.heap.size w wr) (fun t u i _ _ => l.length - (intOf i).toNat)
  case atStart => exact ⟨0, 0, 0, Nat.zero_le _, rfl, rfl, rfl, by (try simp [mostTo]) <;> omega, Below.refl _ _⟩
  case round =>
    obtain ⟨k, x, m, hk, rfl, rfl, rfl, hm, hbel⟩ := hrel
    have HB := Lib.hid hbel
    by_cases hlt : k < l.length
    · obtain ⟨b, off, rfl, hb1, c0, c1, c2⟩ := Dam.rd (hr.below hbel (Nat.le_refl _)) hlt
      have z1 := hbel.size
      have l1 : b < wr.heap.size := by omega
      have i1 : (0 : Int) ≤ (k : Int) := by omega
      have i2 : (k : Int) < l.length := by omega
      have HRr := Lib.hid (HR.out.carry (hbel))
      have HS := Lib.hid (show mostTo l n s (k + 1) = max (mostTo l n s k) (brok l (nth l k).a n s) from rfl)
      have HV := Lib.hid (brok_bd (f := (nth l k).a) (n := n) (s := s) HG.out.2 l.length (Nat.le_refl _))
      have HC := Lib.hid (fun (wz : World) (h : Below wr.heap.size wr wz) => show wz.cell? ⟨b, off + k * 3, none⟩ = some (.int .i64 (nth l k).a) from (h.cell (p := ⟨b, off + k * 3, none⟩) l1).trans c0)
      have HQ := Lib.hid (Box.new wr (Dam.cells (nth l k)) 28)
      obtain ⟨v, hv⟩ : ∃ v, brok l (nth l k).a n s = v := ⟨_, rfl⟩
      change 0 ≤ brok l (nth l k).a n s ∧ brok l (nth l k).a n s ≤ _ at HV
      clear hbel
      go_wp2_with fail
      refine (l3Broken_c l _ n s _ _ _ HG.out (HP.out k hlt) HN.out (by first | exact HRr.out | exact HRr.out.alloc _)).mono ?_
      rintro e w9 ⟨rfl, hb9⟩
      rw [hv]
      skip
      have HBQ := Lib.hid (show Below wr.heap.size wr w9 from (by repeat (first | (with_reducible exact Below.refl _ _) | ((with_reducible refine alloc_ ?_ ?_); (focus (first | exact Nat.le_refl _ | (simp; done) | (simp; omega) | omega))) | ((with_reducible refine set_ ?_ ?_); (focus (first | exact Nat.le_refl _ | (simp; done) | (simp; omega) | omega))) | (with_reducible refine Below.drew ?_) | ((with_reducible refine after_ ?_ (by assumption) ?_); (rotate_left; (focus (first | exact Nat.le_refl _ | (simp; done) | (simp; omega) | omega)))))))
      have t0 := HC.out w9 HBQ.out
      have l9 : b < w9.heap.size := Nat.lt_of_lt_of_le l1 HBQ.out.size
      have HB9 := Lib.hid (HB.out.trans (HBQ.out.mono z1))
      clear hb9
      by_cases hmv : m < v
      all_goals
        go_wp2_with fail
        go_roundw
        case rel => exact ⟨k + 1, _, _, by omega, by go_num, rfl, rfl, by have h1 := HS.out; have h2 := HV; rw [hv] at h1 h2; omega, HB9.out⟩
        case measure => simp [intOf]; omega
    · obtain rfl : k = l.length := by omega
      clear hbel
      have hmm : max m 0 = most l n s := by unfold most; omega
      go_wp2_with fail
      go_ret2
      exact ⟨x, by rw [← hmm]; first | rfl | (simp; omega), HB.out⟩
end Go.Proofs.Ytlgpgcfncmomiaa
