/- The broken wires of a window: the program's and the reference's sum; no conditions but those of valid damages. -/
import Derived.Test.YtlgpgcfncmomiaaDamSpec
namespace Go.Proofs.Ytlgpgcfncmomiaa
open Go.RowKit

def Few (l : List Dam) : Prop := l.length ≤ 15 ∧ ∀ i, i < l.length → 0 ≤ (nth l i).w ∧ (nth l i).w ≤ 40
theorem good_few {k : Kin} {l : List Dam} (h : goodD k l = true) : Few l := by
  obtain ⟨h1, h2, h3, _⟩ := goodD_true h
  refine ⟨h2, fun i hi => ?_⟩
  have := (okDm_true.1 (h3 i hi)).2.2
  have := (okKd_true.1 h1).2.2.1
  omega
theorem hit_add {l : List Dam} {f n s : Int} {k : Nat} {b : Bool} (hk : k < l.length) (h : hitD f n s (nth l k) = b) : brokTo l f n s (k + 1) = brokTo l f n s k + (if b = true then (nth l k).w else 0) := by
  subst h; exact brokTo_succ hk
set_option maxHeartbeats 1600000 in
theorem brokenWires_c (l : List Dam) (f n s : Int) (A : Option Addr) (cap : Nat) (w : World) (hg : Few l) (hf : 0 ≤ f ∧ f ≤ 3000) (hn : 1 ≤ n ∧ n ≤ 3000) (hr : Rd w w.heap.size 3 Dam.cells A l) :
    Calls Try.prog 29 #[.slice A l.length cap, .int .i64 f, .int .i64 n, .int .i64 s] w fun e w' => e = .returned (.int .i64 (brok l f n s)) ∧ Below w.heap.size w w' := by
  have hl := hg.1
  have HBD := Lib.hid (fun k hk => brok_bd (f := f) (n := n) (s := s) hg.2 k hk)
  have HW := Lib.hid hg.2
  have e1 : IntKind.i64.wrap (f + n) = f + n := IntWalk.i64_in _ (by omega)
  have e2 : IntKind.i64.wrap (f + n - 1) = f + n - 1 := IntWalk.i64_in _ (by omega)
  clear hg hf hn
  go_enter Try.func29, Try.ntmps29
  go_wp2_with fail
  go_loopw [9, 11, 14] (fun t _ i wr => ∃ k : Nat, k ≤ l.length ∧ i = .int .i64 k ∧ t = .int .i64 (brokTo l f n s k) ∧ Below w.heap.size w wr) (fun t _ i _ => l.length - (intOf i).toNat)
  case atStart => exact ⟨0, Nat.zero_le _, rfl, rfl, Below.refl _ _⟩
  case round =>
    obtain ⟨k, hk, rfl, rfl, hbel⟩ := hrel
    have HB := Lib.hid hbel
    by_cases hlt : k < l.length
    · obtain ⟨b, off, rfl, hb1, c0, c1, c2⟩ := Dam.rd (hr.below hbel (Nat.le_refl _)) hlt
      have z1 := hbel.size
      have l1 : b < wr.heap.size := by omega
      have i1 : (0 : Int) ≤ (k : Int) := by omega
      have i2 : (k : Int) < l.length := by omega
      obtain ⟨q1, q2⟩ := HBD.out k hk
      obtain ⟨q3, q4⟩ := HW.out k hlt
      have HA := fun b => hit_add (f := f) (n := n) (s := s) (b := b) hlt
      have e3 : IntKind.i64.wrap (brokTo l f n s k + (nth l k).w) = brokTo l f n s k + (nth l k).w := IntWalk.i64_in _ (by omega)
      have HA2 := Lib.hid HA
      clear HA
      rcases a1 : inR (nth l k).a f (f + n - 1) with _ | _
      · have HD := Lib.hid (show brokTo l f n s (k + 1) = brokTo l f n s k by rw [HA2.out false (by simp [hitD, a1])]; simp)
        clear hbel
        go_wp2_with (go_at_call 28; refine (within_c _ _ _ _).mono ?_; rintro e w9 ⟨rfl, rfl⟩; rw [a1])
        go_roundw
        case rel => exact ⟨k + 1, by omega, by go_num, by rw [HD.out], HB.out.alloc HB.out.size _⟩
        case measure => simp [intOf]; omega
      by_cases hs : s < 0
      · have HD := Lib.hid (show brokTo l f n s (k + 1) = brokTo l f n s k + (nth l k).w by rw [HA2.out true (by simp [hitD, a1, hs])]; simp)
        clear hbel
        go_wp2_with (go_at_call 28; refine (within_c _ _ _ _).mono ?_; rintro e w9 ⟨rfl, rfl⟩; rw [a1])
        go_roundw
        case rel => exact ⟨k + 1, by omega, by go_num, by rw [HD.out], HB.out.alloc HB.out.size _⟩
        case measure => simp [intOf]; omega
      rcases h3 : ((nth l k).s == s) with _ | _
      · have HD := Lib.hid (show brokTo l f n s (k + 1) = brokTo l f n s k by rw [HA2.out false (by simp at h3; simp [hitD, hs, h3])]; simp)
        clear hbel
        go_wp2_with (go_at_call 28; refine (within_c _ _ _ _).mono ?_; rintro e w9 ⟨rfl, rfl⟩; rw [a1])
        go_roundw
        case rel => exact ⟨k + 1, by omega, by go_num, by rw [HD.out], HB.out.alloc HB.out.size _⟩
        case measure => simp [intOf]; omega
      · have HD := Lib.hid (show brokTo l f n s (k + 1) = brokTo l f n s k + (nth l k).w by rw [HA2.out true (by simp at h3; simp [hitD, a1, h3])]; simp)
        clear hbel
        go_wp2_with (go_at_call 28; refine (within_c _ _ _ _).mono ?_; rintro e w9 ⟨rfl, rfl⟩; rw [a1])
        go_roundw
        case rel => exact ⟨k + 1, by omega, by go_num, by rw [HD.out], HB.out.alloc HB.out.size _⟩
        case measure => simp [intOf]; omega
    · obtain rfl : k = l.length := by omega
      clear hbel
      go_wp2_with fail
      go_ret
      exact ⟨rfl, HB.out⟩
set_option maxHeartbeats 1600000 in
theorem l3Broken_c (l : List Dam) (f n s : Int) (A : Option Addr) (cap : Nat) (w : World) (hg : Few l) (hf : 0 ≤ f ∧ f ≤ 3000) (hn : 1 ≤ n ∧ n ≤ 3000) (hr : Rd w w.heap.size 3 Dam.cells A l) :
    Calls Try.prog 44 #[.slice A l.length cap, .int .i64 f, .int .i64 n, .int .i64 s] w fun e w' => e = .returned (.int .i64 (brok l f n s)) ∧ Below w.heap.size w w' := by
  have hl := hg.1
  have HBD := Lib.hid (fun k hk => brok_bd (f := f) (n := n) (s := s) hg.2 k hk)
  have HW := Lib.hid hg.2
  have e1 : IntKind.i64.wrap (f + n) = f + n := IntWalk.i64_in _ (by omega)
  have e2 : IntKind.i64.wrap (f + n - 1) = f + n - 1 := IntWalk.i64_in _ (by omega)
  clear hg hf hn
  go_enter Try.func44, Try.ntmps44
  go_wp2_with fail
  go_loopw [9, 10, 11] (fun t i _ wr => ∃ k : Nat, k ≤ l.length ∧ i = .int .i64 k ∧ t = .int .i64 (brokTo l f n s k) ∧ Below w.heap.size w wr) (fun t i _ _ => l.length - (intOf i).toNat)
  case atStart => exact ⟨0, Nat.zero_le _, rfl, rfl, Below.refl _ _⟩
  case round =>
    obtain ⟨k, hk, rfl, rfl, hbel⟩ := hrel
    have HB := Lib.hid hbel
    by_cases hlt : k < l.length
    · obtain ⟨b, off, rfl, hb1, c0, c1, c2⟩ := Dam.rd (hr.below hbel (Nat.le_refl _)) hlt
      have z1 := hbel.size
      have l1 : b < wr.heap.size := by omega
      have i1 : (0 : Int) ≤ (k : Int) := by omega
      have i2 : (k : Int) < l.length := by omega
      obtain ⟨q1, q2⟩ := HBD.out k hk
      obtain ⟨q3, q4⟩ := HW.out k hlt
      have HA := fun b => hit_add (f := f) (n := n) (s := s) (b := b) hlt
      have e3 : IntKind.i64.wrap (brokTo l f n s k + (nth l k).w) = brokTo l f n s k + (nth l k).w := IntWalk.i64_in _ (by omega)
      have HA2 := Lib.hid HA
      clear HA
      rcases a1 : inR (nth l k).a f (f + n - 1) with _ | _
      · have HD := Lib.hid (show brokTo l f n s (k + 1) = brokTo l f n s k by rw [HA2.out false (by simp [hitD, a1])]; simp)
        clear hbel
        go_wp2_with (go_at_call 43; refine (l1In_c _ _ _ _).mono ?_; rintro e w9 ⟨rfl, rfl⟩; rw [a1])
        go_roundw
        case rel => exact ⟨k + 1, by omega, by go_num, by rw [HD.out], HB.out.alloc HB.out.size _⟩
        case measure => simp [intOf]; omega
      by_cases hs : s < 0
      · have HD := Lib.hid (show brokTo l f n s (k + 1) = brokTo l f n s k + (nth l k).w by rw [HA2.out true (by simp [hitD, a1, hs])]; simp)
        clear hbel
        go_wp2_with (go_at_call 43; refine (l1In_c _ _ _ _).mono ?_; rintro e w9 ⟨rfl, rfl⟩; rw [a1])
        go_roundw
        case rel => exact ⟨k + 1, by omega, by go_num, by rw [HD.out], HB.out.alloc HB.out.size _⟩
        case measure => simp [intOf]; omega
      rcases h3 : ((nth l k).s == s) with _ | _
      · have HD := Lib.hid (show brokTo l f n s (k + 1) = brokTo l f n s k by rw [HA2.out false (by simp at h3; simp [hitD, hs, h3])]; simp)
        clear hbel
        go_wp2_with (go_at_call 43; refine (l1In_c _ _ _ _).mono ?_; rintro e w9 ⟨rfl, rfl⟩; rw [a1])
        go_roundw
        case rel => exact ⟨k + 1, by omega, by go_num, by rw [HD.out], HB.out.alloc HB.out.size _⟩
        case measure => simp [intOf]; omega
      · have HD := Lib.hid (show brokTo l f n s (k + 1) = brokTo l f n s k + (nth l k).w by rw [HA2.out true (by simp at h3; simp [hitD, a1, h3])]; simp)
        clear hbel
        go_wp2_with (go_at_call 43; refine (l1In_c _ _ _ _).mono ?_; rintro e w9 ⟨rfl, rfl⟩; rw [a1])
        go_roundw
        case rel => exact ⟨k + 1, by omega, by go_num, by rw [HD.out], HB.out.alloc HB.out.size _⟩
        case measure => simp [intOf]; omega
    · obtain rfl : k = l.length := by omega
      clear hbel
      go_wp2_with fail
      go_ret
      exact ⟨rfl, HB.out⟩
end Go.Proofs.Ytlgpgcfncmomiaa
