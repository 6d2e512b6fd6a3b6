/- IsJourney of the program and of the reference return one Lean function; no conditions but the lengths. -/
import Derived.Test.YtddnemmdlijgiaaTravel
import Derived.Test.YtddnemmdlijgiaaInts
namespace Go.Proofs.Ytddnemmdlijgiaa
open Go.RowKit

theorem retbb {p : Bool × Bool} {a b c d : Bool} (h : p = (b, d)) (h1 : a = b) (h2 : c = d) : Ending.returned (.tuple #[.bool a, .bool c]) = .returned (.tuple #[.bool p.1, .bool p.2]) := by rw [h, h1, h2]
/-- One ride taken at a stop at a minute. -/
def takeR (l : List Rid) (k : Int) (at_ mi : Int) : Option (Int × Int) :=
  if inR k 0 ((l.length : Int) - 1) && (nth l k.toNat).f == at_ && decide (mi ≤ (nth l k.toNat).d) then some ((nth l k.toNat).t, (nth l k.toNat).a) else none
def jrTo (l : List Rid) (js : List Int) (f : Int) : Nat → Option (Int × Int)
  | 0 => some (f, 0)
  | k + 1 => match jrTo l js f k with
    | some (a, t) => takeR l (nth js k) a t
    | none => none
theorem jrTo_none {l : List Rid} {js : List Int} {f : Int} {k : Nat} (h : jrTo l js f k = none) : ∀ d, jrTo l js f (k + d) = none
  | 0 => h
  | d + 1 => by rw [← Nat.add_assoc, jrTo, jrTo_none h d]
theorem jrTo_none' {l : List Rid} {js : List Int} {f : Int} {k n : Nat} (h : jrTo l js f k = none) (hn : k ≤ n) : jrTo l js f n = none := by
  have := jrTo_none h (n - k); rwa [Nat.add_sub_cancel' hn] at this
theorem jrTo_step {l : List Rid} {js : List Int} {f a t : Int} {k : Nat} (h : jrTo l js f k = some (a, t)) : jrTo l js f (k + 1) = takeR l (nth js k) a t := by rw [jrTo, h]
def jour (l : List Rid) (js : List Int) (f t : Int) : Bool × Bool := if goodR l && inR f 0 5 && inR t 0 5 then (match jrTo l js f js.length with | some (a, _) => (a == t, true) | none => (false, true)) else (false, false)
theorem jour_none {l : List Rid} {js : List Int} {f t : Int} (h : (goodR l && inR f 0 5 && inR t 0 5) = true) {k : Nat} (hk : k ≤ js.length) (hn : jrTo l js f k = none) : jour l js f t = (false, true) := by
  simp only [jour, h, if_true, jrTo_none' hn hk]
theorem jour_some {l : List Rid} {js : List Int} {f t a b : Int} (h : (goodR l && inR f 0 5 && inR t 0 5) = true) (hs : jrTo l js f js.length = some (a, b)) : jour l js f t = (a == t, true) := by
  simp only [jour, h, if_true, hs]
theorem takeR_no {l : List Rid} {k a t : Int} (h : inR k 0 ((l.length : Int) - 1) = false) : takeR l k a t = none := by simp [takeR, h]
theorem takeR_ok {l : List Rid} {q : Nat} {a t : Int} (h1 : inR (q : Int) 0 ((l.length : Int) - 1) = true) (h2 : (nth l q).f = a) (h3 : t ≤ (nth l q).d) : takeR l q a t = some ((nth l q).t, (nth l q).a) := by
  simp [takeR, h1, h2, h3]
theorem takeR_f {l : List Rid} {q : Nat} {a t : Int} (h2 : (nth l q).f ≠ a) : takeR l q a t = none := by simp [takeR, h2]
theorem takeR_d {l : List Rid} {q : Nat} {a t : Int} (h3 : ¬ t ≤ (nth l q).d) : takeR l q a t = none := by simp [takeR, h3]

theorem implIsJourney_c (l : List Rid) (js : List Int) (A B : Option Addr) (cap cap' : Nat) (f t : Int) (w : World) (hl : l.length ≤ 1048576) (hj : js.length ≤ 1048576) (hr : Rd w w.heap.size 5 Rid.cells A l) (hs : Rd w w.heap.size 1 intCells B js) :
    Calls Try.prog 23 #[.slice A l.length cap, .slice B js.length cap', .int .i64 f, .int .i64 t] w fun e w' => e = .returned (.tuple #[.bool (jour l js f t).1, .bool (jour l js f t).2]) ∧ Below w.heap.size w w' := by
  rcases hg : okT l f t 0 with _ | _
  · have H := Lib.hid (show jour l js f t = (false, false) by
      have : (goodR l && inR f 0 5 && inR t 0 5) = false := by simpa [okT, inR] using hg
      simp [jour, this])
    go_enter Try.func23, Try.ntmps23
    go_wp2_with fail
    refine (isTravel_c l _ _ _ _ _ _ hl hr).mono ?_
    rintro e w1 ⟨rfl, hb1⟩
    go_wp2_with fail
    go_ret2
    exact ⟨retbb H.out rfl rfl, hb1⟩
  have HG := Lib.hid (show (goodR l && inR f 0 5 && inR t 0 5) = true by simpa [okT, inR] using hg)
  go_enter Try.func23, Try.ntmps23
  go_wp2_with fail
  refine (isTravel_c l _ _ _ _ _ _ hl hr).mono ?_
  rintro e w1 ⟨rfl, hb1⟩
  have hr1 := hr.carry hb1
  have hs1 := hs.carry hb1
  have HB1 := Lib.hid hb1
  clear hb1
  go_wp2_with fail
  clear hg
  go_loopw [10, 11, 13, 22] (fun a m _ i wr => ∃ (k : Nat) (x y : Int), k ≤ js.length ∧ i = .int .i64 k ∧ a = .int .i64 x ∧ m = .int .i64 y ∧ jrTo l js f k = some (x, y) ∧ Below w1.heap.size w1 wr) (fun _ _ _ i _ => js.length - (intOf i).toNat)
  case atStart => exact ⟨0, f, 0, Nat.zero_le _, rfl, rfl, rfl, rfl, Below.refl _ _⟩
  case round =>
    obtain ⟨k, x, y, hk, rfl, rfl, rfl, hst, hbel⟩ := hrel
    have HB := Lib.hid hbel
    have HS := Lib.hid hst
    have HT := Lib.hid (jrTo_step hst)
    clear hst
    have z1 := hbel.size
    by_cases hlt : k < js.length
    · obtain ⟨b, off, rfl, hb1, hc⟩ := (hs1.below hbel (Nat.le_refl _)).int hlt
      rcases hin : inR (nth js k) 0 ((l.length : Int) - 1) with _ | _
      · have H := Lib.hid (jour_none (t := t) HG.out (show k + 1 ≤ js.length by omega) (by rw [HT.out, takeR_no hin]))
        clear hbel
        go_wp2_with (go_at_call 55; refine (within_c _ _ _ _).mono ?_; rintro e w' ⟨rfl, rfl⟩)
        go_ret2
        exact ⟨retbb H.out rfl rfl, HB1.out.trans (HB.out.mono HB1.out.size)⟩
      obtain ⟨i1, i2⟩ := inR_true.1 hin
      obtain ⟨q, hq⟩ : ∃ q : Nat, nth js k = (q : Int) := ⟨(nth js k).toNat, by omega⟩
      rw [hq] at hin hc i1 i2
      have HQ := Lib.hid hq
      clear hq
      obtain ⟨b', off', rfl, hb2, hcs⟩ := Rid.rd (hr1.below hbel (Nat.le_refl _)) (show q < l.length by omega)
      have l2 : b' < wr.heap.size := by omega
      have i3 : (q : Int) < l.length := by omega
      clear hbel
      by_cases hf : (nth l q).f = x
      · have hf' : ((nth l q).f != x) = false := by simp [hf]
        by_cases hd : y ≤ (nth l q).d
        · have HN := Lib.hid (show jrTo l js f (k + 1) = some ((nth l q).t, (nth l q).a) by rw [HT.out, HQ.out, takeR_ok hin hf hd])
          clear hf
          go_wp2_with (go_at_call 55; refine (within_c _ _ _ _).mono ?_; rintro e w' ⟨rfl, rfl⟩)
          refine wp_region_mem (by kernel_rfl) (by kernel_rfl) ?_
          repeat (go_big_quiet_step (fail))
          refine wpQuiet_nil ?_
          intro _ hw'
          obtain ⟨⟨wq, hbq⟩, hw''⟩ := hw'
          obtain rfl := hw''.symm
          obtain ⟨hcq, hfq, hzq⟩ := bcell hbq
          try simp [Nat.add_one_le_iff] at hzq
          go_wp2_with fail
          go_roundw
          case rel => exact ⟨k + 1, _, _, by omega, by go_num, rfl, rfl, HN.out, HB.out.trans (hbq.mono z1)⟩
          case measure => simp [intOf]; omega
        · have H := Lib.hid (jour_none (t := t) HG.out (show k + 1 ≤ js.length by omega) (by rw [HT.out, HQ.out, takeR_d hd]))
          clear hf
          go_wp2_with (go_at_call 55; refine (within_c _ _ _ _).mono ?_; rintro e w' ⟨rfl, rfl⟩)
          go_ret2
          exact ⟨retbb H.out rfl rfl, HB1.out.trans (HB.out.mono HB1.out.size)⟩
      · have hf' : ((nth l q).f != x) = true := by rw [bne_iff_ne]; exact hf
        have H := Lib.hid (jour_none (t := t) HG.out (show k + 1 ≤ js.length by omega) (by rw [HT.out, HQ.out, takeR_f hf]))
        clear hf
        go_wp2_with (go_at_call 55; refine (within_c _ _ _ _).mono ?_; rintro e w' ⟨rfl, rfl⟩)
        go_ret2
        exact ⟨retbb H.out rfl rfl, HB1.out.trans (HB.out.mono HB1.out.size)⟩
    · obtain rfl : k = js.length := by omega
      have H := Lib.hid (jour_some (t := t) HG.out HS.out)
      clear hbel
      go_wp2_with fail
      go_ret2
      exact ⟨retbb H.out rfl rfl, HB1.out.trans (HB.out.mono HB1.out.size)⟩
end Go.Proofs.Ytddnemmdlijgiaa
