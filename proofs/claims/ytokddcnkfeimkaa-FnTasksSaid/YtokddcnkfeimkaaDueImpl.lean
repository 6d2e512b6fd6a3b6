/- The program's plan by due returns the plain rounds' answer; no conditions but the length. -/
import Derived.Test.YtokddcnkfeimkaaDue
import Derived.Test.YtokddcnkfeimkaaSlack
namespace Go.Proofs.Ytokddcnkfeimkaa
open Go.RowKit

/-- What a call hands back: a list of its own, and whether there is one. -/
def ListPost (p : List Int × Bool) (w : World) (e : Ending) (w' : World) : Prop := ∃ A cap, e = .returned (.tuple #[.slice A p.1.length cap, .bool p.2]) ∧ Own w' w.heap.size 3 1 intCells A p.1 ∧ Below w.heap.size w w'

theorem list_nth' {α : Type} [Inhabited α] : ∀ {a b : List α}, a.length = b.length → (∀ i, i < a.length → nth a i = nth b i) → a = b := fun {a b} hl h => by
  refine List.ext_getElem hl fun i h1 h2 => ?_
  have := h i h1
  rwa [nth_eq h1, nth_eq h2] at this
def dueP (l : List Tsk) : List Int × Bool := if goodK l && planB l (byDue l) then (byDue l, true) else ([], false)
theorem dueP_no {l : List Tsk} (h : goodK l = false) : dueP l = ([], false) := by simp [dueP, h]
theorem bestD_yes {l : List Tsk} {p : List Int} {day : Int} {k : Nat} (h1 : nth p k < 0) (h2 : (nth l k).f ≤ day) (h3 : bestD l p day k < 0 ∨ (nth l k).u < (nth l (bestD l p day k).toNat).u) : bestD l p day (k + 1) = k := by rw [bestD, if_pos ⟨h1, h2, h3⟩]
theorem bestD_not {l : List Tsk} {p : List Int} {day : Int} {k : Nat} (h : ¬ (nth p k < 0 ∧ (nth l k).f ≤ day ∧ (bestD l p day k < 0 ∨ (nth l k).u < (nth l (bestD l p day k).toNat).u))) : bestD l p day (k + 1) = bestD l p day k := by rw [bestD, if_neg h]
set_option maxHeartbeats 3200000 in
set_option maxRecDepth 100000 in
theorem implPlanByDue_c (l : List Tsk) (A : Option Addr) (cap : Nat) (w : World) (hl : l.length ≤ 1048576) (hr : Rd w w.heap.size 4 Tsk.cells A l) :
    Calls Try.prog 37 #[.slice A l.length cap] w (ListPost (dueP l) w) := by
  rcases hg : goodK l with _ | _
  · have H := Lib.hid (dueP_no hg)
    go_enter Try.func37, Try.ntmps37
    go_wp2_with fail
    refine (AreTasks_c l _ _ _ hl hr).mono ?_
    rintro e w1 ⟨rfl, hb1⟩
    go_wp2_with fail
    go_ret2
    exact ⟨none, 0, retl H.out, by rw [H.out]; exact Own.nil, hb1⟩
  have HG := Lib.hid (goodK_true hg)
  have H := Lib.hid (show dueP l = if planB l (byDue l) then (byDue l, true) else ([], false) by simp [dueP, hg])
  have hl8 := HG.out.1
  have hmk := run_make_row' (P := Try.prog) 35 3 (.int .i64 0) 8 Try.underlying35 info_int rfl .i64 .i64 l.length (by omega) (by omega)
  go_enter Try.func37, Try.ntmps37
  go_wp2_with fail
  refine (AreTasks_c l _ _ _ hl hr).mono ?_
  rintro e w1 ⟨rfl, hb1⟩
  have hr1 := hr.carry hb1
  have HB1 := Lib.hid hb1
  clear hb1
  go_wp2_with fail
  clear hg
  go_loopw [6, 21] (fun _ i wr => ∃ (k : Nat) (o : List Int), k ≤ l.length ∧ i = .int .i64 k ∧ o.length = l.length ∧ (∀ j, j < k → nth o j = -1) ∧ Arr wr w1.heap.size o ∧ Below w1.heap.size w1 wr) (fun _ i _ => l.length - (intOf i).toNat)
  case atStart => exact ⟨0, List.replicate l.length 0, Nat.zero_le _, rfl, by simp, fun j hj => absurd hj (by omega), Arr.made w1 l.length w1.heap.size rfl, (by repeat (first | (with_reducible exact Below.refl _ _) | ((with_reducible refine alloc_ ?_ ?_); (focus (first | exact Nat.le_refl _ | (simp; done) | (simp; omega) | omega))) | ((with_reducible refine set_ ?_ ?_); (focus (first | exact Nat.le_refl _ | (simp; done) | (simp; omega) | omega))) | (with_reducible refine Below.drew ?_) | ((with_reducible refine after_ ?_ (by assumption) ?_); (rotate_left; (focus (first | exact Nat.le_refl _ | (simp; done) | (simp; omega) | omega))))))⟩
  case round =>
    obtain ⟨k, o, hk, rfl, hol, hall, harr, hbel⟩ := hrel
    have HB := Lib.hid hbel
    have HL := Lib.hid hall
    have HA := Lib.hid harr
    by_cases hlt : k < l.length
    · have hc := harr.cell (i := k) (by omega)
      have hz := harr.frozen k
      clear hall harr hbel
      go_wp2_with fail
      go_roundw
      case rel => exact ⟨k + 1, o.set k (-1), by omega, by go_num, by rw [List.length_set]; exact hol, fun j hj => by
        rw [nth_setI (by omega)]
        split
        · rfl
        · exact HL.out j (by omega), HA.out.set k _, HB.out.setCell (Nat.le_refl _) _⟩
      case measure => simp [intOf]; omega
    · obtain rfl : k = l.length := by omega
      have ho : o = (roundsD l 0).1 := by
        refine list_nth' (by simp [roundsD, hol]) fun i hi => ?_
        rw [HL.out i (by omega)]
        exact (nth_replicate (by omega)).symm
      have HO := Lib.hid ho
      clear hall harr hbel hmk ho
      go_wp2_with fail
      go_loopw [5, 7, 8, 9, 10, 11, 12, 30, 34, 54] (fun fr _ _ _ _ _ _ i _ _ wr => ∃ r : Nat, r ≤ l.length ∧ i = .int .i64 r ∧ fr = .int .i64 (roundsD l r).2 ∧ Arr wr w1.heap.size (roundsD l r).1 ∧ Below w1.heap.size w1 wr) (fun _ _ _ _ _ _ _ i _ _ _ => l.length - (intOf i).toNat)
      case atStart => exact ⟨0, Nat.zero_le _, rfl, rfl, by rw [← HO.out]; exact HA.out, HB.out⟩
      case round =>
        obtain ⟨r, hrn, rfl, rfl, harr, hbel⟩ := hrel
        have HA := Lib.hid harr
        have HB := Lib.hid hbel
        have zl := harr.lt
        by_cases hlt : r < l.length
        · have HD := Lib.hid (due_rounds HG.out.2 r hrn)
          have HE := Lib.hid (show roundsD l (r + 1) = roundD l (roundsD l r) from rfl)
          obtain ⟨st, hst⟩ : ∃ st, roundsD l r = st := ⟨_, rfl⟩
          rw [hst] at HA HD HE ⊢
          obtain ⟨p, t⟩ := st
          have hpl : p.length = l.length := HD.out.len
          have t0 : 0 ≤ t := HD.out.t0
          have t1 : t ≤ 400 + 30 * r := HD.out.t1
          have HP := Lib.hid (due_pick HG.out.2 HD.out hlt)
          clear harr hbel hst
          go_wp2_with fail
          go_loopw [7, 8, 9, 34] (fun f _ _ i wi => ∃ k : Nat, k ≤ l.length ∧ i = .int .i64 k ∧ f = .int .i64 (firstD l p k) ∧ Arr wi w1.heap.size p ∧ Below w1.heap.size w1 wi) (fun _ _ _ i _ => l.length - (intOf i).toNat)
          case atStart => exact ⟨0, Nat.zero_le _, rfl, rfl, HA.out, HB.out⟩
          case round =>
            obtain ⟨k, hk, rfl, rfl, harr, hbel⟩ := hrel
            have HAi := Lib.hid harr
            have HBi := Lib.hid hbel
            have z2 := hbel.size
            have f1 := firstD_le (l := l) (p := p) k
            have f0 := firstD_ge (l := l) (p := p) (fun i hi => (okK_true.1 (HG.out.2 i hi)).2.2.1.1) k hk
            by_cases hkl : k < l.length
            · obtain ⟨b, off, rfl, hb1, hcs⟩ := Tsk.rd (hr1.below hbel (Nat.le_refl _)) hkl
              have hc := harr.cell (i := k) (by omega)
              have zl := harr.lt
              have l1 : b < wr.heap.size := by omega
              clear harr hbel
              by_cases hn : nth p k < 0
              · have H1 := Lib.hid (show firstD l p (k + 1) = min (firstD l p k) (nth l k).f by rw [firstD, if_pos hn])
                go_wp2_with fail
                go_roundw
                case rel => exact ⟨k + 1, by omega, by go_num, by rw [H1.out], HAi.out.carry (by repeat (first | (with_reducible exact Below.refl _ _) | ((with_reducible refine alloc_ ?_ ?_); (focus (first | exact Nat.le_refl _ | (simp; done) | (simp; omega) | omega))) | ((with_reducible refine set_ ?_ ?_); (focus (first | exact Nat.le_refl _ | (simp; done) | (simp; omega) | omega))) | (with_reducible refine Below.drew ?_) | ((with_reducible refine after_ ?_ (by assumption) ?_); (rotate_left; (focus (first | exact Nat.le_refl _ | (simp; done) | (simp; omega) | omega)))))), HBi.out.trans (Below.mono (B := wr.heap.size) (by repeat (first | (with_reducible exact Below.refl _ _) | ((with_reducible refine alloc_ ?_ ?_); (focus (first | exact Nat.le_refl _ | (simp; done) | (simp; omega) | omega))) | ((with_reducible refine set_ ?_ ?_); (focus (first | exact Nat.le_refl _ | (simp; done) | (simp; omega) | omega))) | (with_reducible refine Below.drew ?_) | ((with_reducible refine after_ ?_ (by assumption) ?_); (rotate_left; (focus (first | exact Nat.le_refl _ | (simp; done) | (simp; omega) | omega)))))) z2)⟩
                case measure => simp [intOf]; omega
              · have H1 := Lib.hid (show firstD l p (k + 1) = firstD l p k by rw [firstD, if_neg hn])
                go_wp2_with fail
                go_roundw
                case rel => exact ⟨k + 1, by omega, by go_num, by rw [H1.out], HAi.out.carry (by repeat (first | (with_reducible exact Below.refl _ _) | ((with_reducible refine alloc_ ?_ ?_); (focus (first | exact Nat.le_refl _ | (simp; done) | (simp; omega) | omega))) | ((with_reducible refine set_ ?_ ?_); (focus (first | exact Nat.le_refl _ | (simp; done) | (simp; omega) | omega))) | (with_reducible refine Below.drew ?_) | ((with_reducible refine after_ ?_ (by assumption) ?_); (rotate_left; (focus (first | exact Nat.le_refl _ | (simp; done) | (simp; omega) | omega)))))), HBi.out.trans (Below.mono (B := wr.heap.size) (by repeat (first | (with_reducible exact Below.refl _ _) | ((with_reducible refine alloc_ ?_ ?_); (focus (first | exact Nat.le_refl _ | (simp; done) | (simp; omega) | omega))) | ((with_reducible refine set_ ?_ ?_); (focus (first | exact Nat.le_refl _ | (simp; done) | (simp; omega) | omega))) | (with_reducible refine Below.drew ?_) | ((with_reducible refine after_ ?_ (by assumption) ?_); (rotate_left; (focus (first | exact Nat.le_refl _ | (simp; done) | (simp; omega) | omega)))))) z2)⟩
                case measure => simp [intOf]; omega
            · obtain rfl : k = l.length := by omega
              obtain ⟨day, hday⟩ : ∃ day, dayD l (p, t) = day := ⟨_, rfl⟩
              have hmx : max t (firstD l p l.length) = day := hday
              clear harr hbel
              go_wp2_with fail
              obtain ⟨x, hx⟩ : ∃ x, pickD l (p, t) = x := ⟨_, rfl⟩
              obtain ⟨x1, x2, x3, x4, x5⟩ := HP.out
              rw [hx] at x1 x2 x3
              rw [hday] at x2 x4 x5
              have HX2 := Lib.hid x2
              have HE2 := Lib.hid (show roundsD l (r + 1) = (p.set x day, day + (nth l x).d) by rw [HE.out, roundD, hx, hday])
              clear x2 hmx hday hx
              go_loopw [10, 11, 12, 54] (fun bs _ _ i wi => ∃ k : Nat, k ≤ l.length ∧ i = .int .i64 k ∧ bs = .int .i64 (bestD l p day k) ∧ Arr wi w1.heap.size p ∧ Below w1.heap.size w1 wi) (fun _ _ _ i _ => l.length - (intOf i).toNat)
              case atStart => exact ⟨0, Nat.zero_le _, rfl, rfl, HAi.out, HBi.out⟩
              case round =>
                obtain ⟨k, hk, rfl, rfl, harr, hbel⟩ := hrel
                have HAi := Lib.hid harr
                have HBi := Lib.hid hbel
                have z2 := hbel.size
                have HI := Lib.hid (bestD_is (l := l) (p := p) (day := day) k)
                by_cases hkl : k < l.length
                · have hrk := hr1.below hbel (Nat.le_refl _)
                  obtain ⟨b, off, rfl, hb1, hcs⟩ := Tsk.rd hrk hkl
                  have hc := harr.cell (i := k) (by omega)
                  have zl := harr.lt
                  have l1 : b < wr.heap.size := by omega
                  clear harr hbel
                  by_cases hn : nth p k < 0
                  case neg =>
                    have hn' : decide (nth p k < 0) = false := decide_eq_false hn
                    have H1 := Lib.hid (bestD_not (l := l) (p := p) (day := day) (k := k) fun h => hn h.1)
                    clear hrk hn
                    go_wp2_with fail
                    refine wp_region_mem (by kernel_rfl) (by kernel_rfl) ?_
                    repeat (go_big_quiet_step (fail))
                    refine wpQuiet_nil ?_
                    intro _ hw'
                    obtain ⟨⟨wq, hbq⟩, hw''⟩ := hw'
                    obtain rfl := hw''.symm
                    obtain ⟨hcq, hfq, hzq⟩ := bcell hbq
                    try simp [Nat.add_one_le_iff] at hzq
                    go_wp2_with fail
                    go_roundw
                    case rel => exact ⟨k + 1, by omega, by go_num, by rw [H1.out], HAi.out.carry (by repeat (first | (with_reducible exact Below.refl _ _) | ((with_reducible refine alloc_ ?_ ?_); (focus (first | exact Nat.le_refl _ | (simp; done) | (simp; omega) | omega))) | ((with_reducible refine set_ ?_ ?_); (focus (first | exact Nat.le_refl _ | (simp; done) | (simp; omega) | omega))) | (with_reducible refine Below.drew ?_) | ((with_reducible refine after_ ?_ (by assumption) ?_); (rotate_left; (focus (first | exact Nat.le_refl _ | (simp; done) | (simp; omega) | omega)))))), HBi.out.trans (Below.mono (B := wr.heap.size) (by repeat (first | (with_reducible exact Below.refl _ _) | ((with_reducible refine alloc_ ?_ ?_); (focus (first | exact Nat.le_refl _ | (simp; done) | (simp; omega) | omega))) | ((with_reducible refine set_ ?_ ?_); (focus (first | exact Nat.le_refl _ | (simp; done) | (simp; omega) | omega))) | (with_reducible refine Below.drew ?_) | ((with_reducible refine after_ ?_ (by assumption) ?_); (rotate_left; (focus (first | exact Nat.le_refl _ | (simp; done) | (simp; omega) | omega)))))) z2)⟩
                    case measure => simp [intOf]; omega
                  by_cases hf : (nth l k).f ≤ day
                  case neg =>
                    have hf' : decide ((nth l k).f ≤ day) = false := decide_eq_false hf
                    have H1 := Lib.hid (bestD_not (l := l) (p := p) (day := day) (k := k) fun h => hf h.2.1)
                    clear hrk hf
                    go_wp2_with fail
                    refine wp_region_mem (by kernel_rfl) (by kernel_rfl) ?_
                    repeat (go_big_quiet_step (fail))
                    refine wpQuiet_nil ?_
                    intro _ hw'
                    obtain ⟨⟨wq, hbq⟩, hw''⟩ := hw'
                    obtain rfl := hw''.symm
                    obtain ⟨hcq, hfq, hzq⟩ := bcell hbq
                    try simp [Nat.add_one_le_iff] at hzq
                    go_wp2_with fail
                    go_roundw
                    case rel => exact ⟨k + 1, by omega, by go_num, by rw [H1.out], HAi.out.carry (by repeat (first | (with_reducible exact Below.refl _ _) | ((with_reducible refine alloc_ ?_ ?_); (focus (first | exact Nat.le_refl _ | (simp; done) | (simp; omega) | omega))) | ((with_reducible refine set_ ?_ ?_); (focus (first | exact Nat.le_refl _ | (simp; done) | (simp; omega) | omega))) | (with_reducible refine Below.drew ?_) | ((with_reducible refine after_ ?_ (by assumption) ?_); (rotate_left; (focus (first | exact Nat.le_refl _ | (simp; done) | (simp; omega) | omega)))))), HBi.out.trans (Below.mono (B := wr.heap.size) (by repeat (first | (with_reducible exact Below.refl _ _) | ((with_reducible refine alloc_ ?_ ?_); (focus (first | exact Nat.le_refl _ | (simp; done) | (simp; omega) | omega))) | ((with_reducible refine set_ ?_ ?_); (focus (first | exact Nat.le_refl _ | (simp; done) | (simp; omega) | omega))) | (with_reducible refine Below.drew ?_) | ((with_reducible refine after_ ?_ (by assumption) ?_); (rotate_left; (focus (first | exact Nat.le_refl _ | (simp; done) | (simp; omega) | omega)))))) z2)⟩
                    case measure => simp [intOf]; omega
                  rcases HI.out with hb | ⟨j, hj, hb, hbn⟩
                  · have H1 := Lib.hid (bestD_yes hn hf (.inl (by omega)))
                    rw [hb]
                    clear hrk hb
                    go_wp2_with fail
                    refine wp_region_mem (by kernel_rfl) (by kernel_rfl) ?_
                    repeat (go_big_quiet_step (fail))
                    refine wpQuiet_nil ?_
                    intro _ hw'
                    obtain ⟨⟨wq, hbq⟩, hw''⟩ := hw'
                    obtain rfl := hw''.symm
                    obtain ⟨hcq, hfq, hzq⟩ := bcell hbq
                    try simp [Nat.add_one_le_iff] at hzq
                    go_wp2_with fail
                    go_roundw
                    case rel => exact ⟨k + 1, by omega, by go_num, by rw [H1.out], HAi.out.carry (by repeat (first | (with_reducible exact Below.refl _ _) | ((with_reducible refine alloc_ ?_ ?_); (focus (first | exact Nat.le_refl _ | (simp; done) | (simp; omega) | omega))) | ((with_reducible refine set_ ?_ ?_); (focus (first | exact Nat.le_refl _ | (simp; done) | (simp; omega) | omega))) | (with_reducible refine Below.drew ?_) | ((with_reducible refine after_ ?_ (by assumption) ?_); (rotate_left; (focus (first | exact Nat.le_refl _ | (simp; done) | (simp; omega) | omega)))))), HBi.out.trans (Below.mono (B := wr.heap.size) (by repeat (first | (with_reducible exact Below.refl _ _) | ((with_reducible refine alloc_ ?_ ?_); (focus (first | exact Nat.le_refl _ | (simp; done) | (simp; omega) | omega))) | ((with_reducible refine set_ ?_ ?_); (focus (first | exact Nat.le_refl _ | (simp; done) | (simp; omega) | omega))) | (with_reducible refine Below.drew ?_) | ((with_reducible refine after_ ?_ (by assumption) ?_); (rotate_left; (focus (first | exact Nat.le_refl _ | (simp; done) | (simp; omega) | omega)))))) z2)⟩
                    case measure => simp [intOf]; omega
                  · obtain ⟨b', off', hbe, hb1', hcs'⟩ := Tsk.rd hrk (show j < l.length by omega)
                    simp only [Option.some.injEq, Addr.mk.injEq, and_true] at hbe
                    obtain ⟨rfl, rfl⟩ := hbe
                    have HBJ := Lib.hid hb
                    have ej : (bestD l p day k).toNat = j := by omega
                    have i2 : (j : Int) < l.length := by omega
                    have i3 : decide ((j : Int) < 0) = false := decide_eq_false (by omega)
                    by_cases hu : (nth l k).u < (nth l j).u
                    · have H1 := Lib.hid (bestD_yes hn hf (.inr (by rw [ej]; exact hu)))
                      rw [hb]
                      clear hrk hb ej
                      go_wp2_with fail
                      refine wp_region_mem (by kernel_rfl) (by kernel_rfl) ?_
                      repeat (go_big_quiet_step (fail))
                      refine wpQuiet_nil ?_
                      intro _ hw'
                      obtain ⟨⟨wq, hbq⟩, hw''⟩ := hw'
                      obtain rfl := hw''.symm
                      obtain ⟨hcq, hfq, hzq⟩ := bcell hbq
                      try simp [Nat.add_one_le_iff] at hzq
                      go_wp2_with fail
                      go_roundw
                      case rel => exact ⟨k + 1, by omega, by go_num, by rw [H1.out], HAi.out.carry (by repeat (first | (with_reducible exact Below.refl _ _) | ((with_reducible refine alloc_ ?_ ?_); (focus (first | exact Nat.le_refl _ | (simp; done) | (simp; omega) | omega))) | ((with_reducible refine set_ ?_ ?_); (focus (first | exact Nat.le_refl _ | (simp; done) | (simp; omega) | omega))) | (with_reducible refine Below.drew ?_) | ((with_reducible refine after_ ?_ (by assumption) ?_); (rotate_left; (focus (first | exact Nat.le_refl _ | (simp; done) | (simp; omega) | omega)))))), HBi.out.trans (Below.mono (B := wr.heap.size) (by repeat (first | (with_reducible exact Below.refl _ _) | ((with_reducible refine alloc_ ?_ ?_); (focus (first | exact Nat.le_refl _ | (simp; done) | (simp; omega) | omega))) | ((with_reducible refine set_ ?_ ?_); (focus (first | exact Nat.le_refl _ | (simp; done) | (simp; omega) | omega))) | (with_reducible refine Below.drew ?_) | ((with_reducible refine after_ ?_ (by assumption) ?_); (rotate_left; (focus (first | exact Nat.le_refl _ | (simp; done) | (simp; omega) | omega)))))) z2)⟩
                      case measure => simp [intOf]; omega
                    · have hu' : decide ((nth l k).u < (nth l j).u) = false := decide_eq_false hu
                      have H1 := Lib.hid (bestD_not (l := l) (p := p) (day := day) (k := k) fun h => by
                        rcases h.2.2 with h | h
                        · omega
                        · rw [ej] at h; exact hu h)
                      rw [hb]
                      clear hrk hb ej hu
                      go_wp2_with fail
                      refine wp_region_mem (by kernel_rfl) (by kernel_rfl) ?_
                      repeat (go_big_quiet_step (fail))
                      refine wpQuiet_nil ?_
                      intro _ hw'
                      obtain ⟨⟨wq, hbq⟩, hw''⟩ := hw'
                      obtain rfl := hw''.symm
                      obtain ⟨hcq, hfq, hzq⟩ := bcell hbq
                      try simp [Nat.add_one_le_iff] at hzq
                      go_wp2_with fail
                      go_roundw
                      case rel => exact ⟨k + 1, by omega, by go_num, by rw [H1.out, HBJ.out], HAi.out.carry (by repeat (first | (with_reducible exact Below.refl _ _) | ((with_reducible refine alloc_ ?_ ?_); (focus (first | exact Nat.le_refl _ | (simp; done) | (simp; omega) | omega))) | ((with_reducible refine set_ ?_ ?_); (focus (first | exact Nat.le_refl _ | (simp; done) | (simp; omega) | omega))) | (with_reducible refine Below.drew ?_) | ((with_reducible refine after_ ?_ (by assumption) ?_); (rotate_left; (focus (first | exact Nat.le_refl _ | (simp; done) | (simp; omega) | omega)))))), HBi.out.trans (Below.mono (B := wr.heap.size) (by repeat (first | (with_reducible exact Below.refl _ _) | ((with_reducible refine alloc_ ?_ ?_); (focus (first | exact Nat.le_refl _ | (simp; done) | (simp; omega) | omega))) | ((with_reducible refine set_ ?_ ?_); (focus (first | exact Nat.le_refl _ | (simp; done) | (simp; omega) | omega))) | (with_reducible refine Below.drew ?_) | ((with_reducible refine after_ ?_ (by assumption) ?_); (rotate_left; (focus (first | exact Nat.le_refl _ | (simp; done) | (simp; omega) | omega)))))) z2)⟩
                      case measure => simp [intOf]; omega
                · obtain rfl : k = l.length := by omega
                  obtain ⟨b, off, rfl, hb1, hcs⟩ := Tsk.rd (hr1.below hbel (Nat.le_refl _)) x1
                  have hc := harr.cell (i := x) (by omega)
                  have hz := harr.frozen x
                  have l3 : b ≠ w1.heap.size := by omega
                  have i2 : (x : Int) < l.length := by omega
                  obtain ⟨_, ⟨d1, d2⟩, _⟩ := okK_true.1 (HG.out.2 _ x1)
                  have s1 : IntKind.i64.wrap (day + (nth l x).d) = day + (nth l x).d := IntWalk.i64_in _ (by omega)
                  rw [HX2.out]
                  clear harr hbel
                  go_wp2_with fail
                  go_roundw
                  case rel => exact ⟨r + 1, by omega, by go_num, by rw [HE2.out], by rw [HE2.out]; exact HAi.out.set x day, HBi.out.setCell (Nat.le_refl _) _⟩
                  case measure => simp [intOf]; omega
        · obtain rfl : r = l.length := by omega
          have hlen : (byDue l).length = l.length := (due_rounds HG.out.2 l.length (Nat.le_refl _)).len
          have hpc := isTaskPlan_c l (byDue l) A (some ⟨w1.heap.size, 0, none⟩) cap l.length wr ((hr1.below hbel (Nat.le_refl _)).mono hbel.size) harr.rd (by omega) HG.out
          rw [hlen] at hpc
          have HPC := Lib.hid hpc
          clear hbel harr hpc
          go_wp2_with fail
          refine HPC.out.mono ?_
          rintro e w2 ⟨rfl, hb2⟩
          have HA2 := Lib.hid (HA.out.carry hb2)
          have HB2 := Lib.hid (HB1.out.trans ((HB.out.trans (hb2.mono (by omega))).mono HB1.out.size))
          clear hb2 HPC
          rcases hp : planB l (byDue l) with _ | _
          · have H1 := Lib.hid (H.out.trans (if_neg (by simp [hp])))
            go_wp2_with fail
            go_ret2
            exact ⟨none, 0, retl H1.out, by rw [H1.out]; exact Own.nil, HB2.out⟩
          · have H1 := Lib.hid (H.out.trans (if_pos hp))
            go_wp2_with fail
            go_ret2
            exact ⟨some ⟨w1.heap.size, 0, none⟩, l.length, by rw [H1.out]; simp only [hlen]; rfl, by rw [H1.out]; exact HA2.out.own HB1.out.size, HB2.out⟩
end Go.Proofs.Ytokddcnkfeimkaa
