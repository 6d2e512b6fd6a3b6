/- The earliest end of tasks: the program's and the reference's way; no conditions but that the tasks are valid. -/
import Derived.Test.YtokddcnkfeimkaaBusy
import Derived.Test.YtokddcnkfeimkaaOrders
import Derived.Test.YtokddcnkfeimkaaArr
namespace Go.Proofs.Ytokddcnkfeimkaa
open Go.RowKit

def jobs (l : List Tsk) (i : Nat) : Job := ⟨(nth l i).f, (nth l i).u, (nth l i).d⟩
theorem bit_and : ∀ S : Fin 256, ∀ k : Fin 8, (bits BinOp.and IntKind.i64 ((S.val : Int) / 2 ^ k.val) 1 == 0) = !S.val.testBit k.val := by decide +kernel
theorem sub_bit : ∀ S : Fin 256, ∀ k : Fin 8, S.val.testBit k.val = true → wrap64 ((S.val : Int) - wrap64 (2 ^ k.val)) = ((S.val - 2 ^ k.val : Nat) : Int) := by decide +kernel
theorem bestTo_yes {g : Nat → Int} {k : Nat} {x : Int} (hx : g k = x) (h : 0 ≤ x ∧ (bestTo g k < 0 ∨ x < bestTo g k)) : bestTo g (k + 1) = x := by rw [bestTo, hx, if_pos h]
theorem bestTo_no {g : Nat → Int} {k : Nat} {x : Int} (hx : g k = x) (h : ¬ (0 ≤ x ∧ (bestTo g k < 0 ∨ x < bestTo g k))) : bestTo g (k + 1) = bestTo g k := by rw [bestTo, hx, if_neg h]
def rOf (l : List Tsk) (m S : Nat) (t : Int) : Int := endR (jobs l) l.length m S t
set_option maxHeartbeats 1600000 in
theorem l16End_c (l : List Tsk) (A : Option Addr) (cap : Nat) (hg : l.length ≤ 8 ∧ ∀ i, i < l.length → okK (nth l i) = true) : ∀ (m S : Nat) (t : Int) (w : World), Rd w w.heap.size 4 Tsk.cells A l → S ≤ m → S < 256 → 0 ≤ t → t ≤ 1000 →
    Calls Try.prog 59 #[.slice A l.length cap, .int .i64 S, .int .i64 t] w fun e w' => e = .returned (.int .i64 (rOf l m S t)) ∧ Below w.heap.size w w' := by
  obtain ⟨hl8, hg⟩ := hg
  have HG := Lib.hid hg
  clear hg
  intro m
  induction m with
  | zero =>
    intro S t w hr hm hS h0 h1
    obtain rfl : S = 0 := by omega
    go_enter Try.func59, Try.ntmps59
    go_wp2_with (go_at_call 63; refine (l1Most_c _ _ _).mono ?_; rintro e w' ⟨rfl, rfl⟩)
    go_ret
    exact ⟨reti (by simp [rOf, endR]), Below.refl _ _⟩
  | succ m ih =>
    intro S t w hr hm hS h0 h1
    have IH := Lib.hid ih
    clear ih
    by_cases hz : S = 0
    · subst hz
      go_enter Try.func59, Try.ntmps59
      go_wp2_with (go_at_call 63; refine (l1Most_c _ _ _).mono ?_; rintro e w' ⟨rfl, rfl⟩)
      go_ret
      exact ⟨reti (by simp [rOf, endR]), Below.refl _ _⟩
    have hz' : ((S : Int) == 0) = false := by simp [hz]
    have HR := Lib.hid (show rOf l (m + 1) S t = bestTo (fun i => if S.testBit i = true then (if stp (jobs l) i t < 0 then -1 else rOf l m (S - 2 ^ i) (stp (jobs l) i t)) else -1) l.length by
      rw [rOf, endR, if_neg hz]; rfl)
    generalize hgg : (fun i => if S.testBit i = true then (if stp (jobs l) i t < 0 then -1 else rOf l m (S - 2 ^ i) (stp (jobs l) i t)) else (-1 : Int)) = g at HR
    have HGg := Lib.hid hgg
    clear hgg
    go_enter Try.func59, Try.ntmps59
    go_wp2_with fail
    go_loopw [7, 8, 9, 10] (fun b i _ _ wr => ∃ k : Nat, k ≤ l.length ∧ i = .int .i64 k ∧ b = .int .i64 (bestTo g k) ∧ Below w.heap.size w wr) (fun _ i _ _ _ => l.length - (intOf i).toNat)
    case atStart => exact ⟨0, Nat.zero_le _, rfl, rfl, Below.refl _ _⟩
    case round =>
      obtain ⟨k, hk, rfl, rfl, hbel⟩ := hrel
      have HB := Lib.hid hbel
      have z1 := hbel.size
      by_cases hlt : k < l.length
      · obtain ⟨b, off, rfl, hb1, hc0, hc1, hc2, hc3⟩ := Tsk.rd (hr.below hbel (Nat.le_refl _)) hlt
        clear hbel
        have hba := bit_and ⟨S, hS⟩ ⟨k, by omega⟩
        simp only at hba
        obtain ⟨⟨e1, e2⟩, ⟨e3, e4⟩, ⟨e5, e6⟩, ⟨e7, e8⟩⟩ := okK_true.1 (HG.out k hlt)
        have l1 : b < wr.heap.size := by omega
        have i1 : (0 : Int) ≤ (k : Int) := by omega
        have i2 : (k : Int) < l.length := by omega
        rcases hbt : S.testBit k with _ | _
        · rw [hbt] at hba
          have H := Lib.hid (bestTo_no (g := g) (k := k) (x := -1) (by rw [← HGg.out]; simp [hbt]) (by omega))
          clear hbt
          go_wp2_with fail
          go_roundw
          case rel => exact ⟨k + 1, by omega, by go_num, by rw [H.out], HB.out⟩
          case measure => simp [intOf]; omega
        · rw [hbt] at hba
          have hge := Nat.ge_two_pow_of_testBit hbt
          have hpos := two_pos k
          by_cases hq : max t (nth l k).f + (nth l k).d - 1 ≤ (nth l k).u
          · have HS := Lib.hid (show stp (jobs l) k t = max t (nth l k).f + (nth l k).d by unfold stp jobs; rw [if_pos hq])
            have hgk : g k = rOf l m (S - 2 ^ k) (max t (nth l k).f + (nth l k).d) := by
              rw [← HGg.out]; simp only [hbt, if_true]; rw [HS.out, if_neg (by omega)]
            have HGk := Lib.hid hgk
            have hsub := sub_bit ⟨S, hS⟩ ⟨k, by omega⟩ hbt
            simp only at hsub
            clear hbt hgk
            have s1 : IntKind.i64.wrap (max t (nth l k).f + (nth l k).d) = max t (nth l k).f + (nth l k).d := IntWalk.i64_in _ (by omega)
            have s2 : IntKind.i64.wrap (max t (nth l k).f + (nth l k).d - 1) = max t (nth l k).f + (nth l k).d - 1 := IntWalk.i64_in _ (by omega)
            have hq' : ¬ (nth l k).u < max t (nth l k).f + (nth l k).d - 1 := by omega
            go_wp2_with (go_at_call 63; refine (l1Most_c _ _ _).mono ?_; rintro e w' ⟨rfl, rfl⟩)
            refine wp_region_mem (by kernel_rfl) (by kernel_rfl) ?_
            repeat (go_big_quiet_step (fail))
            refine wpQuiet_nil ?_
            intro _ hw'
            obtain ⟨⟨wq, hbq⟩, hw''⟩ := hw'
            obtain rfl := hw''.symm
            obtain ⟨hcq, hfq, hzq⟩ := bcell hbq
            try simp [Nat.add_one_le_iff] at hzq
            clear s1 s2
            have HQ := Lib.hid (show Below w.heap.size w wq from (HB.out.trans (Below.mono (B := wr.heap.size) (by repeat (first | (with_reducible exact Below.refl _ _) | ((with_reducible refine alloc_ ?_ ?_); (focus (first | exact Nat.le_refl _ | (simp; done) | (simp; omega) | omega))) | ((with_reducible refine set_ ?_ ?_); (focus (first | exact Nat.le_refl _ | (simp; done) | (simp; omega) | omega))) | (with_reducible refine Below.drew ?_) | ((with_reducible refine after_ ?_ (by assumption) ?_); (rotate_left; (focus (first | exact Nat.le_refl _ | (simp; done) | (simp; omega) | omega)))))) z1)))
            go_wp2_with fail
            refine (IH.out (S - 2 ^ k) _ _ ((hr.below HQ.out (Nat.le_refl _)).mono HQ.out.size) (by omega) (by omega) (by omega) (by omega)).mono ?_
            rintro e w2 ⟨rfl, hb2⟩
            rw [← HGk.out]
            have HB2 := Lib.hid (HQ.out.trans (hb2.mono HQ.out.size))
            clear hb2 hsub hba
            by_cases c1 : 0 ≤ g k
            · by_cases c2 : bestTo g k < 0
              · have H := Lib.hid (bestTo_yes (g := g) (k := k) rfl ⟨c1, .inl c2⟩)
                go_wp2_with fail
                go_roundw
                case rel => exact ⟨k + 1, by omega, by go_num, by rw [H.out], HB2.out⟩
                case measure => simp [intOf]; omega
              · have c2' : decide (bestTo g k < 0) = false := decide_eq_false c2
                by_cases c3 : g k < bestTo g k
                · have H := Lib.hid (bestTo_yes (g := g) (k := k) rfl ⟨c1, .inr c3⟩)
                  go_wp2_with fail
                  go_roundw
                  case rel => exact ⟨k + 1, by omega, by go_num, by rw [H.out], HB2.out⟩
                  case measure => simp [intOf]; omega
                · have H := Lib.hid (bestTo_no (g := g) (k := k) rfl (by omega))
                  go_wp2_with fail
                  go_roundw
                  case rel => exact ⟨k + 1, by omega, by go_num, by rw [H.out], HB2.out⟩
                  case measure => simp [intOf]; omega
            · have H := Lib.hid (bestTo_no (g := g) (k := k) rfl (by omega))
              go_wp2_with fail
              go_roundw
              case rel => exact ⟨k + 1, by omega, by go_num, by rw [H.out], HB2.out⟩
              case measure => simp [intOf]; omega
          · have HS := Lib.hid (show stp (jobs l) k t = -1 by unfold stp jobs; rw [if_neg hq])
            have H := Lib.hid (bestTo_no (g := g) (k := k) (x := -1) (by rw [← HGg.out]; simp only [hbt, if_true]; rw [HS.out]; simp) (by omega))
            have s1 : IntKind.i64.wrap (max t (nth l k).f + (nth l k).d) = max t (nth l k).f + (nth l k).d := IntWalk.i64_in _ (by omega)
            have s2 : IntKind.i64.wrap (max t (nth l k).f + (nth l k).d - 1) = max t (nth l k).f + (nth l k).d - 1 := IntWalk.i64_in _ (by omega)
            clear hbt
            go_wp2_with (go_at_call 63; refine (l1Most_c _ _ _).mono ?_; rintro e w' ⟨rfl, rfl⟩)
            refine wp_region_mem (by kernel_rfl) (by kernel_rfl) ?_
            repeat (go_big_quiet_step (fail))
            refine wpQuiet_nil ?_
            intro _ hw'
            obtain ⟨⟨wq, hbq⟩, hw''⟩ := hw'
            obtain rfl := hw''.symm
            obtain ⟨hcq, hfq, hzq⟩ := bcell hbq
            try simp [Nat.add_one_le_iff] at hzq
            clear s1 s2
            go_wp2_with fail
            go_roundw
            case rel => exact ⟨k + 1, by omega, by go_num, by rw [H.out], (HB.out.trans (Below.mono (B := wr.heap.size) (by repeat (first | (with_reducible exact Below.refl _ _) | ((with_reducible refine alloc_ ?_ ?_); (focus (first | exact Nat.le_refl _ | (simp; done) | (simp; omega) | omega))) | ((with_reducible refine set_ ?_ ?_); (focus (first | exact Nat.le_refl _ | (simp; done) | (simp; omega) | omega))) | (with_reducible refine Below.drew ?_) | ((with_reducible refine after_ ?_ (by assumption) ?_); (rotate_left; (focus (first | exact Nat.le_refl _ | (simp; done) | (simp; omega) | omega)))))) z1))⟩
            case measure => simp [intOf]; omega
      · obtain rfl : k = l.length := by omega
        clear hbel
        go_wp2_with fail
        go_ret
        exact ⟨reti HR.out.symm, HB.out⟩
theorem bestTo_le {g : Nat → Int} {B : Int} (hB : -1 ≤ B) : ∀ {n : Nat}, (∀ i, i < n → g i ≤ B) → bestTo g n ≤ B
  | 0, _ => hB
  | k + 1, h => by
    have ih := bestTo_le hB (n := k) fun i hi => h i (by omega)
    rw [bestTo]; split
    · exact h k (by omega)
    · exact ih
theorem bestTo_ge {g : Nat → Int} : ∀ n : Nat, -1 ≤ bestTo g n
  | 0 => Int.le_refl _
  | k + 1 => by
    have ih := bestTo_ge (g := g) k
    rw [bestTo]; split
    · next h => omega
    · exact ih
def eOf (l : List Tsk) (S : Nat) : Int := endE (jobs l) l.length S S
def eStep (l : List Tsk) (S i : Nat) : Int := if S.testBit i = true then (if eOf l (S - 2 ^ i) < 0 then -1 else stp (jobs l) i (eOf l (S - 2 ^ i))) else -1
theorem eOf_zero (l : List Tsk) : eOf l 0 = 0 := rfl
theorem eOf_step (l : List Tsk) {S : Nat} (h : S ≠ 0) : eOf l S = bestTo (eStep l S) l.length := by
  obtain ⟨m, rfl⟩ : ∃ m, S = m + 1 := ⟨S - 1, by omega⟩
  rw [eOf, endE, if_neg h]
  refine bestTo_congr fun i _ => ?_
  have := two_pos i
  unfold eStep eOf
  rw [endE_fuel m (m + 1 - 2 ^ i) (m + 1 - 2 ^ i) (by omega) (Nat.le_refl _)]
theorem eOf_bd {l : List Tsk} (hg : ∀ i, i < l.length → okK (nth l i) = true) (S : Nat) : -1 ≤ eOf l S ∧ eOf l S ≤ 401 := by
  by_cases h : S = 0
  · subst h; rw [eOf_zero]; omega
  · rw [eOf_step l h]
    refine ⟨bestTo_ge _, bestTo_le (by omega) fun i hi => ?_⟩
    obtain ⟨_, _, _, ⟨e7, e8⟩⟩ := okK_true.1 (hg i hi)
    unfold eStep stp jobs
    split
    · split
      · omega
      · split <;> (simp only at *; omega)
    · omega
theorem andNot_yes : ∀ S : Fin 256, ∀ k : Fin 8, S.val.testBit k.val = true → bits BinOp.andNot IntKind.i64 (S.val : Int) (wrap64 (2 ^ k.val)) = ((S.val - 2 ^ k.val : Nat) : Int) := by decide +kernel
theorem andNot_no : ∀ S : Fin 256, ∀ k : Fin 8, S.val.testBit k.val = false → bits BinOp.andNot IntKind.i64 (S.val : Int) (wrap64 (2 ^ k.val)) = (S.val : Int) := by decide +kernel
theorem pow_wrap : ∀ k : Fin 9, wrap64 (2 ^ k.val) = ((2 ^ k.val : Nat) : Int) := by decide +kernel
set_option maxHeartbeats 1600000 in
theorem earliestEnd_c (l : List Tsk) (A : Option Addr) (cap : Nat) (w : World) (hr : Rd w w.heap.size 4 Tsk.cells A l) (hg : l.length ≤ 8 ∧ ∀ i, i < l.length → okK (nth l i) = true) :
    Calls Try.prog 58 #[.slice A l.length cap] w fun e w' => e = .returned (.tuple #[.int .i64 (eOf l (2 ^ l.length - 1)), .bool (decide (0 ≤ eOf l (2 ^ l.length - 1)))]) ∧ Below w.heap.size w w' := by
  obtain ⟨hl8, hg⟩ := hg
  have HG := Lib.hid hg
  have HEb := Lib.hid (eOf_bd hg)
  clear hg
  have hpw := pow_wrap ⟨l.length, by omega⟩
  simp only at hpw
  have hN8 : 2 ^ l.length ≤ 2 ^ 8 := Nat.pow_le_pow_right (by omega) hl8
  have hN1 := two_pos l.length
  obtain ⟨N, hN⟩ : ∃ N, 2 ^ l.length = N := ⟨_, rfl⟩
  rw [hN] at hpw hN8 hN1 ⊢
  have HN := Lib.hid hN
  clear hN
  have hmk := run_make_row' (P := Try.prog) 35 3 (.int .i64 0) 8 Try.underlying35 info_int rfl .i64 .i64 N (by omega) (by omega)
  go_enter Try.func58, Try.ntmps58
  go_wp2_with fail
  have HA0 := Lib.hid (Arr.made w N _ rfl)
  have HB0 := Lib.hid (show Below w.heap.size w (w.alloc (.cells (madeCells #[.int .i64 0] N) 3)) from (by repeat (first | (with_reducible exact Below.refl _ _) | ((with_reducible refine alloc_ ?_ ?_); (focus (first | exact Nat.le_refl _ | (simp; done) | (simp; omega) | omega))) | ((with_reducible refine set_ ?_ ?_); (focus (first | exact Nat.le_refl _ | (simp; done) | (simp; omega) | omega))) | (with_reducible refine Below.drew ?_) | ((with_reducible refine after_ ?_ (by assumption) ?_); (rotate_left; (focus (first | exact Nat.le_refl _ | (simp; done) | (simp; omega) | omega)))))))
  clear hmk hpw
  go_loopw [5, 6, 7, 8, 9, 27] (fun s _ _ _ _ _ wr => ∃ (S : Nat) (o : List Int), 1 ≤ S ∧ S ≤ N ∧ s = .int .i64 S ∧ o.length = N ∧ (∀ j, j < S → nth o j = eOf l j) ∧ Arr wr w.heap.size o ∧ Below w.heap.size w wr) (fun s _ _ _ _ _ _ => N - (intOf s).toNat)
  case atStart => exact ⟨1, List.replicate N 0, Nat.le_refl _, by omega, rfl, by simp, fun j hj => by
    obtain rfl : j = 0 := by omega
    rw [nth_eq (by simp; omega), List.getElem_replicate, eOf_zero], HA0.out, HB0.out⟩
  case round =>
    obtain ⟨S, o, hS1, hSN, rfl, hlen, hval, harr, hbel⟩ := hrel
    have HB := Lib.hid hbel
    have HA := Lib.hid harr
    have HL := Lib.hid hlen
    have HV := Lib.hid hval
    have z1 := hbel.size
    clear hlen hval
    by_cases hlt : S < N
    · have hc := harr.cell (show S < o.length by have := HL.out; omega)
      have hz := harr.frozen S
      have HS := Lib.hid (show Arr (wr.setCell ⟨w.heap.size, S, none⟩ (.int .i64 (-1))) w.heap.size (o.set S (-1)) from HA.out.set S (-1))
      have HB2 := Lib.hid (HB.out.setCell (p := ⟨w.heap.size, S, none⟩) (Nat.le_refl _) (.int .i64 (-1)))
      have HE := Lib.hid (eOf_step l (show S ≠ 0 by omega))
      have hS8 : S < 256 := by omega
      clear hbel harr
      go_wp2_with fail
      clear hc hz
      go_loopw [6, 7, 8, 9, 27] (fun _ _ _ _ i wr => ∃ (k : Nat) (o' : List Int), k ≤ l.length ∧ i = .int .i64 k ∧ o'.length = N ∧ (∀ j, j < S → nth o' j = eOf l j) ∧ nth o' S = bestTo (eStep l S) k ∧ Arr wr w.heap.size o' ∧ Below w.heap.size w wr) (fun _ _ _ _ i _ => l.length - (intOf i).toNat)
      case atStart => exact ⟨0, o.set S (-1), Nat.zero_le _, rfl, by rw [List.length_set]; exact HL.out, fun j hj => by
        rw [nth_setI (by have := HL.out; omega), if_neg (by omega)]; exact HV.out j hj, by rw [nth_setI (by have := HL.out; omega), if_pos rfl]; rfl, HS.out, HB2.out⟩
      case round =>
        obtain ⟨k, o', hk, rfl, hlen, hval, hbest, harr, hbel⟩ := hrel
        have HBi := Lib.hid hbel
        have HAi := Lib.hid harr
        have HLi := Lib.hid hlen
        have HVi := Lib.hid hval
        have HT := Lib.hid hbest
        have z2 := hbel.size
        clear hval hlen
        by_cases hlk : k < l.length
        · obtain ⟨b, off, rfl, hb1, hc0, hc1, hc2, hc3⟩ := Tsk.rd (hr.below hbel (Nat.le_refl _)) hlk
          obtain ⟨⟨e1, e2⟩, ⟨e3, e4⟩, ⟨e5, e6⟩, ⟨e7, e8⟩⟩ := okK_true.1 (HG.out k hlk)
          have l1 : b < wr.heap.size := by omega
          have l2 := harr.lt
          have l3 : w.heap.size ≠ wr.heap.size := by omega
          have hcS := harr.cell (show S < o'.length by have := HLi.out; omega)
          rw [hbest] at hcS
          rcases hbt : S.testBit k with _ | _
          · have han := andNot_no ⟨S, hS8⟩ ⟨k, by omega⟩ hbt
            simp only at han
            have H := Lib.hid (bestTo_no (g := eStep l S) (k := k) (x := -1) (by simp [eStep, hbt]) (by omega))
            clear hbt hbel harr hbest hcS
            go_wp2_with fail
            go_roundw
            case rel => exact ⟨k + 1, o', by omega, by go_num, HLi.out, HVi.out, by rw [H.out]; exact HT.out, HAi.out.carry (by repeat (first | (with_reducible exact Below.refl _ _) | ((with_reducible refine alloc_ ?_ ?_); (focus (first | exact Nat.le_refl _ | (simp; done) | (simp; omega) | omega))) | ((with_reducible refine set_ ?_ ?_); (focus (first | exact Nat.le_refl _ | (simp; done) | (simp; omega) | omega))) | (with_reducible refine Below.drew ?_) | ((with_reducible refine after_ ?_ (by assumption) ?_); (rotate_left; (focus (first | exact Nat.le_refl _ | (simp; done) | (simp; omega) | omega)))))), HBi.out.trans (Below.mono (B := wr.heap.size) (by repeat (first | (with_reducible exact Below.refl _ _) | ((with_reducible refine alloc_ ?_ ?_); (focus (first | exact Nat.le_refl _ | (simp; done) | (simp; omega) | omega))) | ((with_reducible refine set_ ?_ ?_); (focus (first | exact Nat.le_refl _ | (simp; done) | (simp; omega) | omega))) | (with_reducible refine Below.drew ?_) | ((with_reducible refine after_ ?_ (by assumption) ?_); (rotate_left; (focus (first | exact Nat.le_refl _ | (simp; done) | (simp; omega) | omega)))))) z2)⟩
            case measure => simp [intOf]; omega
          · have han := andNot_yes ⟨S, hS8⟩ ⟨k, by omega⟩ hbt
            simp only at han
            have hge := Nat.ge_two_pow_of_testBit hbt
            have hpos := two_pos k
            obtain ⟨R, hR⟩ : ∃ R, S - 2 ^ k = R := ⟨_, rfl⟩
            have hRS : R < S := by omega
            rw [hR] at han
            have hcR := harr.cell (show R < o'.length by have := HLi.out; omega)
            rw [HVi.out R hRS] at hcR
            have hne : ((R : Int) == (S : Int)) = false := by simp; omega
            have hRN : (R : Int) < N := by omega
            have hR0 : (0 : Int) ≤ R := by omega
            have hSN' : (S : Int) < N := by omega
            obtain ⟨b1, b2⟩ := HEb.out R
            have HStep := Lib.hid (show eStep l S k = if eOf l R < 0 then -1 else stp (jobs l) k (eOf l R) by unfold eStep; rw [if_pos hbt, hR])
            have hz := harr.frozen S
            clear hbt hbel harr hbest hR hge
            by_cases hneg : eOf l R < 0
            · have H := Lib.hid (bestTo_no (g := eStep l S) (k := k) (x := -1) (by rw [HStep.out, if_pos hneg]) (by omega))
              go_wp2_with fail
              go_roundw
              case rel => exact ⟨k + 1, o', by omega, by go_num, HLi.out, HVi.out, by rw [H.out]; exact HT.out, HAi.out.carry (by repeat (first | (with_reducible exact Below.refl _ _) | ((with_reducible refine alloc_ ?_ ?_); (focus (first | exact Nat.le_refl _ | (simp; done) | (simp; omega) | omega))) | ((with_reducible refine set_ ?_ ?_); (focus (first | exact Nat.le_refl _ | (simp; done) | (simp; omega) | omega))) | (with_reducible refine Below.drew ?_) | ((with_reducible refine after_ ?_ (by assumption) ?_); (rotate_left; (focus (first | exact Nat.le_refl _ | (simp; done) | (simp; omega) | omega)))))), HBi.out.trans (Below.mono (B := wr.heap.size) (by repeat (first | (with_reducible exact Below.refl _ _) | ((with_reducible refine alloc_ ?_ ?_); (focus (first | exact Nat.le_refl _ | (simp; done) | (simp; omega) | omega))) | ((with_reducible refine set_ ?_ ?_); (focus (first | exact Nat.le_refl _ | (simp; done) | (simp; omega) | omega))) | (with_reducible refine Below.drew ?_) | ((with_reducible refine after_ ?_ (by assumption) ?_); (rotate_left; (focus (first | exact Nat.le_refl _ | (simp; done) | (simp; omega) | omega)))))) z2)⟩
              case measure => simp [intOf]; omega
            have s1 : IntKind.i64.wrap (max (eOf l R) (nth l k).f + (nth l k).d) = max (eOf l R) (nth l k).f + (nth l k).d := IntWalk.i64_in _ (by omega)
            have hneg' : decide (eOf l R < 0) = false := decide_eq_false hneg
            go_wp2_with fail
            refine wp_region_mem (by kernel_rfl) (by kernel_rfl) ?_
            repeat (go_big_quiet_step (fail))
            refine wpQuiet_nil ?_
            intro _ hw'
            obtain ⟨⟨wq, hbq⟩, hw''⟩ := hw'
            obtain rfl := hw''.symm
            obtain ⟨hcq, hfq, hzq⟩ := bcell hbq
            try simp [Nat.add_one_le_iff] at hzq
            clear s1
            have HQ := Lib.hid (show Below wr.heap.size wr wq from (by repeat (first | (with_reducible exact Below.refl _ _) | ((with_reducible refine alloc_ ?_ ?_); (focus (first | exact Nat.le_refl _ | (simp; done) | (simp; omega) | omega))) | ((with_reducible refine set_ ?_ ?_); (focus (first | exact Nat.le_refl _ | (simp; done) | (simp; omega) | omega))) | (with_reducible refine Below.drew ?_) | ((with_reducible refine after_ ?_ (by assumption) ?_); (rotate_left; (focus (first | exact Nat.le_refl _ | (simp; done) | (simp; omega) | omega)))))))
            obtain ⟨E, hE⟩ : ∃ E, max (eOf l R) (nth l k).f + (nth l k).d = E := ⟨_, rfl⟩
            have hEb : 0 ≤ E ∧ E ≤ 1000 := by omega
            have HEE := Lib.hid hE
            rw [hE]
            clear hE hneg'
            by_cases c0 : E - 1 ≤ (nth l k).u
            case neg =>
              have H := Lib.hid (bestTo_no (g := eStep l S) (k := k) (x := -1) (by rw [HStep.out, if_neg (by omega), stp, if_neg (by have := HEE.out; simp only [jobs]; omega)]) (by omega))
              have c0' : decide (E - 1 ≤ (nth l k).u) = false := decide_eq_false c0
              go_wp2_with fail
              go_roundw
              case rel => exact ⟨k + 1, o', by omega, by go_num, HLi.out, HVi.out, by rw [H.out]; exact HT.out, HAi.out.carry HQ.out, HBi.out.trans (HQ.out.mono z2)⟩
              case measure => simp [intOf]; omega
            have hst : eStep l S k = E := by rw [HStep.out, if_neg (by omega), stp, if_pos (by have := HEE.out; simp only [jobs]; omega)]; exact HEE.out
            have Hst := Lib.hid hst
            clear hst
            by_cases c1 : bestTo (eStep l S) k < 0 ∨ E < bestTo (eStep l S) k
            · have H := Lib.hid (bestTo_yes (g := eStep l S) (k := k) Hst.out ⟨hEb.1, c1⟩)
              have hzq := (HAi.out.carry HQ.out).frozen S
              by_cases c2 : bestTo (eStep l S) k < 0
              · go_wp2_with fail
                go_roundw
                case rel => exact ⟨k + 1, o'.set S E, by omega, by go_num, by rw [List.length_set]; exact HLi.out, fun j hj => by
                  rw [nth_setI (by have := HLi.out; omega), if_neg (by omega)]; exact HVi.out j hj, by rw [nth_setI (by have := HLi.out; omega), if_pos rfl, H.out], (HAi.out.carry HQ.out).set S E, HBi.out.trans ((HQ.out.mono z2).setCell (p := ⟨w.heap.size, S, none⟩) (Nat.le_refl _) _)⟩
                case measure => simp [intOf]; omega
              · have c2' : decide (bestTo (eStep l S) k < 0) = false := decide_eq_false c2
                have c3 : E < bestTo (eStep l S) k := by omega
                clear c1
                go_wp2_with fail
                go_roundw
                case rel => exact ⟨k + 1, o'.set S E, by omega, by go_num, by rw [List.length_set]; exact HLi.out, fun j hj => by
                  rw [nth_setI (by have := HLi.out; omega), if_neg (by omega)]; exact HVi.out j hj, by rw [nth_setI (by have := HLi.out; omega), if_pos rfl, H.out], (HAi.out.carry HQ.out).set S E, HBi.out.trans ((HQ.out.mono z2).setCell (p := ⟨w.heap.size, S, none⟩) (Nat.le_refl _) _)⟩
                case measure => simp [intOf]; omega
            · have H := Lib.hid (bestTo_no (g := eStep l S) (k := k) Hst.out (by omega))
              have c2' : decide (bestTo (eStep l S) k < 0) = false := decide_eq_false (by omega)
              have c3' : decide (E < bestTo (eStep l S) k) = false := decide_eq_false (by omega)
              clear c1
              go_wp2_with fail
              go_roundw
              case rel => exact ⟨k + 1, o', by omega, by go_num, HLi.out, HVi.out, by rw [H.out]; exact HT.out, HAi.out.carry HQ.out, HBi.out.trans (HQ.out.mono z2)⟩
              case measure => simp [intOf]; omega
        · obtain rfl : k = l.length := by omega
          clear hbel harr hbest
          go_wp2_with fail
          go_roundw
          case rel => exact ⟨S + 1, o', by omega, by omega, by go_num, HLi.out, fun j hj => by
            by_cases e : j = S
            · subst e; rw [HE.out]; exact HT.out
            · exact HVi.out j (by omega), HAi.out, HBi.out⟩
          case measure => simp [intOf]; omega
    · obtain rfl : S = N := by omega
      have hcN := harr.cell (show S - 1 < o.length by have := HL.out; omega)
      rw [HV.out (S - 1) (by omega)] at hcN
      obtain ⟨Q, rfl⟩ : ∃ Q, S = Q + 1 := ⟨S - 1, by omega⟩
      rw [Nat.add_sub_cancel] at hcN
      have wq := wrapNat (show Q ≤ 9000000 by omega)
      have i3 : (0 : Int) ≤ (Q : Int) := by omega
      have i4 : (Q : Int) < (Q : Int) + 1 := by omega
      clear hbel harr
      go_wp2_with fail
      go_ret2
      exact ⟨rfl, HB.out⟩
end Go.Proofs.Ytokddcnkfeimkaa
