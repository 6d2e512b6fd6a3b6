/- The program's LeastCabins returns the plain least number; no conditions but the length. -/
import Derived.Test.YtalabohacedgnaaPackSpec
namespace Go.Proofs.Ytalabohacedgnaa
open Go.RowKit

theorem bits_and_i64_nat (a b : Nat) (ha : a < 1000000) (hb : b < 1000000) : bits .and .i64 (a : Int) (b : Int) = ((a &&& b : Nat) : Int) := by
  have hx : a &&& b ≤ a := Nat.and_le_left
  have h1 : (BitVec.ofInt 64 (a : Int)).toNat = a := by
    rw [BitVec.ofInt_natCast, BitVec.toNat_ofNat]; exact Nat.mod_eq_of_lt (by omega)
  have h2 : (BitVec.ofInt 64 (b : Int)).toNat = b := by
    rw [BitVec.ofInt_natCast, BitVec.toNat_ofNat]; exact Nat.mod_eq_of_lt (by omega)
  show IntKind.i64.wrap ((BitVec.ofInt 64 (a : Int) &&& BitVec.ofInt 64 (b : Int)).toNat : Int) = _
  rw [BitVec.toNat_and, h1, h2, IntKind.wrap_i64]
  omega
theorem bit_one : ∀ S : Fin 256, ∀ k : Fin 8, bits BinOp.and IntKind.i64 ((S.val : Int) / 2 ^ k.val) 1 = if S.val.testBit k.val = true then 1 else 0 := by decide +kernel
theorem pow_wrap : ∀ k : Fin 9, wrap64 (2 ^ k.val) = ((2 ^ k.val : Nat) : Int) := by decide +kernel
def sizeTo (l : List Gro) (p k : Nat) : Int := sumIf (zOf l) (fun i => p.testBit i) k
theorem sizeTo_bd {l : List Gro} (hz : ∀ i, i < l.length → 1 ≤ (nth l i).s ∧ (nth l i).s ≤ 8) (p : Nat) : ∀ k, k ≤ l.length → 0 ≤ sizeTo l p k ∧ sizeTo l p k ≤ 8 * k
  | 0, _ => by simp [sizeTo, sumIf]
  | k + 1, hk => by
    have ih := sizeTo_bd hz p k (by omega)
    have h1 := hz k (by omega)
    have e : sizeTo l p (k + 1) = sizeTo l p k + (if p.testBit k = true then zOf l k else 0) := rfl
    rw [e, zOf_at (show k < l.length by omega)]
    split <;> omega
theorem sizeTo_yes {l : List Gro} {p k : Nat} (hk : k < l.length) (h : p.testBit k = true) : sizeTo l p (k + 1) = sizeTo l p k + (nth l k).s := by
  show sumIf _ _ _ + _ = _
  rw [if_pos h, zOf_at hk]; rfl
theorem sizeTo_no {l : List Gro} {p k : Nat} (h : p.testBit k = false) : sizeTo l p (k + 1) = sizeTo l p k := by
  show sumIf _ _ _ + _ = _
  rw [if_neg (by simp [h]), Int.add_zero]; rfl
/-- v is the least number of cabins for the set j. -/
def OptI (l : List Gro) (s : Int) (j : Nat) (v : Int) : Prop := ∃ m : Nat, v = m ∧ m ≤ l.length ∧ Opt (zOf l) l.length s j m
/-- What holds inside the round of a set, when all its parts above p have been looked at. -/
structure Rnd (l : List Gro) (s : Int) (S p : Nat) (o : List Int) : Prop where
  len : o.length = 2 ^ l.length
  old : ∀ j, j < S → OptI l s j (nth o j)
  hit : nth o S = l.length ∨ ∃ q, Sub q S ∧ 0 < q ∧ sizeB (zOf l) l.length q ≤ s ∧ nth o S = nth o (S - q) + 1
  all : ∀ q, Sub q S → p < q → sizeB (zOf l) l.length q ≤ s → nth o S ≤ nth o (S - q) + 1
  lo : 0 ≤ nth o S
  hi : nth o S ≤ l.length
theorem sub_self (S : Nat) : Sub S S := fun _ h => h
theorem Rnd.start {l : List Gro} {s : Int} {S : Nat} {o : List Int} (hlen : o.length = 2 ^ l.length) (hS : S < 2 ^ l.length) (hold : ∀ j, j < S → OptI l s j (nth o j)) : Rnd l s S S (o.set S l.length) :=
  ⟨by rw [List.length_set]; exact hlen, fun j hj => by rw [nth_setI (by omega), if_neg (by omega)]; exact hold j hj, .inl (by rw [nth_setI (by omega), if_pos rfl]), fun q hq hlt _ => by
    have := (sub_le S q S (Nat.le_refl _) hq).1; omega, by rw [nth_setI (by omega), if_pos rfl]; omega, by rw [nth_setI (by omega), if_pos rfl]; omega⟩
theorem Rnd.next {l : List Gro} {s : Int} {S p : Nat} {o : List Int} (h : Rnd l s S p o) (hp : Sub p S) (h0 : 0 < p) (hq : sizeB (zOf l) l.length p ≤ s → nth o S ≤ nth o (S - p) + 1) : Rnd l s S ((p - 1) &&& S) o :=
  ⟨h.len, h.old, h.hit, fun q hqs hlt hs => by
    rcases Nat.lt_or_ge p q with h1 | h1
    · exact h.all q hqs h1 hs
    · by_cases e : q = p
      · subst e; exact hq hs
      · have := next_sub S q p S (Nat.le_refl _) hqs hp (by omega)
        omega, h.lo, h.hi⟩
theorem Rnd.put {l : List Gro} {s : Int} {S p : Nat} {o : List Int} (h : Rnd l s S p o) (hS : S < 2 ^ l.length) (hp : Sub p S) (h0 : 0 < p) (hs : sizeB (zOf l) l.length p ≤ s) : Rnd l s S ((p - 1) &&& S) (o.set S (min (nth o S) (nth o (S - p) + 1))) := by
  have hl := h.len
  have hle := (sub_le S p S (Nat.le_refl _) hp).1
  have hat : nth (o.set S (min (nth o S) (nth o (S - p) + 1))) S = min (nth o S) (nth o (S - p) + 1) := by rw [nth_setI (by omega), if_pos rfl]
  have hoff : ∀ j, j < S → nth (o.set S (min (nth o S) (nth o (S - p) + 1))) j = nth o j := fun j hj => by rw [nth_setI (by omega), if_neg (by omega)]
  obtain ⟨m, hm, hml, _⟩ := h.old (S - p) (by omega)
  have hlo := h.lo
  have hhi := h.hi
  refine Rnd.next ⟨by rw [List.length_set]; exact h.len, fun j hj => by rw [hoff j hj]; exact h.old j hj, ?_, fun q hqs hlt hqq => ?_, by rw [hat]; omega, by rw [hat]; omega⟩ hp h0 fun _ => ?_
  · rw [hat]
    by_cases c : nth o (S - p) + 1 < nth o S
    · exact .inr ⟨p, hp, h0, hs, by rw [hoff (S - p) (by omega)]; omega⟩
    · rcases h.hit with h1 | ⟨q, h1, h2, h3, h4⟩
      · exact .inl (by omega)
      · have := (sub_le S q S (Nat.le_refl _) h1).1
        exact .inr ⟨q, h1, h2, h3, by rw [hoff (S - q) (by omega)]; omega⟩
  · have h1 := h.all q hqs hlt hqq
    have := (sub_le S q S (Nat.le_refl _) hqs).1
    rw [hat, hoff (S - q) (by omega)]; omega
  · rw [hat, hoff (S - p) (by omega)]; omega
theorem Rnd.done {l : List Gro} {s : Int} {S : Nat} {o : List Int} (h : Rnd l s S 0 o) (hz : ∀ i, 0 ≤ zOf l i) (hs : ∀ i, i < l.length → zOf l i ≤ s) (hS0 : 0 < S) (hS : S < 2 ^ l.length) : ∀ j, j < S + 1 → OptI l s j (nth o j) := fun j hj => by
  by_cases e : j = S
  · subst e
    have hlo := h.lo
    have hhi := h.hi
    have hL : ∀ i, i < j → nth o i = ((nth o i).toNat : Int) ∧ Opt (zOf l) l.length s i (nth o i).toNat := fun i hi => by
      obtain ⟨m, hm, _, ho⟩ := h.old i hi
      rw [hm]; simpa using ho
    refine ⟨(nth o j).toNat, by omega, by omega, opt_round (L := fun i => (nth o i).toNat) hz hs hS0 hS (fun i hi => (hL i hi).2) ?_ (fun q h1 h2 h3 => ?_) (by omega)⟩
    · rcases h.hit with h1 | ⟨q, h1, h2, h3, h4⟩
      · exact .inl (by omega)
      · have := (sub_le j q j (Nat.le_refl _) h1).1
        have := (hL (j - q) (by omega)).1
        exact .inr ⟨q, h1, h2, h3, by omega⟩
    · have h4 := h.all q h1 (by omega) h3
      have := (sub_le j q j (Nat.le_refl _) h1).1
      have := (hL (j - q) (by omega)).1
      omega
  · exact h.old j (by omega)
theorem OptI.zero {l : List Gro} {s : Int} : OptI l s 0 0 := ⟨0, rfl, Nat.zero_le _, opt_zero⟩
theorem OptI.full {l : List Gro} {s v : Int} (h : OptI l s (2 ^ l.length - 1) v) (hz : ∀ i, 0 ≤ zOf l i) (hs : ∀ i, i < l.length → zOf l i ≤ s) (h0 : 0 ≤ s) : v = (leastN (zOf l) l.length s : Int) := by
  obtain ⟨m, rfl, _, ho⟩ := h
  rw [opt_full hz h0 hs ho]
set_option maxHeartbeats 3200000 in
set_option maxRecDepth 100000 in
theorem implLeastCabins_c (l : List Gro) (A : Option Addr) (cap : Nat) (s : Int) (w : World) (hl : l.length ≤ 1048576) (hr : Rd w w.heap.size 2 Gro.cells A l) :
    Calls Try.prog 26 #[.slice A l.length cap, .int .i64 s] w fun e w' => e = .returned (.tuple #[.int .i64 (leastP l s).1, .bool (leastP l s).2]) ∧ Below w.heap.size w w' := by
  rcases hg : fitG l s with _ | _
  · have H := Lib.hid (show leastP l s = (0, false) by simp [leastP, hg])
    go_enter Try.func26, Try.ntmps26
    go_wp2_with fail
    refine (fits_c l _ _ _ _ hl hr).mono ?_
    rintro e w1 ⟨rfl, hb1⟩
    go_wp2_with fail
    go_ret2
    exact ⟨retp2 H.out rfl rfl, hb1⟩
  by_cases h8 : l.length ≤ 8
  case neg =>
    have H := Lib.hid (show leastP l s = (0, false) by simp [leastP, h8])
    go_enter Try.func26, Try.ntmps26
    go_wp2_with fail
    refine (fits_c l _ _ _ _ hl hr).mono ?_
    rintro e w1 ⟨rfl, hb1⟩
    go_wp2_with fail
    go_ret2
    exact ⟨retp2 H.out rfl rfl, hb1⟩
  have H := Lib.hid (show leastP l s = ((leastN (zOf l) l.length s : Int), true) by simp [leastP, hg, h8])
  obtain ⟨⟨_, hz⟩, ⟨s1, s2⟩, hs⟩ := fitG_true hg
  have HZ := Lib.hid hz
  have HZs := Lib.hid (show ∀ i, i < l.length → zOf l i ≤ s from fun i hi => by rw [zOf_at hi]; exact hs i hi)
  have HZ0 := Lib.hid (zOf_ge hz)
  have hpw := pow_wrap ⟨l.length, by omega⟩
  simp only at hpw
  have hN8 : 2 ^ l.length ≤ 2 ^ 8 := Nat.pow_le_pow_right (by omega) h8
  have hN1 := Nat.two_pow_pos l.length
  obtain ⟨N, hN⟩ : ∃ N, 2 ^ l.length = N := ⟨_, rfl⟩
  rw [hN] at hpw hN8 hN1
  have HN := Lib.hid hN
  have hmk := run_make_row' (P := Try.prog) 37 3 (.int .i64 0) 8 Try.underlying37 info_int rfl .i64 .i64 N (by omega) (by omega)
  clear hz hs hN
  go_enter Try.func26, Try.ntmps26
  go_wp2_with fail
  refine (fits_c l _ _ _ _ hl hr).mono ?_
  rintro e w1 ⟨rfl, hb1⟩
  have HB1 := Lib.hid hb1
  have hr1 := hr.carry hb1
  rw [hg]
  clear hb1 hg hr
  go_wp2_with fail
  have HA0 := Lib.hid (Arr.made w1 N _ rfl)
  have HB0 := Lib.hid (show Below w1.heap.size w1 (w1.alloc (.cells (madeCells #[.int .i64 0] N) 3)) from (by repeat (first | (with_reducible exact Below.refl _ _) | ((with_reducible refine alloc_ ?_ ?_); (focus (first | exact Nat.le_refl _ | (simp; done) | (simp; omega) | omega))) | ((with_reducible refine set_ ?_ ?_); (focus (first | exact Nat.le_refl _ | (simp; done) | (simp; omega) | omega))) | (with_reducible refine Below.drew ?_) | ((with_reducible refine after_ ?_ (by assumption) ?_); (rotate_left; (focus (first | exact Nat.le_refl _ | (simp; done) | (simp; omega) | omega)))))))
  clear hmk hpw
  go_loopw [8, 9, 10, 11, 12, 46] (fun S _ _ _ _ _ wr => ∃ (k : Nat) (o : List Int), 1 ≤ k ∧ k ≤ N ∧ S = .int .i64 k ∧ o.length = N ∧ (∀ j, j < k → OptI l s j (nth o j)) ∧ Arr wr w1.heap.size o ∧ Below w1.heap.size w1 wr) (fun S _ _ _ _ _ _ => N - (intOf S).toNat)
  case atStart => exact ⟨1, List.replicate N 0, Nat.le_refl _, by omega, rfl, by simp, fun j hj => by
    obtain rfl : j = 0 := by omega
    rw [nth_eq (by simp; omega), List.getElem_replicate]; exact OptI.zero, HA0.out, HB0.out⟩
  case round =>
    obtain ⟨S, o, hS1, hSN, rfl, hlen, hval, harr, hbel⟩ := hrel
    have HB := Lib.hid hbel
    have HA := Lib.hid harr
    have HL := Lib.hid hlen
    have HV := Lib.hid hval
    have z1 := hbel.size
    clear hlen hval
    by_cases hlt : S < N
    · have hc := harr.cell (show S < o.length by have := HL.out; omega)
      have hz := harr.frozen S
      have HS := Lib.hid (HA.out.set S l.length)
      have HB2 := Lib.hid (HB.out.setCell (p := ⟨w1.heap.size, S, none⟩) (Nat.le_refl _) (.int .i64 l.length))
      have HR0 := Lib.hid (Rnd.start (l := l) (s := s) (S := S) (o := o) (by rw [HN.out]; exact HL.out) (by rw [HN.out]; exact hlt) HV.out)
      have hS8 : S < 256 := by omega
      clear hbel harr
      go_wp2_with fail
      clear hc hz
      go_loopw [9, 10, 11, 12, 46] (fun v _ _ _ _ wr => ∃ (p : Nat) (o' : List Int), p ≤ S ∧ v = .int .i64 p ∧ Sub p S ∧ Rnd l s S p o' ∧ Arr wr w1.heap.size o' ∧ Below w1.heap.size w1 wr) (fun v _ _ _ _ _ => (intOf v).toNat)
      case atStart => exact ⟨S, _, Nat.le_refl _, rfl, sub_self S, HR0.out, HS.out, HB2.out⟩
      case round =>
        obtain ⟨p, o', hpS, rfl, hsub, hrnd, harr, hbel⟩ := hrel
        have HBi := Lib.hid hbel
        have HAi := Lib.hid harr
        have HSu := Lib.hid hsub
        have HRi := Lib.hid hrnd
        have z2 := hbel.size
        clear hsub hrnd
        by_cases hp0 : 0 < p
        · have hp8 : p < 256 := by omega
          clear hbel harr
          go_wp2_with fail
          go_loopw [10, 11, 12, 46] (fun v _ _ i wr => ∃ k : Nat, k ≤ l.length ∧ i = .int .i64 k ∧ v = .int .i64 (sizeTo l p k) ∧ Arr wr w1.heap.size o' ∧ Below w1.heap.size w1 wr) (fun _ _ _ i _ => l.length - (intOf i).toNat)
          case atStart => exact ⟨0, Nat.zero_le _, rfl, rfl, HAi.out, HBi.out⟩
          case round =>
            obtain ⟨k, hk, rfl, rfl, harr, hbel⟩ := hrel
            have HBk := Lib.hid hbel
            have HAk := Lib.hid harr
            have z3 := hbel.size
            obtain ⟨d1, d2⟩ := sizeTo_bd HZ.out p k hk
            by_cases hkl : k < l.length
            · obtain ⟨b, off, rfl, hb1, hc0, hc1⟩ := Gro.rd (hr1.below hbel (Nat.le_refl _)) hkl
              obtain ⟨e1, e2⟩ := HZ.out k hkl
              have hbo := bit_one ⟨p, hp8⟩ ⟨k, by omega⟩
              simp only at hbo
              have l1 : b < wr.heap.size := by omega
              have l2 := harr.lt
              clear hbel harr
              rcases hbt : p.testBit k with _ | _
              · rw [hbt, if_neg (by simp)] at hbo
                have HY := Lib.hid (sizeTo_no (l := l) hbt)
                clear hbt
                go_wp2_with fail
                go_roundw
                case rel => exact ⟨k + 1, by omega, by go_num, by rw [HY.out], HAk.out.carry (by repeat (first | (with_reducible exact Below.refl _ _) | ((with_reducible refine alloc_ ?_ ?_); (focus (first | exact Nat.le_refl _ | (simp; done) | (simp; omega) | omega))) | ((with_reducible refine set_ ?_ ?_); (focus (first | exact Nat.le_refl _ | (simp; done) | (simp; omega) | omega))) | (with_reducible refine Below.drew ?_) | ((with_reducible refine after_ ?_ (by assumption) ?_); (rotate_left; (focus (first | exact Nat.le_refl _ | (simp; done) | (simp; omega) | omega)))))), HBk.out.trans (Below.mono (B := wr.heap.size) (by repeat (first | (with_reducible exact Below.refl _ _) | ((with_reducible refine alloc_ ?_ ?_); (focus (first | exact Nat.le_refl _ | (simp; done) | (simp; omega) | omega))) | ((with_reducible refine set_ ?_ ?_); (focus (first | exact Nat.le_refl _ | (simp; done) | (simp; omega) | omega))) | (with_reducible refine Below.drew ?_) | ((with_reducible refine after_ ?_ (by assumption) ?_); (rotate_left; (focus (first | exact Nat.le_refl _ | (simp; done) | (simp; omega) | omega)))))) z3)⟩
                case measure => simp [intOf]; omega
              · rw [hbt, if_pos rfl] at hbo
                have HY := Lib.hid (sizeTo_yes hkl hbt)
                clear hbt
                go_wp2_with fail
                go_roundw
                case rel => exact ⟨k + 1, by omega, by go_num, by rw [HY.out], HAk.out.carry (by repeat (first | (with_reducible exact Below.refl _ _) | ((with_reducible refine alloc_ ?_ ?_); (focus (first | exact Nat.le_refl _ | (simp; done) | (simp; omega) | omega))) | ((with_reducible refine set_ ?_ ?_); (focus (first | exact Nat.le_refl _ | (simp; done) | (simp; omega) | omega))) | (with_reducible refine Below.drew ?_) | ((with_reducible refine after_ ?_ (by assumption) ?_); (rotate_left; (focus (first | exact Nat.le_refl _ | (simp; done) | (simp; omega) | omega)))))), HBk.out.trans (Below.mono (B := wr.heap.size) (by repeat (first | (with_reducible exact Below.refl _ _) | ((with_reducible refine alloc_ ?_ ?_); (focus (first | exact Nat.le_refl _ | (simp; done) | (simp; omega) | omega))) | ((with_reducible refine set_ ?_ ?_); (focus (first | exact Nat.le_refl _ | (simp; done) | (simp; omega) | omega))) | (with_reducible refine Below.drew ?_) | ((with_reducible refine after_ ?_ (by assumption) ?_); (rotate_left; (focus (first | exact Nat.le_refl _ | (simp; done) | (simp; omega) | omega)))))) z3)⟩
                case measure => simp [intOf]; omega
            · obtain rfl : k = l.length := by omega
              have hle := (sub_le S p S (Nat.le_refl _) HSu.out).1
              have hol := HRi.out.len.trans HN.out
              have hlo := HRi.out.lo
              have hhi := HRi.out.hi
              have hbA := bits_and_i64_nat (p - 1) S (by omega) (by omega)
              rw [show ((p - 1 : Nat) : Int) = (p : Int) - 1 by omega] at hbA
              obtain ⟨M, hM⟩ : ∃ M, (p - 1) &&& S = M := ⟨_, rfl⟩
              have hMlt := next_lt (S := S) hp0
              rw [hM] at hbA hMlt
              have HMs := Lib.hid (by rw [← hM]; exact and_sub (p - 1) S : Sub M S)
              have HM := Lib.hid hM
              by_cases hq : sizeTo l p l.length ≤ s
              · have HY := Lib.hid (show Rnd l s S M (o'.set S (min (nth o' S) (nth o' (S - p) + 1))) by rw [← hM]; exact HRi.out.put (by rw [HN.out]; exact hlt) HSu.out hp0 hq)
                obtain ⟨R, hR⟩ : ∃ R, S - p = R := ⟨_, rfl⟩
                rw [hR] at HY
                obtain ⟨m, hm, hml, _⟩ := HRi.out.old R (by omega)
                clear hM hol
                go_wp2_with fail
                refine wp_region_tail 15 (by kernel_rfl) (by kernel_rfl) fun wd hbd hcd => ?_
                have HBd := Lib.hid (HBk.out.trans (hbd.mono z3))
                have HAd := Lib.hid (HAk.out.carry hbd)
                have hcS := HAd.out.cell (show S < o'.length by have := HRi.out.len.trans HN.out; omega)
                have hcR := HAd.out.cell (show R < o'.length by have := HRi.out.len.trans HN.out; omega)
                have hz := HAd.out.frozen S
                have u1 : (S : Int) - (p : Int) = (R : Int) := by omega
                have u2 : IntKind.i64.wrap (R : Int) = R := IntWalk.i64_in _ (by omega)
                have u3 : IntKind.i64.wrap (nth o' R + 1) = nth o' R + 1 := IntWalk.i64_in _ (by omega)
                have u4 : (R : Int) < N := by omega
                have u5 : (0 : Int) ≤ (R : Int) := by omega
                have u6 : (S : Int) < N := by omega
                clear hbd hcd hbel harr hR hm
                simp only [List.take_succ_cons, List.take_zero, List.drop_succ_cons, List.drop_zero]
                repeat still_step
                refine wpStill_nil ?_
                clear u1 u2 u3 u4 u5 u6 hcR
                go_wp2_with fail
                go_roundw
                case rel => exact ⟨M, _, by omega, rfl, HMs.out, HY.out, HAd.out.set S _, HBd.out.setCell (p := ⟨w1.heap.size, S, none⟩) (Nat.le_refl _) _⟩
                case measure => simp [intOf]; omega
              · have HY := Lib.hid (show Rnd l s S M o' by rw [← hM]; exact HRi.out.next HSu.out hp0 fun h => absurd h hq)
                clear hbel harr hM hol
                go_wp2_with fail
                go_roundw
                case rel => exact ⟨M, _, by omega, rfl, HMs.out, HY.out, HAk.out, HBk.out⟩
                case measure => simp [intOf]; omega
        · obtain rfl : p = 0 := by omega
          have HD := Lib.hid (HRi.out.done HZ0.out HZs.out (by omega) (by rw [HN.out]; exact hlt))
          have HLi := Lib.hid (HRi.out.len.trans HN.out)
          clear hbel harr
          go_wp2_with fail
          go_roundw
          case rel => exact ⟨S + 1, o', by omega, by omega, by go_num, HLi.out, HD.out, HAi.out, HBi.out⟩
          case measure => simp [intOf]; omega
    · obtain rfl : S = N := by omega
      have hcN := harr.cell (show S - 1 < o.length by have := HL.out; omega)
      have HF := Lib.hid ((HV.out (S - 1) (by omega)))
      obtain ⟨Q, rfl⟩ : ∃ Q, S = Q + 1 := ⟨S - 1, by omega⟩
      rw [Nat.add_sub_cancel] at hcN HF
      have HE := Lib.hid (OptI.full (by rw [HN.out]; exact HF.out) HZ0.out HZs.out (by omega))
      have wq : IntKind.i64.wrap (Q : Int) = Q := IntWalk.i64_in _ (by omega)
      have i3 : (0 : Int) ≤ (Q : Int) := by omega
      have i4 : (Q : Int) < (Q : Int) + 1 := by omega
      have HBE := Lib.hid (HB1.out.trans (HB.out.mono HB1.out.size))
      clear hbel harr
      go_wp2_with fail
      go_ret2
      exact ⟨retp2 H.out HE.out rfl, HBE.out⟩
end Go.Proofs.Ytalabohacedgnaa
