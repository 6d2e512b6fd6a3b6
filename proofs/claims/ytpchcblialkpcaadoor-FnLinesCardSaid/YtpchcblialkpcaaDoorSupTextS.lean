/- The text of a line as the reference writes it; no conditions but that the line is good. -/
import Derived.Test.YtpchcblialkpcaaDoorSupGood
import Derived.Test.YtpchcblialkpcaaDoorSupWays
namespace Go.Proofs.YtpchcblialkpcaaDoor
open Go.RowKit

theorem str_ofS {f : FuncId} {args : Array Value} {W : World} {l : List UInt8} {a : ByteArray} (h : Calls Tryd.prog f args W fun e w' => e = .returned (.string (S l)) ∧ Below W.heap.size W w') (ha : S l = a) :
    Calls Tryd.prog f args W fun e w' => e = .returned (.string a) ∧ Below W.heap.size W w' := by subst ha; exact h
theorem num_SS {n : Int} {a : ByteArray} (h0 : -1000000 ≤ n) (h1 : n ≤ 1000000) (h : S (num n) = a) : a.size ≤ 21 := by rw [← h, S_size]; exact num_len (by omega) (by omega)
/-- One more support is written. -/
theorem line_snoc : ∀ {q : List Sup} {x : Sup}, lineL (q ++ [x]) = if q = [] then supL x else lineL q ++ 32 :: supL x
  | [], x => rfl
  | [y], x => by simp [lineL]
  | y :: z :: r, x => by
    have := line_snoc (q := z :: r) (x := x)
    rw [if_neg (by simp)] at this ⊢
    show supL y ++ 32 :: lineL ((z :: r) ++ [x]) = _
    rw [this]
    simp [lineL]
set_option maxHeartbeats 4000000 in
theorem specLineText_c (l : List Sup) (A : Option Addr) (cap : Nat) (w : World) (hg : goodU l = true) (hr : Rd w w.heap.size 3 Sup.cells A l) :
    Calls Tryd.prog 27 #[.slice A l.length cap] w fun e w' => e = .returned (.string (S (lineL l))) ∧ Below w.heap.size w w' := by
  obtain ⟨g1, g2, _, _, _, g6, _⟩ := goodU_true hg
  have G6 := Lib.hid g6
  have HR := Lib.hid hr
  clear g6 hg hr
  go_enter Tryd.func27, Tryd.ntmps27
  go_wp2_with fail
  go_loopw [3, 4] (fun s i wr => ∃ k : Nat, k ≤ l.length ∧ i = .int .i64 k ∧ s = .string (S (lineL (l.take k))) ∧ Below w.heap.size w wr) (fun _ i _ => l.length - (intOf i).toNat)
  case atStart => exact ⟨0, Nat.zero_le _, rfl, rfl, Below.refl _ _⟩
  case round =>
    obtain ⟨k, hk, rfl, rfl, hbel⟩ := hrel
    have HB := Lib.hid hbel
    have zr := hbel.size
    by_cases hlt : k < l.length
    · obtain ⟨b, off, rfl, hb, c0, c1, c2⟩ := Sup.rd (HR.out.below hbel (Nat.le_refl _)) hlt
      obtain ⟨⟨a1, a2⟩, a3, a4⟩ := okU_true.1 (G6.out k hlt)
      have htk : l.take (k + 1) = l.take k ++ [nth l k] := by rw [List.take_succ_eq_append_getElem hlt, nth_eq hlt]
      have hln : (lineL (l.take k)).length ≤ 11 * k := by
        have h := line_len (l := l.take k) (fun i hi => by
          rw [List.length_take] at hi
          rw [nth_eq (by rw [List.length_take]; exact hi), List.getElem_take, ← nth_eq (by omega)]
          exact G6.out i (by omega))
        rw [List.length_take] at h
        omega
      obtain ⟨x, hx⟩ : ∃ x, nth l k = x := ⟨_, rfl⟩
      rw [hx] at c0 c1 c2 a1 a2 a3 a4 htk
      obtain ⟨sa, ha⟩ : ∃ a, S (num x.a) = a := ⟨_, rfl⟩
      obtain ⟨sh, hh⟩ : ∃ a, S (num x.h) = a := ⟨_, rfl⟩
      obtain ⟨s0, hs0⟩ : ∃ a, S (lineL (l.take k)) = a := ⟨_, rfl⟩
      have asz := num_SS (by omega) (by omega) ha
      have hsz := num_SS (by omega) (by omega) hh
      have ssz : s0.size ≤ 100 := by rw [← hs0, S_size]; omega
      have HA := Lib.hid ha
      have HH := Lib.hid hh
      have l1 : b < wr.heap.size := by omega
      have i1 : (k : Int) < l.length := by omega
      have i0 : (0 : Int) ≤ (k : Int) := by omega
      have HN1 := Lib.hid (fun W => str_ofS (l1Num_c x.a W (by omega) (by omega)) HA.out)
      have HN2 := Lib.hid (fun W => str_ofS (l1Num_c x.h W (by omega) (by omega)) HH.out)
      have HLT := Lib.hid (show lineL (l.take (k + 1)) = if l.take k = [] then supL x else lineL (l.take k) ++ 32 :: supL x by rw [htk, line_snoc])
      have HS0 := Lib.hid hs0
      rw [hs0]
      clear hbel ha hh hx hs0 htk hln
      have y1 : (9223372036854775807 < s0.size + 1) = False := by simp; omega
      have y2 : (9223372036854775807 < s0.size + 1 + 1) = False := by simp; omega
      have z1 : (9223372036854775807 < s0.size + 1 + sa.size) = False := by simp; omega
      have z2 : (9223372036854775807 < s0.size + 1 + sa.size + 1) = False := by simp; omega
      have z3 : (9223372036854775807 < s0.size + 1 + sa.size + 1 + sh.size) = False := by simp; omega
      have z4 : (9223372036854775807 < s0.size + 1 + 1 + sa.size) = False := by simp; omega
      have z5 : (9223372036854775807 < s0.size + 1 + 1 + sa.size + 1) = False := by simp; omega
      have z6 : (9223372036854775807 < s0.size + 1 + 1 + sa.size + 1 + sh.size) = False := by simp; omega
      rcases k with _ | k
      · have HLN := Lib.hid (show lineL (l.take (0 + 1)) = supL x by rw [HLT.out, if_pos (by simp)])
        have HSP := Lib.hid (show s0 = S [] by rw [← HS0.out]; rfl)
        simp only [Nat.zero_mul, Nat.add_zero] at c0 c1 c2
        rcases hs : x.s with _ | _
        · rw [hs] at c2
          have HEQ := Lib.hid (show s0 ++ (⟨#[84]⟩ : ByteArray) ++ sa ++ ⟨#[58]⟩ ++ sh = S (lineL (l.take (0 + 1))) by
            rw [← HA.out, ← HH.out, HLN.out]
            show s0 ++ S [84] ++ S (num x.a) ++ S [58] ++ S (num x.h) = _
            rw [HSP.out, S_app, S_app, S_app, S_app]
            simp [supL, hs])
          clear hs
          go_wp2_with fail
          refine wp_region_mem (by kernel_rfl) (by kernel_rfl) ?_
          repeat (go_big_quiet_step ((first | (go_at_call 38; with_reducible exact mem_of (HN1.out _)) | (go_at_call 38; with_reducible exact mem_of (HN2.out _)))))
          refine wpQuiet_nil ?_
          intro _ hw'
          obtain ⟨⟨wq, hbq⟩, hw''⟩ := hw'
          obtain rfl := hw''.symm
          obtain ⟨hcq, hfq, hzq⟩ := bcell hbq
          try simp [Nat.add_one_le_iff] at hzq
          have HBq := Lib.hid (HB.out.trans (hbq.mono zr))
          clear hcq hfq
          go_wp2_with fail
          go_roundw
          case rel => exact ⟨0 + 1, by omega, by go_num, by rw [← HEQ.out], HBq.out⟩
          case measure => simp [intOf]; omega
        · rw [hs] at c2
          have HEQ := Lib.hid (show s0 ++ (⟨#[83]⟩ : ByteArray) ++ sa ++ ⟨#[58]⟩ ++ sh = S (lineL (l.take (0 + 1))) by
            rw [← HA.out, ← HH.out, HLN.out]
            show s0 ++ S [83] ++ S (num x.a) ++ S [58] ++ S (num x.h) = _
            rw [HSP.out, S_app, S_app, S_app, S_app]
            simp [supL, hs])
          clear hs
          go_wp2_with fail
          refine wp_region_mem (by kernel_rfl) (by kernel_rfl) ?_
          repeat (go_big_quiet_step ((first | (go_at_call 38; with_reducible exact mem_of (HN1.out _)) | (go_at_call 38; with_reducible exact mem_of (HN2.out _)))))
          refine wpQuiet_nil ?_
          intro _ hw'
          obtain ⟨⟨wq, hbq⟩, hw''⟩ := hw'
          obtain rfl := hw''.symm
          obtain ⟨hcq, hfq, hzq⟩ := bcell hbq
          try simp [Nat.add_one_le_iff] at hzq
          have HBq := Lib.hid (HB.out.trans (hbq.mono zr))
          clear hcq hfq
          go_wp2_with fail
          go_roundw
          case rel => exact ⟨0 + 1, by omega, by go_num, by rw [← HEQ.out], HBq.out⟩
          case measure => simp [intOf]; omega
      · have HLN := Lib.hid (show lineL (l.take (k + 1 + 1)) = lineL (l.take (k + 1)) ++ 32 :: supL x by
          rw [HLT.out, if_neg (fun h => by have := congrArg List.length h; rw [List.length_take, List.length_nil] at this; omega)])
        have HSP := Lib.hid (show s0 ++ (⟨#[32]⟩ : ByteArray) = S (lineL (l.take (k + 1)) ++ [32]) by rw [← HS0.out, ← S_app]; rfl)
        have i5 : decide ((0 : Int) < (k : Int) + 1) = true := by first | (simp; done) | (simp; omega)
        rcases hs : x.s with _ | _
        · rw [hs] at c2
          have HEQ := Lib.hid (show (s0 ++ (⟨#[32]⟩ : ByteArray)) ++ (⟨#[84]⟩ : ByteArray) ++ sa ++ ⟨#[58]⟩ ++ sh = S (lineL (l.take (k + 1 + 1))) by
            rw [← HA.out, ← HH.out, HLN.out]
            show (s0 ++ (⟨#[32]⟩ : ByteArray)) ++ S [84] ++ S (num x.a) ++ S [58] ++ S (num x.h) = _
            rw [HSP.out, S_app, S_app, S_app, S_app]
            simp [supL, hs])
          clear hs
          go_wp2_with fail
          refine wp_region_mem (by kernel_rfl) (by kernel_rfl) ?_
          repeat (go_big_quiet_step ((first | (go_at_call 38; with_reducible exact mem_of (HN1.out _)) | (go_at_call 38; with_reducible exact mem_of (HN2.out _)))))
          refine wpQuiet_nil ?_
          intro _ hw'
          obtain ⟨⟨wq, hbq⟩, hw''⟩ := hw'
          obtain rfl := hw''.symm
          obtain ⟨hcq, hfq, hzq⟩ := bcell hbq
          try simp [Nat.add_one_le_iff] at hzq
          have HBq := Lib.hid (HB.out.trans (hbq.mono zr))
          clear hcq hfq
          go_wp2_with fail
          go_roundw
          case rel => exact ⟨k + 1 + 1, by omega, by go_num, by rw [← HEQ.out], HBq.out⟩
          case measure => simp [intOf]; omega
        · rw [hs] at c2
          have HEQ := Lib.hid (show (s0 ++ (⟨#[32]⟩ : ByteArray)) ++ (⟨#[83]⟩ : ByteArray) ++ sa ++ ⟨#[58]⟩ ++ sh = S (lineL (l.take (k + 1 + 1))) by
            rw [← HA.out, ← HH.out, HLN.out]
            show (s0 ++ (⟨#[32]⟩ : ByteArray)) ++ S [83] ++ S (num x.a) ++ S [58] ++ S (num x.h) = _
            rw [HSP.out, S_app, S_app, S_app, S_app]
            simp [supL, hs])
          clear hs
          go_wp2_with fail
          refine wp_region_mem (by kernel_rfl) (by kernel_rfl) ?_
          repeat (go_big_quiet_step ((first | (go_at_call 38; with_reducible exact mem_of (HN1.out _)) | (go_at_call 38; with_reducible exact mem_of (HN2.out _)))))
          refine wpQuiet_nil ?_
          intro _ hw'
          obtain ⟨⟨wq, hbq⟩, hw''⟩ := hw'
          obtain rfl := hw''.symm
          obtain ⟨hcq, hfq, hzq⟩ := bcell hbq
          try simp [Nat.add_one_le_iff] at hzq
          have HBq := Lib.hid (HB.out.trans (hbq.mono zr))
          clear hcq hfq
          go_wp2_with fail
          go_roundw
          case rel => exact ⟨k + 1 + 1, by omega, by go_num, by rw [← HEQ.out], HBq.out⟩
          case measure => simp [intOf]; omega
    · obtain rfl : k = l.length := by omega
      have HE := Lib.hid (show lineL (l.take l.length) = lineL l by rw [List.take_length])
      clear hbel
      go_wp2_with fail
      go_ret
      exact ⟨rets (by rw [HE.out]), HB.out⟩
end Go.Proofs.YtpchcblialkpcaaDoor
