/- The reference reads a numeral: one Lean function; no conditions but the length. -/
import Derived.Test.YtpchcblialkpcaaDoorParseI
import Derived.Deep.DeepCutAuto
namespace Go.Proofs.YtpchcblialkpcaaDoor
open Go.RowKit

def negL (s : List UInt8) : Bool := decide (1 < s.length) && decide (s[0]? = some 45)
def bodyL (s : List UInt8) : List UInt8 := if negL s then s.drop 1 else s
theorem num_body {n : Int} {s : List UInt8} (h : num n = s) : bodyL s = Lib.decDigits n.natAbs ∧ (negL s = true ↔ n < 0) := by
  subst h
  by_cases hn : n < 0
  · have e : num n = 45 :: Lib.decDigits n.natAbs := by unfold num Lib.itoa; rw [if_pos hn]
    have h1 : 0 < (Lib.decDigits n.natAbs).length := List.length_pos_iff.2 (dec_ne _)
    have hneg : negL (num n) = true := by rw [e]; simp [negL]; omega
    exact ⟨by rw [bodyL, hneg, e]; rfl, ⟨fun _ => hn, fun _ => hneg⟩⟩
  · have e : num n = Lib.decDigits n.natAbs := by unfold num Lib.itoa; rw [if_neg hn, show n.toNat = n.natAbs by omega]
    have hneg : negL (num n) = false := by
      rw [e]
      rcases hd : Lib.decDigits n.natAbs with _ | ⟨b, l⟩
      · exact absurd hd (dec_ne _)
      · have hb := dec_digit n.natAbs b (by rw [hd]; exact List.mem_cons_self)
        have : b ≠ 45 := fun e => by subst e; simp at hb
        simp [negL, this]
    refine ⟨by rw [bodyL, hneg, e]; rfl, ⟨fun h => ?_, fun h => absurd h hn⟩⟩
    rw [hneg] at h; cases h
theorem read_len {s : List UInt8} (h : ¬ (1 ≤ (bodyL s).length ∧ (bodyL s).length ≤ 6)) : readI s = none := readI_none fun n h1 h2 e => h (by
  rw [(num_body e).1]
  exact ⟨List.length_pos_iff.2 (dec_ne _), dec_len6 (by omega)⟩)
theorem read_bad {s : List UInt8} {b : UInt8} (hb : b ∈ bodyL s) (h : b.toNat < 48 ∨ 57 < b.toNat) : readI s = none := readI_none fun n h1 h2 e => by
  rw [(num_body e).1] at hb
  have := dec_digit _ b hb
  omega
theorem read_val {s : List UInt8} {v : Nat} {m : Int} (hv : Lib.decFrom 0 (bodyL s) = some v) (h6 : v ≤ 999999) (hm : m = if negL s then -(v : Int) else v) : readI s = if num m = s then some m else none := by
  split
  · next h => rw [← h]; exact readI_num (by rw [hm]; split <;> omega) (by rw [hm]; split <;> omega)
  · next h =>
    refine readI_none fun n h1 h2 e => h ?_
    obtain ⟨e1, e2⟩ := num_body e
    rw [e1, decFrom_dec, Option.some.injEq] at hv
    rcases hneg : negL s with _ | _
    · have : ¬ n < 0 := fun hn => by rw [e2.2 hn] at hneg; cases hneg
      rw [hneg] at hm
      rw [hm, ← e]; congr 1; simp; omega
    · have := e2.1 hneg
      rw [hneg] at hm
      rw [hm, ← e]; congr 1; simp; omega
theorem val_step {s : ByteArray} {k v : Nat} (hk : k < s.size) (h : Lib.decFrom 0 (s.data.toList.take k) = some v) (h0 : 48 ≤ s[k].toNat) (h9 : s[k].toNat ≤ 57) :
    Lib.decFrom 0 (s.data.toList.take (k + 1)) = some (10 * v + (s[k].toNat - 48)) := by
  have hk' : k < s.data.toList.length := by simpa using hk
  rw [List.take_add_one, List.getElem?_eq_getElem hk', decFrom_app, h]
  have e : s.data.toList[k] = s[k] := rfl
  rw [e]
  simp only [Option.toList_some, Option.bind_some, Lib.decFrom]
  have hd : Lib.digitVal s[k] = some (s[k].toNat - 48) := by
    unfold Lib.digitVal
    rw [if_pos (by omega)]
  rw [hd]
  simp only [Option.some.injEq]
  omega
theorem neg_of {s : ByteArray} (h1 : 1 < s.size) : negL s.data.toList = decide (s[0] = 45) := by
  have h : s.data.toList[0]? = some s[0] := by
    have hk' : 0 < s.data.toList.length := by simp; omega
    rw [List.getElem?_eq_getElem hk']; rfl
  unfold negL
  rw [h, decide_eq_true (by simpa using h1), Bool.true_and]
  simp
theorem neg_short {s : ByteArray} (h1 : ¬ 1 < s.size) : negL s.data.toList = false := by
  unfold negL
  rw [decide_eq_false (by simpa using h1), Bool.false_and]
theorem cut_one (s : ByteArray) : s.extract 1 s.size = S (s.data.toList.drop 1) := by
  conv => lhs; rw [S_of s, S_size, S_cut]
  rw [List.take_of_length_le (by simp)]
set_option maxRecDepth 100000 in
set_option maxHeartbeats 2000000 in
theorem l1Read_c (s : ByteArray) (w : World) (hs : s.size ≤ 10000) : Calls Tryd.prog 32 #[.string s] w (IntP (parseP s.data.toList) w) := by
  obtain ⟨T, hT⟩ : ∃ T, S (bodyL s.data.toList) = T := ⟨_, rfl⟩
  have HTl := Lib.hid (show T.data.toList = bodyL s.data.toList by rw [← hT, S_data])
  have HT := Lib.hid hT
  clear hT
  go_enter Tryd.func32, Tryd.ntmps32
  go_upto_region 2 with fail
  go_cut [15] (fun v wx => v = .bool (negL s.data.toList) ∧ wx = w)
  case first => as_aux_lemma =>
    by_cases h1 : 1 < s.size
    · have HN := Lib.hid (neg_of h1)
      have h1' : (1 : Int) < s.size := by omega
      have hp : 0 < s.size := by omega
      by_cases h0 : s[0] = 45
      · have hq : s[0].toNat = 45 := by rw [h0]; rfl
        go_wp2_with fail
        go_meet
        exact ⟨by rw [HN.out]; simp [h0], rfl⟩
      · have hq : ¬ s[0].toNat = 45 := fun e => h0 (UInt8.toNat_inj.1 e)
        go_wp2_with fail
        go_meet
        exact ⟨by rw [HN.out]; simp [h0]; omega, rfl⟩
    · have HN := Lib.hid (neg_short h1)
      have h1' : ¬ (1 : Int) < s.size := by omega
      go_wp2_with fail
      go_meet
      exact ⟨by rw [HN.out], rfl⟩
  case rest => as_aux_lemma =>
    obtain ⟨rfl, rfl⟩ := hcut
    go_upto_if 15 with fail
    go_cut [4] (fun v wx => v = .string T ∧ wx = wc)
    case first => as_aux_lemma =>
      rcases hneg : negL s.data.toList with _ | _
      · have HE := Lib.hid (show s = T by rw [← HT.out, bodyL, hneg]; exact S_of s)
        go_wp2_with fail
        go_meet
        exact ⟨by rw [← HE.out], rfl⟩
      · have h1 : 1 < s.size := by
          rcases Nat.lt_or_ge 1 s.size with h | h
          · exact h
          · rw [neg_short (by omega)] at hneg; cases hneg
        have HE := Lib.hid (show s.extract 1 s.size = T by rw [← HT.out, bodyL, hneg, cut_one]; rfl)
        have i1 : (1 : Int) ≤ s.size := by omega
        go_wp2_with fail
        go_meet
        exact ⟨by rw [← HE.out], rfl⟩
    case rest => as_aux_lemma =>
      obtain ⟨rfl, rfl⟩ := hcut
      have hTs : T.size = (bodyL s.data.toList).length := by rw [← HTl.out]; simp
      rcases hl : inR T.size 1 6 with _ | _
      · have H := Lib.hid (show parseP s.data.toList = (0, false) by
          rw [parseP, read_len (fun h => by have := inR_true.2 (show (1 : Int) ≤ T.size ∧ (T.size : Int) ≤ 6 by omega); rw [hl] at this; cases this)])
        clear hTs
        go_wp2_with (go_at_call 33; refine (l1In_c _ _ _ _).mono ?_; rintro e w' ⟨rfl, rfl⟩)
        exact bodyPost_ret (v := .tuple #[.int .i64 0, .bool false]) (by simp [results, Tryd.results32, go_sem]) rfl ⟨retI H.out, Below.refl _ _⟩
      · have hl' := inR_true.1 hl
        have HTs := Lib.hid hTs
        clear hTs
        go_wp2_with (go_at_call 33; refine (l1In_c _ _ _ _).mono ?_; rintro e w' ⟨rfl, rfl⟩)
        go_loop [5, 6] (fun n i => ∃ k v : Nat, k ≤ T.size ∧ i = .int .i64 k ∧ n = .int .i64 v ∧ Lib.decFrom 0 (T.data.toList.take k) = some v ∧ v + 1 ≤ 10 ^ k) (fun _ i => T.size - (intOf i).toNat)
        case atStart => exact ⟨0, 0, Nat.zero_le _, rfl, rfl, rfl, by simp⟩
        case round =>
          obtain ⟨k, v, hk, rfl, rfl, hdec, hpow⟩ := hrel
          have hv6 : v ≤ 999999 := by
            have := Nat.pow_le_pow_right (show 0 < 10 by omega) (show k ≤ 6 by omega)
            omega
          by_cases hlt : k < T.size
          · have hmem : T[k] ∈ bodyL s.data.toList := by
              have hk' : k < T.data.toList.length := by simpa using hlt
              rw [← HTl.out]
              exact List.getElem_mem hk'
            have HM := Lib.hid hmem
            have HD := Lib.hid hdec
            have HPW := Lib.hid (show 10 * v + 9 + 1 ≤ 10 ^ (k + 1) by rw [Nat.pow_succ]; omega)
            have HVS := Lib.hid (val_step hlt hdec)
            clear hmem hdec hpow
            by_cases h0 : T[k].toNat < 48
            · have H := Lib.hid (show parseP s.data.toList = (0, false) by rw [parseP, read_bad HM.out (.inl h0)])
              go_wp2_with fail
              exact bodyPost_ret (v := .tuple #[.int .i64 0, .bool false]) (by simp [results, Tryd.results32, go_sem]) rfl ⟨retI H.out, Below.refl _ _⟩
            by_cases h9 : 57 < T[k].toNat
            · have H := Lib.hid (show parseP s.data.toList = (0, false) by rw [parseP, read_bad HM.out (.inr h9)])
              go_wp2_with fail
              exact bodyPost_ret (v := .tuple #[.int .i64 0, .bool false]) (by simp [results, Tryd.results32, go_sem]) rfl ⟨retI H.out, Below.refl _ _⟩
            · have HS := Lib.hid (HVS.out (by omega) (by omega))
              clear HVS
              obtain ⟨b, hb⟩ : ∃ b, T[k].toNat = b := ⟨_, rfl⟩
              rw [hb] at HS h0 h9
              obtain ⟨d, rfl⟩ : ∃ d, b = 48 + d := ⟨b - 48, by omega⟩
              have a2 : IntKind.i64.wrap (d : Int) = (d : Int) := IntWalk.i64_in _ (by omega)
              have a3 : IntKind.i64.wrap (10 * (v : Int)) = 10 * (v : Int) := IntWalk.i64_in _ (by omega)
              have a4 : IntKind.i64.wrap (10 * (v : Int) + d) = 10 * (v : Int) + d := IntWalk.i64_in _ (by omega)
              go_wp2_with fail
              go_round
              case rel => exact ⟨k + 1, 10 * v + d, by omega, by go_num, by congr 1; omega, by rw [HS.out]; congr 1; omega, by have := HPW.out; omega⟩
              case measure => simp [intOf]; omega
          · obtain rfl : k = T.size := by omega
            rw [List.take_of_length_le (by simp), HTl.out] at hdec
            obtain ⟨m, hm⟩ : ∃ m : Int, m = if negL s.data.toList then -(v : Int) else v := ⟨_, rfl⟩
            have HR := Lib.hid (read_val hdec hv6 hm)
            have HM := Lib.hid hm
            have hmb : -999999 ≤ m ∧ m ≤ 999999 := by rw [hm]; split <;> omega
            obtain ⟨t, ht⟩ : ∃ t, S (num m) = t := ⟨_, rfl⟩
            have HST := Lib.hid ht
            clear hdec hpow hm ht
            go_upto_if 50 with fail
            go_cut [5] (fun x wx => x = .int .i64 m ∧ wx = wc)
            case first => as_aux_lemma =>
              rcases hneg : negL s.data.toList with _ | _
              · have i1 : ¬ T.size < s.size := by rw [HTs.out, bodyL, hneg]; simp
                have HMv := Lib.hid (show m = v by rw [HM.out, hneg]; rfl)
                go_wp2_with fail
                go_meet
                exact ⟨by rw [HMv.out], rfl⟩
              · have i1 : T.size < s.size := by
                  have h1 : 1 < s.size := by
                    rcases Nat.lt_or_ge 1 s.size with h | h
                    · exact h
                    · rw [neg_short (by omega)] at hneg; cases hneg
                  rw [HTs.out, bodyL, hneg]; simp; omega
                have HMv := Lib.hid (show m = -(v : Int) by rw [HM.out, hneg]; rfl)
                have a1 : IntKind.i64.wrap (-(v : Int)) = -(v : Int) := IntWalk.i64_in _ (by omega)
                go_wp2_with fail
                go_meet
                exact ⟨by rw [HMv.out], rfl⟩
            case rest => as_aux_lemma =>
              obtain ⟨rfl, rfl⟩ := hcut
              by_cases hq : num m = s.data.toList
              · have H := Lib.hid (show parseP s.data.toList = (m, true) by rw [parseP, HR.out, if_pos hq])
                have HS := Lib.hid (show S (num m) = s by rw [hq]; exact (S_of s).symm)
                clear hq
                go_wp2_with fail
                refine (l1Num_c m _ (by omega) (by omega)).mono ?_
                rw [HS.out]
                rintro e w1 ⟨rfl, hb1⟩
                go_wp2_with fail
                exact bodyPost_ret (v := .tuple #[.int .i64 m, .bool true]) (by simp [results, Tryd.results32, go_sem]) rfl ⟨retI H.out, hb1⟩
              · have H := Lib.hid (show parseP s.data.toList = (0, false) by rw [parseP, HR.out, if_neg hq])
                have hts : ¬ t = s := fun e => hq (by rw [← S_data (num m), HST.out, e])
                have hts2 : (t.toList == s.toList) = false := by
                  rw [beq_eq_false_iff_ne]; intro e; exact hts (toList_inj e)
                clear hq
                go_wp2_with fail
                refine (l1Num_c m _ (by omega) (by omega)).mono ?_
                rw [HST.out]
                rintro e w1 ⟨rfl, hb1⟩
                go_wp2_with fail
                exact bodyPost_ret (v := .tuple #[.int .i64 0, .bool false]) (by simp [results, Tryd.results32, go_sem]) rfl ⟨retI H.out, hb1⟩
end Go.Proofs.YtpchcblialkpcaaDoor
