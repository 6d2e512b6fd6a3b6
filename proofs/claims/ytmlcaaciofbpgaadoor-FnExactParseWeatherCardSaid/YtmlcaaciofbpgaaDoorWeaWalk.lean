/- Numbers read in texts: the program's readTenths, the reference's l17Digits; no conditions but the length and what the library's text lays. -/
import Derived.Test.YtmlcaaciofbpgaaDoorWeaRead
namespace Go.Proofs.YtmlcaaciofbpgaaDoor
open Go.RowKit

/-- The library's bound lies where its text lays it. -/
def MaxL (w : World) : Prop := 0 < w.heap.size ∧ ∃ m, w.cell? ⟨0, 0, none⟩ = some (.int .i64 m)
theorem MaxL.carry {w w' : World} (h : MaxL w) (hb : Below w.heap.size w w') : MaxL w' := ⟨Nat.lt_of_lt_of_le h.1 hb.size, by
  obtain ⟨m, hm⟩ := h.2
  exact ⟨m, (hb.cell (p := ⟨0, 0, none⟩) h.1).trans hm⟩⟩
theorem below_drewN (w : World) (n : Nat) : Below w.heap.size w (w.drewN n) := ⟨rfl, rfl, rfl, Nat.le_refl _, fun _ _ => rfl⟩
theorem parseP_bd (l : List UInt8) : -999999 ≤ (parseP l).1 ∧ (parseP l).1 ≤ 999999 := by
  unfold parseP
  rcases hr : readI l with _ | n
  · simp
  · obtain ⟨h1, h2, _⟩ := readI_some.1 hr
    exact ⟨h1, h2⟩
theorem readT_bd (l : List UInt8) : -999999 ≤ readT l ∧ readT l ≤ 999999 := by
  have := parseP_bd (trimN l)
  unfold readT
  split <;> omega
theorem int_of {f : FuncId} {args : Array Value} {W : World} {p : Int × Bool} {v : Int} (h : Calls Tryd.prog f args W (IntP p W)) (hv : p.1 = v) :
    Calls Tryd.prog f args W fun e w' => ∃ b, e = .returned (.tuple #[.int .i64 v, .bool b]) ∧ Below W.heap.size W w' := by
  subst hv; exact h.mono fun e w' ⟨he, hb⟩ => ⟨_, he, hb⟩
theorem rep_len (l : List UInt8) : (Lib.replace l [46] [] 1).length ≤ l.length := by
  unfold Lib.replace
  rw [if_neg (by simp)]
  generalize Lib.replaceNum l [46] 1 = k
  induction k generalizing l with
  | zero => simp [Lib.replaceK]
  | succ k ih =>
    rw [Lib.replaceK]
    split
    · exact Nat.le_refl _
    · have := ih (l.drop ((Lib.index l [46]).toNat + 1))
      simp only [List.length_append, List.length_take, List.length_nil, List.length_cons, Nat.zero_add] at this ⊢
      simp only [List.length_drop] at this
      omega
set_option maxHeartbeats 1000000 in
theorem readTenths_c (s : ByteArray) (w : World) (hs : s.size ≤ 2000000) (hT : Tab w) (hE : Err w) (hM : MaxL w) : Calls Tryd.prog 13 #[.string s] w fun e w' => e = .returned (.int .i64 (readT s.data.toList)) ∧ Below w.heap.size w w' := by
  obtain ⟨t1, h1⟩ : ∃ t1, (⟨(Lib.trimPrefix s.data.toList [45]).toArray⟩ : ByteArray) = t1 := ⟨_, rfl⟩
  have d1 : t1.data.toList = Lib.trimPrefix s.data.toList [45] := by rw [← h1]
  have s1 : t1.size ≤ 2000000 := by
    have : t1.size = t1.data.toList.length := by simp
    rw [this, d1]
    unfold Lib.trimPrefix
    split
    · simp; omega
    · simp; omega
  obtain ⟨t2, h2⟩ : ∃ t2, (⟨(Lib.replace t1.data.toList [46] [] 1).toArray⟩ : ByteArray) = t2 := ⟨_, rfl⟩
  have d2 : t2.data.toList = Lib.replace t1.data.toList [46] [] 1 := by rw [← h2]
  have s2 : t2.size ≤ 2000000 := by
    have e1 : t2.size = t2.data.toList.length := by simp
    have e2 := rep_len t1.data.toList
    have e3 : t1.data.toList.length = t1.size := by simp
    rw [e1, d2]; omega
  obtain ⟨t3, h3⟩ : ∃ t3, (⟨(Lib.trimLeftB t2.data.toList 48).toArray⟩ : ByteArray) = t3 := ⟨_, rfl⟩
  have d3 : t3.data.toList = Lib.trimLeftB t2.data.toList 48 := by rw [← h3]
  have s3 : t3.size ≤ 2000000 := by
    have e1 : t3.size = t3.data.toList.length := by simp
    have e2 : (Lib.trimLeftB t2.data.toList 48).length ≤ t2.data.toList.length := (List.dropWhile_sublist _).length_le
    have e3 : t2.data.toList.length = t2.size := by simp
    rw [e1, d3]; omega
  have hd3 : t3.data.toList = trimN s.data.toList := by rw [d3, d2, d1]; rfl
  obtain ⟨v, hv⟩ : ∃ v, (parseP t3.data.toList).1 = v := ⟨_, rfl⟩
  have hbd := parseP_bd t3.data.toList
  rw [hv] at hbd
  obtain ⟨b, hb⟩ : ∃ b, Lib.hasPrefix s.data.toList [45] = b := ⟨_, rfl⟩
  have HRT := Lib.hid (show readT s.data.toList = if b then -v else v by rw [readT, ← hd3, hv, hb])
  have HV := Lib.hid hv
  have HP := Lib.hid hb
  have H1 := Lib.hid h1
  have H2 := Lib.hid h2
  have H3 := Lib.hid h3
  have HT := Lib.hid hT
  have HE := Lib.hid hE
  obtain ⟨mx, hmx⟩ := hM.2
  have HMX := Lib.hid hmx
  have HC := Lib.hid (show ∀ W, W = w → Calls Tryd.prog 27 #[.string t1, .string ⟨#[46]⟩, .string ⟨#[]⟩, .int .i64 1] W fun e w' => e = .returned (.string t2) ∧ Below W.heap.size W w' from fun W hW => by
    subst hW
    have h := Tryd.strings_Replace t1 ⟨#[46]⟩ ⟨#[]⟩ 1 mx W (by omega) hmx (by decide) (by
      have : (⟨#[]⟩ : ByteArray).size = 0 := rfl
      rw [this]; omega)
    rw [← h2]; exact h)
  clear h1 h2 h3 d1 d2 d3 hd3 hv hb hT hE hM hmx
  have a1 : IntKind.i64.wrap (-v) = -v := IntWalk.i64_in _ (by omega)
  go_enter Tryd.func13, Tryd.ntmps13
  go_wp2_with fail
  refine (Tryd.strings_TrimPrefix s ⟨#[45]⟩ _).mono ?_
  rw [show Lib.trimPrefix s.data.toList (⟨#[45]⟩ : ByteArray).data.toList = Lib.trimPrefix s.data.toList [45] from rfl, H1.out]
  rintro e w' ⟨rfl, rfl⟩
  go_wp2_with fail
  refine (HC.out _ rfl).mono ?_
  rintro e w1 ⟨rfl, hb1⟩
  have HB1 := Lib.hid hb1
  have HT1 := Lib.hid (HT.out.carry hb1)
  have HE1 := Lib.hid (HE.out.carry hb1)
  clear hb1
  go_wp2_with fail
  refine (Tryd.strings_TrimLeft_one t2 48 (by decide) _).mono ?_
  rw [H3.out]
  rintro e w' ⟨rfl, rfl⟩
  go_wp2_with fail
  refine (int_of (implParseInt_c t3 _ (by omega) HT1.out HE1.out) HV.out).mono ?_
  rintro e w2 ⟨bb, rfl, hb2⟩
  have HB2 := Lib.hid (HB1.out.trans (hb2.mono HB1.out.size))
  clear hb2
  go_wp2_with fail
  refine (Tryd.strings_HasPrefix s ⟨#[45]⟩ _).mono ?_
  rw [show Lib.hasPrefix s.data.toList (⟨#[45]⟩ : ByteArray).data.toList = Lib.hasPrefix s.data.toList [45] from rfl, HP.out]
  rintro e w' ⟨rfl, rfl⟩
  rcases b with _ | _
  · go_wp2_with fail
    go_ret
    exact ⟨by rw [HRT.out]; rfl, HB2.out⟩
  · go_wp2_with fail
    go_ret
    exact ⟨by rw [HRT.out]; rfl, HB2.out⟩
theorem digF_bd : ∀ (l : List UInt8) (a k : Nat), a < 10 ^ k → digF a l < 10 ^ (k + l.length)
  | [], a, k, h => h
  | b :: l, a, k, h => by
    have : digF a (b :: l) = digF (if 48 ≤ b.toNat ∧ b.toNat ≤ 57 then 10 * a + (b.toNat - 48) else a) l := rfl
    rw [this]
    have h2 := digF_bd l (if 48 ≤ b.toNat ∧ b.toNat ≤ 57 then 10 * a + (b.toNat - 48) else a) (k + 1) (by
      rw [Nat.pow_succ]
      split <;> omega)
    rwa [show k + 1 + l.length = k + (b :: l).length by simp; omega] at h2
theorem dig_step {s : ByteArray} {k : Nat} (hk : k < s.size) : digF 0 (s.data.toList.take (k + 1)) = if 48 ≤ s[k].toNat ∧ s[k].toNat ≤ 57 then 10 * digF 0 (s.data.toList.take k) + (s[k].toNat - 48) else digF 0 (s.data.toList.take k) := by
  have hk' : k < s.data.toList.length := by simpa using hk
  rw [List.take_add_one, List.getElem?_eq_getElem hk', digF_app]
  rfl
theorem digL_bd (l : List UInt8) : -1000000000 ≤ digL l ∧ digL l ≤ 1000000000 := by
  have h := digF_bd (l.take 9) 0 0 (by omega)
  have h2 : 10 ^ (0 + (l.take 9).length) ≤ 10 ^ 9 := Nat.pow_le_pow_right (by omega) (by simp; omega)
  unfold digL
  split <;> omega
theorem dig_cap {s : ByteArray} {k : Nat} (h : k ≤ 9) : digF 0 (s.data.toList.take k) < 1000000000 := by
  have h1 := digF_bd (s.data.toList.take k) 0 0 (by omega)
  have h2 : 10 ^ (0 + (s.data.toList.take k).length) ≤ 10 ^ 9 := Nat.pow_le_pow_right (by omega) (by simp; omega)
  omega
theorem head_of {s : ByteArray} (h : 0 < s.size) : s.data.toList[0]? = some s[0] := by
  have hk' : 0 < s.data.toList.length := by simpa using h
  rw [List.getElem?_eq_getElem hk']; rfl
theorem head_none {s : ByteArray} (h : ¬ 0 < s.size) : s.data.toList[0]? = none := by
  refine List.getElem?_eq_none ?_
  have e : s.data.toList.length = s.size := by simp
  omega
set_option maxHeartbeats 2000000 in
theorem l17Digits_c (s : ByteArray) (w : World) : Calls Tryd.prog 8 #[.string s] w fun e w' => e = .returned (.int .i64 (digL s.data.toList)) ∧ w = w' := by
  obtain ⟨D, hD⟩ : ∃ D, digL s.data.toList = D := ⟨_, rfl⟩
  rw [hD]
  have HD := Lib.hid hD
  clear hD
  go_enter Tryd.func8, Tryd.ntmps8
  go_wp2_with fail
  go_loop [3, 4] (fun n i => ∃ k : Nat, k ≤ s.size ∧ k ≤ 9 ∧ i = .int .i64 k ∧ n = .int .i64 (digF 0 (s.data.toList.take k))) (fun _ i => 9 - (intOf i).toNat)
  case atStart => exact ⟨0, Nat.zero_le _, by omega, rfl, rfl⟩
  case round =>
    obtain ⟨k, hk, hk9, rfl, rfl⟩ := hrel
    have hcap := dig_cap (s := s) hk9
    by_cases hlt : k < s.size
    · by_cases h9 : k < 9
      · have HS := Lib.hid (dig_step hlt)
        have hb := s[k].toNat_lt
        obtain ⟨n, en⟩ : ∃ n, digF 0 (s.data.toList.take k) = n := ⟨_, rfl⟩
        obtain ⟨b, eb⟩ : ∃ b, s[k].toNat = b := ⟨_, rfl⟩
        rw [en] at HS hcap ⊢
        rw [eb] at HS hb
        clear en
        by_cases h0 : 48 ≤ b
        · by_cases h1 : b ≤ 57
          · have HS2 := Lib.hid (show digF 0 (s.data.toList.take (k + 1)) = 10 * n + (b - 48) by rw [HS.out, if_pos ⟨h0, h1⟩])
            have a0 : IntKind.i64.wrap (b : Int) = (b : Int) := IntWalk.i64_in _ (by omega)
            have a1 : IntKind.i64.wrap (10 * (n : Int)) = 10 * (n : Int) := IntWalk.i64_in _ (by omega)
            have a2 : IntKind.i64.wrap (10 * (n : Int) + b) = 10 * (n : Int) + b := IntWalk.i64_in _ (by omega)
            have a3 : IntKind.i64.wrap (10 * (n : Int) + b - 48) = 10 * (n : Int) + b - 48 := IntWalk.i64_in _ (by omega)
            go_wp2_with fail
            go_round
            case rel => exact ⟨k + 1, by omega, by omega, by go_num, by rw [HS2.out]; congr 1; omega⟩
            case measure => simp [intOf]; omega
          · have HS2 := Lib.hid (show digF 0 (s.data.toList.take (k + 1)) = n by rw [HS.out, if_neg (fun h => h1 h.2)])
            go_wp2_with fail
            go_round
            case rel => exact ⟨k + 1, by omega, by omega, by go_num, by rw [HS2.out]⟩
            case measure => simp [intOf]; omega
        · have HS2 := Lib.hid (show digF 0 (s.data.toList.take (k + 1)) = n by rw [HS.out, if_neg (fun h => h0 h.1)])
          go_wp2_with fail
          go_round
          case rel => exact ⟨k + 1, by omega, by omega, by go_num, by rw [HS2.out]⟩
          case measure => simp [intOf]; omega
      · obtain rfl : k = 9 := by omega
        have h0 : 0 < s.size := by omega
        have HH := Lib.hid (head_of h0)
        obtain ⟨n, en⟩ : ∃ n, digF 0 (s.data.toList.take 9) = n := ⟨_, rfl⟩
        rw [en] at hcap ⊢
        have a1 : IntKind.i64.wrap (-(n : Int)) = -(n : Int) := IntWalk.i64_in _ (by omega)
        by_cases hm : s[0] = 45
        · have hq : s[0].toNat = 45 := by rw [hm]; rfl
          have HR := Lib.hid (show D = -(n : Int) by rw [← HD.out, digL, HH.out, hm, if_pos rfl, en])
          clear en
          go_wp2_with fail
          go_ret
          exact ⟨by rw [HR.out]; rfl, rfl⟩
        · have hq : ¬ s[0].toNat = 45 := fun e => hm (UInt8.toNat_inj.1 e)
          have HR := Lib.hid (show D = (n : Int) by rw [← HD.out, digL, HH.out, if_neg (fun e => hm (Option.some.inj e)), en])
          clear en
          go_wp2_with fail
          go_ret
          exact ⟨by rw [HR.out]; rfl, rfl⟩
    · obtain rfl : k = s.size := by omega
      have htk : s.data.toList.take s.size = s.data.toList.take 9 := by
        rw [List.take_of_length_le (by simp), List.take_of_length_le (by simp; omega)]
      rw [htk] at hcap ⊢
      obtain ⟨n, en⟩ : ∃ n, digF 0 (s.data.toList.take 9) = n := ⟨_, rfl⟩
      rw [en] at hcap ⊢
      have a1 : IntKind.i64.wrap (-(n : Int)) = -(n : Int) := IntWalk.i64_in _ (by omega)
      clear htk
      by_cases h0 : 0 < s.size
      · have HH := Lib.hid (head_of h0)
        by_cases hm : s[0] = 45
        · have hq : s[0].toNat = 45 := by rw [hm]; rfl
          have HR := Lib.hid (show D = -(n : Int) by rw [← HD.out, digL, HH.out, hm, if_pos rfl, en])
          clear en
          go_wp2_with fail
          go_ret
          exact ⟨by rw [HR.out]; rfl, rfl⟩
        · have hq : ¬ s[0].toNat = 45 := fun e => hm (UInt8.toNat_inj.1 e)
          have HR := Lib.hid (show D = (n : Int) by rw [← HD.out, digL, HH.out, if_neg (fun e => hm (Option.some.inj e)), en])
          clear en
          go_wp2_with fail
          go_ret
          exact ⟨by rw [HR.out]; rfl, rfl⟩
      · have hnil := head_none h0
        have HR := Lib.hid (show D = (n : Int) by rw [← HD.out, digL, hnil, if_neg (by simp), en])
        have h0' : ¬ (0 : Int) < s.size := by omega
        clear en hnil
        go_wp2_with fail
        go_ret
        exact ⟨by rw [HR.out]; rfl, rfl⟩
end Go.Proofs.YtmlcaaciofbpgaaDoor
