/- Texts with a checksum: AppendChecksum of the program and of the reference, VerifyChecksum of the program return one Lean function each; no conditions but the length and that the library's table and bound lie where its text lays them. -/
import Derived.Test.YtdgjanfielcpdaaDoorParseI
import Derived.Test.YtdgjanfielcpdaaDoorSum
import Derived.Test.YtdgjanfielcpdaaDoorWords
namespace Go.Proofs.YtdgjanfielcpdaaDoor
open Go.RowKit

theorem hash_num_len (l : List UInt8) : (num (hashL l)).length ≤ 7 := num_len7 (by omega) (by have := hashL_lt l; omega)
theorem seal_len (l : List UInt8) : (sealL l).length ≤ l.length + 8 := by
  have := hash_num_len l
  simp only [sealL, List.length_append, List.length_cons]; omega
theorem seal_S (s t : ByteArray) (h : S (num (hashL s.data.toList)) = t) : s ++ ⟨#[35]⟩ ++ t = S (sealL s.data.toList) := by
  rw [← h, S_of s, show (⟨#[35]⟩ : ByteArray) = S [35] from rfl, S_app, S_app, S_data, sealL, List.append_assoc]; rfl
def sealP (x : List UInt8) : List UInt8 × Bool := if x.length ≤ 4000 ∧ 35 ∉ x ∧ (sealL x).length ≤ 4000 then (sealL x, true) else ([], false)
theorem l1Seal_c (s : ByteArray) (w : World) (hs : s.size ≤ 10000) : Calls Tryd.prog 30 #[.string s] w fun e w' => e = .returned (.string (S (sealL s.data.toList))) ∧ Below w.heap.size w w' := by
  obtain ⟨t, ht⟩ : ∃ t, S (num (hashL s.data.toList)) = t := ⟨_, rfl⟩
  have hts : t.size ≤ 7 := by rw [← ht, S_size]; exact hash_num_len _
  have HE := Lib.hid (seal_S s t ht)
  have HST := Lib.hid ht
  have hlt := hashL_lt s.data.toList
  obtain ⟨h, hh⟩ : ∃ h, hashL s.data.toList = h := ⟨_, rfl⟩
  rw [hh] at HST hlt
  have HH := Lib.hid hh
  clear ht hh
  have z1 : (9223372036854775807 < s.size + 1) = False := by simp; omega
  have z2 : (9223372036854775807 < s.size + 1 + t.size) = False := by simp; omega
  go_enter Tryd.func30, Tryd.ntmps30
  go_wp2_with (first | (go_at_call 37; refine (l1Sum_c s _ hs).mono ?_; rw [HH.out]; rintro e w' ⟨rfl, rfl⟩) | (go_at_call 21; refine (l1Num_c h _ (by omega) (by omega)).mono ?_; rw [HST.out]; rintro e w1 ⟨rfl, hb1⟩))
  go_ret
  exact ⟨rets HE.out, hb1⟩
set_option maxHeartbeats 1000000 in
theorem implAppendChecksum_c (s : ByteArray) (w : World) (hs : s.size ≤ 10000) (hT : Tab w) : Calls Tryd.prog 12 #[.string s] w (StrP (sealP s.data.toList) w) := by
  have hsl : s.data.toList.length = s.size := by simp
  by_cases h4 : 4000 < s.size
  · have H := Lib.hid (show sealP s.data.toList = ([], false) by rw [sealP, if_neg (fun h => by omega)])
    clear hsl
    go_enter Tryd.func12, Tryd.ntmps12
    go_wp2_with fail
    exact bodyPost_ret (v := .tuple #[.string ⟨#[]⟩, .bool false]) (by simp [results, Tryd.results12, go_sem]) rfl ⟨retS H.out rfl, Below.refl _ _⟩
  by_cases h35 : 35 ∈ s.data.toList
  · have H := Lib.hid (show sealP s.data.toList = ([], false) by rw [sealP, if_neg (fun h => h.2.1 h35)])
    have HC := Lib.hid (show decide (0 ≤ Lib.indexByte s.data.toList 35) = true by rw [contains_one, decide_eq_true h35])
    clear hsl h35
    go_enter Tryd.func12, Tryd.ntmps12
    go_wp2_with fail
    refine (Tryd.strings_Contains_one s 35 _).mono ?_
    rw [HC.out]
    rintro e w' ⟨rfl, rfl⟩
    go_wp2_with fail
    exact bodyPost_ret (v := .tuple #[.string ⟨#[]⟩, .bool false]) (by simp [results, Tryd.results12, go_sem]) rfl ⟨retS H.out rfl, Below.refl _ _⟩
  have HC := Lib.hid (show decide (0 ≤ Lib.indexByte s.data.toList 35) = false by rw [contains_one, decide_eq_false h35])
  have HN35 := Lib.hid h35
  have HT := Lib.hid hT
  have HSL := Lib.hid hsl
  clear hsl h35 hT
  obtain ⟨t, ht⟩ : ∃ t, S (num (hashL s.data.toList)) = t := ⟨_, rfl⟩
  have hts : t.size ≤ 7 := by rw [← ht, S_size]; exact hash_num_len _
  have HE := Lib.hid (seal_S s t ht)
  have HST := Lib.hid ht
  have hlt := hashL_lt s.data.toList
  obtain ⟨h, hh⟩ : ∃ h, hashL s.data.toList = h := ⟨_, rfl⟩
  rw [hh] at HST hlt
  have HH := Lib.hid hh
  clear ht hh
  have z1 : (9223372036854775807 < s.size + 1) = False := by simp; omega
  have z2 : (9223372036854775807 < s.size + 1 + t.size) = False := by simp; omega
  have hsz : (sealL s.data.toList).length = s.size + 1 + t.size := by
    have := congrArg ByteArray.size HE.out
    rw [S_size] at this
    rw [← this]; simp; rfl
  by_cases hbig : 4000 < s.size + 1 + t.size
  · have H := Lib.hid (show sealP s.data.toList = ([], false) by rw [sealP, if_neg (fun h => by omega)])
    have i1 : (4000 : Int) < s.size + 1 + t.size := by omega
    clear hsz
    go_enter Tryd.func12, Tryd.ntmps12
    go_wp2_with (first | (go_at_call 27; refine (Tryd.strings_Contains_one s 35 _).mono ?_; rw [HC.out]; rintro e w' ⟨rfl, rfl⟩) | (go_at_call 28; refine (implChecksum_c s _ hs).mono ?_; rw [HH.out]; rintro e w' ⟨rfl, rfl⟩) | (go_at_call 19; refine (itoa_c h _ (by omega) (by omega) HT.out).mono ?_; rw [HST.out]; rintro e w1 ⟨rfl, hb1⟩))
    exact bodyPost_ret (v := .tuple #[.string ⟨#[]⟩, .bool false]) (by simp [results, Tryd.results12, go_sem]) rfl ⟨retS H.out rfl, hb1⟩
  · have H := Lib.hid (show sealP s.data.toList = (sealL s.data.toList, true) by rw [sealP, if_pos ⟨by have := HSL.out; omega, HN35.out, by omega⟩])
    have i1 : ¬ (4000 : Int) < s.size + 1 + t.size := by omega
    clear hsz
    go_enter Tryd.func12, Tryd.ntmps12
    go_wp2_with (first | (go_at_call 27; refine (Tryd.strings_Contains_one s 35 _).mono ?_; rw [HC.out]; rintro e w' ⟨rfl, rfl⟩) | (go_at_call 28; refine (implChecksum_c s _ hs).mono ?_; rw [HH.out]; rintro e w' ⟨rfl, rfl⟩) | (go_at_call 19; refine (itoa_c h _ (by omega) (by omega) HT.out).mono ?_; rw [HST.out]; rintro e w1 ⟨rfl, hb1⟩))
    exact bodyPost_ret (v := .tuple #[.string (s ++ ⟨#[35]⟩ ++ t), .bool true]) (by simp [results, Tryd.results12, go_sem]) rfl ⟨retS H.out HE.out, hb1⟩
theorem seal_str {s : ByteArray} : (S (sealL s.data.toList)).size ≤ s.size + 8 := by
  rw [S_size]
  have := seal_len s.data.toList
  simpa using this
set_option maxHeartbeats 1000000 in
theorem specAppendChecksum_c (s : ByteArray) (w : World) (hs : s.size ≤ 10000) : Calls Tryd.prog 13 #[.string s] w (StrP (sealP s.data.toList) w) := by
  have hsl : s.data.toList.length = s.size := by simp
  by_cases h4 : 4000 < s.size
  · have H := Lib.hid (show sealP s.data.toList = ([], false) by rw [sealP, if_neg (fun h => by omega)])
    clear hsl
    go_enter Tryd.func13, Tryd.ntmps13
    go_wp2_with fail
    exact bodyPost_ret (v := .tuple #[.string ⟨#[]⟩, .bool false]) (by simp [results, Tryd.results13, go_sem]) rfl ⟨retS H.out rfl, Below.refl _ _⟩
  by_cases h35 : 35 ∈ s.data.toList
  · have H := Lib.hid (show sealP s.data.toList = ([], false) by rw [sealP, if_neg (fun h => h.2.1 h35)])
    have HC := Lib.hid (decide_eq_true h35)
    clear hsl h35
    go_enter Tryd.func13, Tryd.ntmps13
    go_wp2_with fail
    refine (l1Stands_c s 35 _ hs).mono ?_
    rw [HC.out]
    rintro e w' ⟨rfl, rfl⟩
    go_wp2_with fail
    exact bodyPost_ret (v := .tuple #[.string ⟨#[]⟩, .bool false]) (by simp [results, Tryd.results13, go_sem]) rfl ⟨retS H.out rfl, Below.refl _ _⟩
  have HC := Lib.hid (decide_eq_false h35)
  have HN35 := Lib.hid h35
  have HSL := Lib.hid hsl
  have hss := seal_str (s := s)
  obtain ⟨t, ht⟩ : ∃ t, S (sealL s.data.toList) = t := ⟨_, rfl⟩
  have hsz : (sealL s.data.toList).length = t.size := by rw [← ht, S_size]
  rw [ht] at hss
  have HST := Lib.hid ht
  clear hsl h35 ht
  by_cases hbig : 4000 < t.size
  · have H := Lib.hid (show sealP s.data.toList = ([], false) by rw [sealP, if_neg (fun h => by omega)])
    clear hsz
    go_enter Tryd.func13, Tryd.ntmps13
    go_wp2_with (first | (go_at_call 29; refine (l1Stands_c s 35 _ hs).mono ?_; rw [HC.out]; rintro e w' ⟨rfl, rfl⟩) | (go_at_call 30; refine (l1Seal_c s _ hs).mono ?_; rw [HST.out]; rintro e w1 ⟨rfl, hb1⟩))
    exact bodyPost_ret (v := .tuple #[.string ⟨#[]⟩, .bool false]) (by simp [results, Tryd.results13, go_sem]) rfl ⟨retS H.out rfl, hb1⟩
  · have H := Lib.hid (show sealP s.data.toList = (sealL s.data.toList, true) by rw [sealP, if_pos ⟨by have := HSL.out; omega, HN35.out, by omega⟩])
    clear hsz
    go_enter Tryd.func13, Tryd.ntmps13
    go_wp2_with (first | (go_at_call 29; refine (l1Stands_c s 35 _ hs).mono ?_; rw [HC.out]; rintro e w' ⟨rfl, rfl⟩))
    refine (l1Seal_c s _ hs).mono ?_
    rw [HST.out]
    rintro e w1 ⟨rfl, hb1⟩
    go_wp2_with fail
    refine (l1Seal_c s _ hs).mono ?_
    rw [HST.out]
    rintro e w2 ⟨rfl, hb2⟩
    go_wp2_with fail
    exact bodyPost_ret (v := .tuple #[.string t, .bool true]) (by simp [results, Tryd.results13, go_sem]) rfl ⟨retS H.out HST.out.symm, hb1.trans (hb2.mono hb1.size)⟩
/-- The library's bound lies where its text lays it. -/
def MaxL (w : World) : Prop := 2 < w.heap.size ∧ ∃ m, w.cell? ⟨2, 0, none⟩ = some (.int .i64 m)
theorem MaxL.carry {w w' : World} (h : MaxL w) (hb : Below w.heap.size w w') : MaxL w' := ⟨Nat.lt_of_lt_of_le h.1 hb.size, by
  obtain ⟨m, hm⟩ := h.2
  exact ⟨m, (hb.cell (p := ⟨2, 0, none⟩) h.1).trans hm⟩⟩
theorem below_drewN (w : World) (n : Nat) : Below w.heap.size w (w.drewN n) := ⟨rfl, rfl, rfl, Nat.le_refl _, fun _ _ => rfl⟩
theorem cut_first (l : List UInt8) : (Lib.cut l [35]).1 = cutL l := by
  by_cases h : 35 ∈ l
  · obtain ⟨a, b, rfl, ha⟩ := List.eq_append_cons_of_mem h
    have e : a ++ 35 :: b = a ++ [35] ++ b := by simp
    rw [cut_at ha, e, cut_hit ha]
  · rw [cut_miss h, cut_all h]
theorem cut_c (s : ByteArray) (w : World) (hs : s.size ≤ 10000) (hm : MaxL w) : Calls Tryd.prog 31 #[.string s, .string ⟨#[35]⟩] w fun e w' => ∃ (r : ByteArray) (b : Bool), e = .returned (.tuple #[.string (S (cutL s.data.toList)), .string r, .bool b]) ∧ Below w.heap.size w w' := by
  obtain ⟨m, hm⟩ := hm.2
  refine (Tryd.strings_Cut s ⟨#[35]⟩ m w (by omega) hm).mono ?_
  rintro e w' ⟨rfl, n, rfl⟩
  exact ⟨⟨(Lib.cut s.data.toList [35]).2.1.toArray⟩, (Lib.cut s.data.toList [35]).2.2, by rw [← cut_first]; rfl, below_drewN _ _⟩
def verifyP (y : List UInt8) : List UInt8 × Bool := if sealP (cutL y) = (y, true) then (cutL y, true) else ([], false)
theorem cutL_len (l : List UInt8) : (cutL l).length ≤ l.length := (List.takeWhile_sublist _).length_le
set_option maxHeartbeats 1000000 in
theorem implVerifyChecksum_c (s : ByteArray) (w : World) (hs : s.size ≤ 10000) (hT : Tab w) (hM : MaxL w) : Calls Tryd.prog 14 #[.string s] w (StrP (verifyP s.data.toList) w) := by
  obtain ⟨t, ht⟩ : ∃ t, S (cutL s.data.toList) = t := ⟨_, rfl⟩
  have htl : cutL s.data.toList = t.data.toList := by rw [← ht, S_data]
  have hts : t.size ≤ 10000 := by
    have := cutL_len s.data.toList
    rw [← ht, S_size]; simp at this; omega
  obtain ⟨⟨o, ok⟩, ho⟩ : ∃ p, sealP t.data.toList = p := ⟨_, rfl⟩
  obtain ⟨so, hso⟩ : ∃ so, S o = so := ⟨_, rfl⟩
  have HV := Lib.hid (show verifyP s.data.toList = if (o, ok) = (s.data.toList, true) then (t.data.toList, true) else ([], false) by rw [verifyP, htl, ho])
  have HO := Lib.hid ho
  have HSO := Lib.hid hso
  have HTT := Lib.hid ht
  have HC := Lib.hid (cut_c s w hs hM)
  have HT := Lib.hid hT
  have ho2 : S t.data.toList = t := (S_of t).symm
  have HO2 := Lib.hid ho2
  clear ho hso ht htl hM hT ho2
  rcases ok with _ | _
  · have H := Lib.hid (show verifyP s.data.toList = ([], false) by rw [HV.out, if_neg (fun h => by cases h)])
    go_enter Tryd.func14, Tryd.ntmps14
    go_wp2_with fail
    refine HC.out.mono ?_
    rw [HTT.out]
    rintro e w1 ⟨r, b, rfl, hb1⟩
    have HB := Lib.hid hb1
    have HT1 := Lib.hid (HT.out.carry hb1)
    clear hb1
    go_wp2_with fail
    refine (implAppendChecksum_c t _ hts HT1.out).mono ?_
    rw [HO.out]
    rintro e w2 ⟨rfl, hb2⟩
    go_wp2_with fail
    exact bodyPost_ret (v := .tuple #[.string ⟨#[]⟩, .bool false]) (by simp [results, Tryd.results14, go_sem]) rfl ⟨retS H.out rfl, HB.out.trans (hb2.mono HB.out.size)⟩
  · by_cases hq : o = s.data.toList
    · have H := Lib.hid (show verifyP s.data.toList = (t.data.toList, true) by rw [HV.out, if_pos (by rw [hq])])
      have HS := Lib.hid (show S o = s by rw [hq]; exact (S_of s).symm)
      clear hq
      go_enter Tryd.func14, Tryd.ntmps14
      go_wp2_with fail
      refine HC.out.mono ?_
      rw [HTT.out]
      rintro e w1 ⟨r, b, rfl, hb1⟩
      have HB := Lib.hid hb1
      have HT1 := Lib.hid (HT.out.carry hb1)
      clear hb1
      go_wp2_with fail
      refine (implAppendChecksum_c t _ hts HT1.out).mono ?_
      rw [HO.out]
      rintro e w2 ⟨he, hb2⟩
      rw [HS.out] at he
      subst he
      go_wp2_with fail
      exact bodyPost_ret (v := .tuple #[.string t, .bool true]) (by simp [results, Tryd.results14, go_sem]) rfl ⟨retS H.out HO2.out.symm, HB.out.trans (hb2.mono HB.out.size)⟩
    · have H := Lib.hid (show verifyP s.data.toList = ([], false) by rw [HV.out, if_neg (fun h => hq (by cases h; rfl))])
      have hts0 : ¬ so = s := fun e => hq (by rw [← S_data o, HSO.out, e])
      have hts2 : (so.toList == s.toList) = false := by
        rw [beq_eq_false_iff_ne]; intro e; exact hts0 (toList_inj e)
      clear hq
      go_enter Tryd.func14, Tryd.ntmps14
      go_wp2_with fail
      refine HC.out.mono ?_
      rw [HTT.out]
      rintro e w1 ⟨r, b, rfl, hb1⟩
      have HB := Lib.hid hb1
      have HT1 := Lib.hid (HT.out.carry hb1)
      clear hb1
      go_wp2_with fail
      refine (implAppendChecksum_c t _ hts HT1.out).mono ?_
      rw [HO.out]
      rintro e w2 ⟨he, hb2⟩
      rw [HSO.out] at he
      subst he
      go_wp2_with fail
      exact bodyPost_ret (v := .tuple #[.string ⟨#[]⟩, .bool false]) (by simp [results, Tryd.results14, go_sem]) rfl ⟨retS H.out rfl, HB.out.trans (hb2.mono HB.out.size)⟩
end Go.Proofs.YtdgjanfielcpdaaDoor
