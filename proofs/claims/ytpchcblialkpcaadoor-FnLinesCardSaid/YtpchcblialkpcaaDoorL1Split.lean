/- The reference cuts a text at every byte of one kind: one Lean function; no conditions but the length. -/
import Derived.Test.YtpchcblialkpcaaDoorWords
import Derived.Test.YtpchcblialkpcaaDoorPush
import Derived.Deep.RegionLaw
namespace Go.Proofs.YtpchcblialkpcaaDoor
open Go.RowKit

/-- texts: one cell an element. -/
def txtCells (x : ByteArray) : List Value := [.string x]
theorem txt_one : ∀ x : ByteArray, (txtCells x).length = 1 := fun _ => rfl
theorem flat_txt (l : List ByteArray) : (l.map txtCells).flatten = l.map Value.string := by
  induction l with
  | nil => rfl
  | cons x l ih => rw [List.map_cons, List.flatten_cons, ih]; rfl
theorem info_string : (Tryd.prog.info? 9).map (fun i => (i.zero, i.size, i.bytes)) = some (some (.string ⟨#[]⟩), 1, 16) := by kernel_rfl
/-- A list of texts of the call's own. -/
def TextsP (l : List (List UInt8)) (w : World) (e : Ending) (w' : World) : Prop := ∃ (ps : List ByteArray) (A : Option Addr) (cap : Nat), ps.map (·.data.toList) = l ∧ e = .returned (.slice A ps.length cap) ∧ Own w' w.heap.size 9 1 txtCells A ps ∧ Below w.heap.size w w'
theorem cut_list (s : ByteArray) (a b : Nat) : (s.extract a b).data.toList = (s.data.toList.drop a).take (b - a) := by
  conv => lhs; rw [S_of s, S_cut, S_data]
theorem drop_parts {s : ByteArray} {f k : Nat} (hf : f ≤ k) (hk : k < s.size) : s.data.toList.drop f = (s.data.toList.drop f).take (k - f) ++ s[k] :: s.data.toList.drop (k + 1) := by
  have hk' : k < s.data.toList.length := by simpa using hk
  have h1 : (s.data.toList.drop f).drop (k - f) = s[k] :: s.data.toList.drop (k + 1) := by
    rw [List.drop_drop, show f + (k - f) = k by omega, List.drop_eq_getElem_cons hk']; rfl
  rw [← h1, List.take_append_drop]
theorem take_grow {s : ByteArray} {f k : Nat} (hf : f ≤ k) (hk : k < s.size) : (s.data.toList.drop f).take (k + 1 - f) = (s.data.toList.drop f).take (k - f) ++ [s[k]] := by
  have hk' : k - f < (s.data.toList.drop f).length := by simp; omega
  rw [show k + 1 - f = (k - f) + 1 by omega, List.take_add_one, List.getElem?_eq_getElem hk']
  have : (s.data.toList.drop f)[k - f] = s[k] := by
    simp only [List.getElem_drop]
    congr 1; omega
  rw [this]; rfl
set_option maxHeartbeats 2000000 in
theorem l1Split_c (s : ByteArray) (c : UInt8) (w : World) (hs : s.size ≤ 1048576) : Calls Tryd.prog 31 #[.string s, .int .u8 c.toNat] w (TextsP (spl c s.data.toList) w) := by
  obtain ⟨L, hL⟩ : ∃ L, spl c s.data.toList = L := ⟨_, rfl⟩
  rw [hL]
  have HL := Lib.hid hL
  clear hL
  have HO := Lib.hid (ownsRow_empty w 9 1)
  have HB := Lib.hid (show Below w.heap.size w (w.alloc (.cells #[] 9)) from (Below.refl _ _).alloc (Nat.le_refl _) _)
  go_enter Tryd.func31, Tryd.ntmps31
  go_wp2_with fail
  go_loopw [5, 6, 7] (fun v f i wr => ∃ (ps : List ByteArray) (A : Option Addr) (cap fr k : Nat), fr ≤ k ∧ k ≤ s.size ∧ ps.length ≤ k ∧ v = .slice A ps.length cap ∧ f = .int .i64 fr ∧ i = .int .i64 k ∧ ps.map (·.data.toList) ++ spl c (s.data.toList.drop fr) = L ∧ c ∉ (s.data.toList.drop fr).take (k - fr) ∧ wr.ownsRow w.heap.size 9 1 (.slice A ps.length cap) ps.length (ps.map Value.string) ∧ Below w.heap.size w wr) (fun _ _ i _ => s.size - (intOf i).toNat)
  case atStart => exact ⟨[], some ⟨w.heap.size, 0, none⟩, 0, 0, 0, Nat.le_refl _, Nat.zero_le _, by simp, rfl, rfl, rfl, by simpa using HL.out, by simp, HO.out, HB.out⟩
  case round =>
    obtain ⟨ps, A, cap, fr, k, hfk, hk, hps, rfl, rfl, rfl, hspl, hno, hown, hbel⟩ := hrel
    have HOr := Lib.hid hown
    have HBr := Lib.hid hbel
    have z1 := hbel.size
    have HSP := Lib.hid hspl
    have HNO := Lib.hid hno
    clear hown hbel hspl hno
    by_cases hlt : k < s.size
    · have HDP := Lib.hid (drop_parts hfk hlt)
      have HTG := Lib.hid (take_grow hfk hlt)
      by_cases hc : s[k] = c
      · have hq : s[k].toNat = c.toNat := by rw [hc]
        have i1 : (fr : Int) ≤ k := by omega
        have i2 : (k : Int) ≤ s.size := by omega
        obtain ⟨x, hx⟩ : ∃ x, s.extract fr k = x := ⟨_, rfl⟩
        have HX := Lib.hid (show x.data.toList = (s.data.toList.drop fr).take (k - fr) by rw [← hx, cut_list])
        have hmin : min k s.size = k := by omega
        go_wp2_with (at_builtin; refine wpList_push2 _ rfl _ _ 43 rfl w.heap.size 9 (.string ⟨#[]⟩) 1 16 Tryd.underlying43 info_string rfl (by decide) (by decide) _ _ _ rfl (HOr.out.alloc _) (wr.heap.size) [.string x] rfl rfl ?d1 ?d2 ?d3 ?d4 ?_)
        try case d1 =>
          intro j u hj
          match j, hj with
          | 0, hj => simp at hj; subst hj; simp [go_sem]
        case d2 => first | rfl | (intro u hu; simp at hu; subst hu; rfl)
        case d3 => omega
        case d4 => first | omega | (simp; omega)
        intro v' w3 hown' hb' _
        have hb3 : Below w.heap.size w w3 := HBr.out.trans ((Below.mono (B := wr.heap.size) ((Below.refl _ _).alloc (Nat.le_refl _) (.cells #[.string x] 9)) z1).trans hb')
        have HB3 := Lib.hid hb3
        rw [show ps.map Value.string ++ [Value.string x] = (ps ++ [x]).map Value.string by simp] at hown'
        obtain ⟨B, cap2, rfl⟩ := ownsRow_shape hown'
        have HO3 := Lib.hid hown'
        have HNX := Lib.hid (show (ps ++ [x]).map (·.data.toList) ++ spl c (s.data.toList.drop (k + 1)) = L by
          rw [← HSP.out, HDP.out, hc, spl_hit HNO.out, List.map_append, List.append_assoc]
          simp [HX.out])
        clear hown' hb' hb3 hx
        go_wp2_with fail
        go_roundw
        case rel => exact ⟨ps ++ [x], B, cap2, k + 1, k + 1, Nat.le_refl _, by omega, by simp; omega, by simp, by go_num, by go_num, HNX.out, by simp, by simpa using HO3.out, HB3.out⟩
        case measure => simp [intOf]; omega
      · have hq : ¬ s[k].toNat = c.toNat := fun e => hc (UInt8.toNat_inj.1 e)
        go_wp2_with fail
        go_roundw
        case rel => exact ⟨ps, A, cap, fr, k + 1, by omega, by omega, by omega, rfl, rfl, by go_num, HSP.out, by rw [HTG.out]; simp only [List.mem_append, List.mem_singleton]; rintro (h | h); exact HNO.out h; exact hc h.symm, HOr.out, HBr.out⟩
        case measure => simp [intOf]; omega
    · obtain rfl : k = s.size := by omega
      have i1 : (fr : Int) ≤ s.size := by omega
      obtain ⟨x, hx⟩ : ∃ x, s.extract fr s.size = x := ⟨_, rfl⟩
      have HX := Lib.hid (show x.data.toList = s.data.toList.drop fr by rw [← hx, cut_list, List.take_of_length_le (by simp)])
      have HN2 := Lib.hid (show c ∉ s.data.toList.drop fr by have := HNO.out; rwa [List.take_of_length_le (by simp)] at this)
      go_wp2_with (at_builtin; refine wpList_push2 _ rfl _ _ 43 rfl w.heap.size 9 (.string ⟨#[]⟩) 1 16 Tryd.underlying43 info_string rfl (by decide) (by decide) _ _ _ rfl (HOr.out.alloc _) (wr.heap.size) [.string x] rfl rfl ?d1 ?d2 ?d3 ?d4 ?_)
      try case d1 =>
        intro j u hj
        match j, hj with
        | 0, hj => simp at hj; subst hj; simp [go_sem]
      case d2 => first | rfl | (intro u hu; simp at hu; subst hu; rfl)
      case d3 => omega
      case d4 => first | omega | (simp; omega)
      intro v' w3 hown' hb' _
      have HB3 := Lib.hid (HBr.out.trans ((Below.mono (B := wr.heap.size) ((Below.refl _ _).alloc (Nat.le_refl _) (.cells #[.string x] 9)) z1).trans hb'))
      rw [show ps.map Value.string ++ [Value.string x] = ((ps ++ [x]).map txtCells).flatten by rw [flat_txt]; simp] at hown'
      obtain ⟨B, cap2, rfl⟩ := ownsRow_shape hown'
      have HO3 := Lib.hid (Own.of_row' (cells := txtCells) (l := ps ++ [x]) hown' (by simp) rfl txt_one)
      have HNX := Lib.hid (show (ps ++ [x]).map (·.data.toList) = L by
        rw [← HSP.out, spl_none HN2.out, List.map_append]
        simp [HX.out])
      clear hown' hb' hx
      go_wp2_with fail
      go_ret
      exact ⟨ps ++ [x], B, cap2, HNX.out, by simp, HO3.out, HB3.out⟩
end Go.Proofs.YtpchcblialkpcaaDoor
