/- readNumbers of the program at two numbers between colons; no conditions but the length and what the library's text lays. -/
import Derived.Test.YtpchcblialkpcaaDoorLibCut
import Derived.Test.YtpchcblialkpcaaDoorParseI
import Derived.Test.YtpchcblialkpcaaDoorArr
import Derived.Test.YtpchcblialkpcaaDoorPush
import Derived.Test.YtpchcblialkpcaaDoorInts
namespace Go.Proofs.YtpchcblialkpcaaDoor
open Go.RowKit

def TwoNums (s : List UInt8) (a h : Int) : Prop := (Lib.split s [58]).length = 2 ∧ readI (nth (Lib.split s [58]) 0) = some a ∧ readI (nth (Lib.split s [58]) 1) = some h
def NumsP (s : List UInt8) (w : World) (e : Ending) (w' : World) : Prop := ((∃ (a h : Int) (g c : Nat), TwoNums s a h ∧ e = .returned (.tuple #[.slice (some ⟨g, 0, none⟩) 2 c, .bool true]) ∧ w.heap.size ≤ g ∧ Arr w' g [a, h]) ∨ ((¬ ∃ a h, TwoNums s a h) ∧ e = .returned (.tuple #[.slice none 0 0, .bool false]))) ∧ Below w.heap.size w w'
set_option maxHeartbeats 4000000 in
theorem readNumbers_c (s : ByteArray) (w : World) (hs : s.size ≤ 1048576) (hT : Tab w) (hE : Err w) (hM : MaxL w) : Calls Tryd.prog 26 #[.string s, .string ⟨#[58]⟩, .int .i64 2] w (NumsP s.data.toList w) := by
  have HT := Lib.hid hT
  have HE := Lib.hid hE
  have HM := Lib.hid hM
  clear hT hE hM
  go_enter Tryd.func26, Tryd.ntmps26
  go_wp2_with fail
  refine (split1_c s 58 _ (by omega) HM.out).mono ?_
  rintro e w1 ⟨ps, hps, rfl, hw1⟩
  have HPS := Lib.hid hps
  have HB1 := Lib.hid (show Below w.heap.size w w1 from hw1 ▸ (Below.refl _ _).alloc (Nat.le_refl _) _)
  have HC := Lib.hid (show ∀ t, t < ps.length → w1.cell? ⟨w.heap.size, t, none⟩ = some (.string (nth ps t)) from fun t ht => hw1 ▸ parts_cell w ps ht)
  have hlw : w.heap.size < w1.heap.size := by rw [hw1]; simp
  clear hw1 hps
  by_cases h2 : ps.length = 2
  case neg =>
    have hne : ((ps.length : Int) != 2) = true := by rw [bne_iff_ne]; omega
    have hno := Lib.hid (show ¬ ∃ a h, TwoNums s.data.toList a h from fun ⟨_, _, q, _⟩ => h2 (by rw [← HPS.out] at q; simpa using q))
    clear h2
    go_wp2_with fail
    go_ret2
    exact ⟨.inr ⟨hno.out, rfl⟩, HB1.out⟩
  have hne : ((ps.length : Int) != 2) = false := by rw [bne_eq_false_iff_eq]; omega
  have H2 := Lib.hid h2
  have HL2 := Lib.hid (show (Lib.split s.data.toList [58]).length = 2 by rw [← HPS.out]; simpa using h2)
  have HO1 := Lib.hid (ownsRow_empty w1 3 1)
  have HB2 := Lib.hid (show Below w1.heap.size w1 (w1.alloc (.cells #[] 3)) from (Below.refl _ _).alloc (Nat.le_refl _) _)
  have p2 : ps.length ≤ 2 := by omega
  clear h2
  go_wp2_with fail
  go_loopw [9, 11, 12, 13, 24] (fun v _ _ _ i wr => ∃ (k : Nat) (q : List Int), k ≤ ps.length ∧ q.length = k ∧ i = .int .i64 k ∧ (∀ t, t < k → readI (nth ps t).data.toList = some (nth q t)) ∧ wr.ownsRow w1.heap.size 3 1 v q.length (q.map (Value.int .i64)) ∧ Below w1.heap.size w1 wr) (fun _ _ _ _ i _ => ps.length - (intOf i).toNat)
  case atStart => exact ⟨0, [], Nat.zero_le _, rfl, rfl, fun t ht => absurd ht (by omega), HO1.out, HB2.out⟩
  case round =>
    obtain ⟨k, q, hk, hq, rfl, hall, hown, hbel⟩ := hrel
    have HO := Lib.hid hown
    have HB := Lib.hid hbel
    have HA := Lib.hid hall
    have HQ := Lib.hid hq
    have zr := hbel.size
    have q2 : q.length ≤ 2 := by omega
    clear hown hall hq
    by_cases hlt : k < ps.length
    · have c0 := (hbel.cell (p := ⟨w.heap.size, k, none⟩) hlw).trans (HC.out k hlt)
      have hps := split_sizes HPS.out hlt
      obtain ⟨p, hp⟩ : ∃ p, nth ps k = p := ⟨_, rfl⟩
      have HPP := Lib.hid hp
      rw [hp] at c0 hps
      have HBw := Lib.hid (HB1.out.trans (hbel.mono (by omega)))
      have i1 : (k : Int) < ps.length := by omega
      have l1 : w.heap.size < wr.heap.size := by omega
      clear hbel hp
      rcases hr : readI p.data.toList with _ | n
      · have HPR := Lib.hid (show parseP p.data.toList = (0, false) by rw [parseP, hr])
        have hno := Lib.hid (show ¬ ∃ a h, TwoNums s.data.toList a h from fun ⟨a, h, _, q0, q1⟩ => by
          rw [← HPP.out, ← parts_nth HPS.out hlt] at hr
          have hk2 : k = 0 ∨ k = 1 := by have := H2.out; omega
          rcases hk2 with rfl | rfl
          · rw [hr] at q0; cases q0
          · rw [hr] at q1; cases q1)
        clear hr
        go_wp2_with fail
        refine (implParseInt_c p _ (by omega) (HT.out.carry HBw.out) (HE.out.carry HBw.out)).mono ?_
        rintro e w2 ⟨rfl, hb2⟩
        rw [HPR.out]
        have HB3 := Lib.hid (HBw.out.trans (hb2.mono HBw.out.size))
        clear hb2
        go_wp2_with fail
        go_ret2
        exact ⟨.inr ⟨hno.out, rfl⟩, HB3.out⟩
      · have HPR := Lib.hid (show parseP p.data.toList = (n, true) by rw [parseP, hr])
        have HR := Lib.hid (show readI (nth ps k).data.toList = some n by rw [HPP.out]; exact hr)
        clear hr
        go_wp2_with fail
        refine (implParseInt_c p _ (by omega) (HT.out.carry HBw.out) (HE.out.carry HBw.out)).mono ?_
        rintro e w2 ⟨rfl, hb2⟩
        rw [HPR.out]
        have HB3 := Lib.hid (HB.out.trans (hb2.mono zr))
        have HO3 := Lib.hid (ownsRow_below HO.out hb2)
        have z3 := HB3.out.size
        clear hb2
        go_wp2_with (at_builtin; refine wpList_push _ rfl _ _ 45 rfl w1.heap.size 3 (.int .i64 0) 1 8 Tryd.underlying45 info_int rfl (by decide) (by decide) _ _ _ rfl (HO3.out.alloc _) w2.heap.size [.int .i64 n] rfl rfl ?c1 ?c2 ?c3 ?c4 ?_)
        try case c1 =>
          intro j u hj
          match j, hj with
          | 0, hj => simp at hj; subst hj; simp [go_sem]
        case c2 => first | rfl | (intro u hu; simp at hu; subst hu; rfl)
        case c3 => omega
        case c4 => first | omega | (simp; omega)
        intro v' w' hown' hb'
        have HO' := Lib.hid hown'
        have HB' := Lib.hid (HB3.out.trans ((((Below.refl _ _).alloc (Nat.le_refl _) _).mono z3).trans hb'))
        have HA' := Lib.hid (show ∀ t, t < k + 1 → readI (nth ps t).data.toList = some (nth (q ++ [n]) t) from fun t ht => by
          by_cases e : t < q.length
          · rw [nth_snoc_l e]; exact HA.out t (by have := HQ.out; omega)
          · have hqk := HQ.out
            obtain rfl : t = q.length := by omega
            rw [nth_snoc_r, hqk]; exact HR.out)
        clear hown' hb'
        go_wp2_with fail
        go_roundw
        case rel => exact ⟨k + 1, q ++ [n], by omega, by have := HQ.out; simp; omega, by go_num, HA'.out, by simpa using HO'.out, HB'.out⟩
        case measure => simp [intOf]; omega
    · obtain rfl : k = ps.length := by omega
      have hq2 : q.length = 2 := by have := HQ.out; have := H2.out; omega
      obtain ⟨a, h, rfl⟩ : ∃ a h, q = [a, h] := by
        rcases q with _ | ⟨a, _ | ⟨h, _ | ⟨z, q⟩⟩⟩
        · simp at hq2
        · simp at hq2
        · exact ⟨a, h, rfl⟩
        · simp at hq2
      have HBw := Lib.hid (HB1.out.trans (hbel.mono (by omega)))
      obtain ⟨g, c, rfl, hg, harr⟩ := Arr.of_owns HO.out rfl (by simp)
      have HAR := Lib.hid harr
      have HTN := Lib.hid (show TwoNums s.data.toList a h from ⟨HL2.out, by rw [parts_nth HPS.out (by have := H2.out; omega)]; exact HA.out 0 (by have := H2.out; omega), by rw [parts_nth HPS.out (by have := H2.out; omega)]; exact HA.out 1 (by have := H2.out; omega)⟩)
      clear hbel harr
      go_wp2_with fail
      go_ret2
      exact ⟨.inl ⟨a, h, g, c, HTN.out, rfl, by omega, HAR.out⟩, HBw.out⟩
end Go.Proofs.YtpchcblialkpcaaDoor
