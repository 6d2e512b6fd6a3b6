/- ParseLine of the program gives what the text writes; no conditions but the length and what the library's text lays. -/
import Derived.Test.YtpchcblialkpcaaDoorReadN
import Derived.Test.YtpchcblialkpcaaDoorSupParse
import Derived.Test.YtpchcblialkpcaaDoorSupTextI
import Derived.Test.YtpchcblialkpcaaDoorSupFlip
import Derived.Deep.RegionLaw
namespace Go.Proofs.YtpchcblialkpcaaDoor
open Go.RowKit

def ParseP (s : List UInt8) (w : World) (e : Ending) (w' : World) : Prop := ∃ p, Parsed s p ∧ SupPost p w e w'
theorem parse_none {s : List UInt8} {w w' : World} {A : Option Addr} {cap : Nat} (h : Parsed s ([], false)) (hb : Below w.heap.size w w') : ParseP s w (.returned (.tuple #[.slice A 0 cap, .bool false])) w' :=
  ⟨_, h, A, cap, rfl, Own.nil, hb⟩
theorem rdI_short {p : List UInt8} (h : p.length < 2) : rdI p = none := by unfold rdI; rw [if_neg (fun q => by omega)]
theorem rdI_no {p : List UInt8} (h : ¬ ∃ a b, TwoNums (p.drop 1) a b) : rdI p = none := by
  unfold rdI
  split
  · next c =>
    split
    · next a b ha hb => exact absurd ⟨a, b, c.2, ha, hb⟩ h
    · rfl
  · rfl
theorem rdI_yes {p : List UInt8} {a b : Int} (h2 : 2 ≤ p.length) (h : TwoNums (p.drop 1) a b) : rdI p = some ⟨a, b, decide (nth p 0 = 83)⟩ := by
  unfold rdI
  rw [if_pos ⟨h2, h.1⟩, h.2.1, h.2.2]
set_option maxRecDepth 100000 in
set_option maxHeartbeats 8000000 in
theorem implParseLine_c (s : ByteArray) (w : World) (hs : s.size ≤ 1048576) (hT : Tab w) (hE : Err w) (hM : MaxL w) : Calls Tryd.prog 14 #[.string s] w (ParseP s.data.toList w) := by
  have HT := Lib.hid hT
  have HE := Lib.hid hE
  have HF := Lib.hid (fits_I s.data.toList)
  have hb0 : Below w.heap.size w (w.alloc (.cells #[] 33)) := (Below.refl _ _).alloc (Nat.le_refl _) _
  have HM := Lib.hid (hM.carry hb0)
  have HM0 := Lib.hid hM
  have HO0 := Lib.hid (ownsRow_empty w 33 3)
  have HB0 := Lib.hid hb0
  clear hT hE hM hb0
  go_enter Tryd.func14, Tryd.ntmps14
  go_wp2_with fail
  refine (split1_c s 32 _ (by omega) HM.out).mono ?_
  rintro e w1 ⟨ps, hps, rfl, hw1⟩
  have HPS := Lib.hid hps
  obtain ⟨b1, hb1⟩ : ∃ b, (w.alloc (.cells #[] 33)).heap.size = b := ⟨_, rfl⟩
  have hbw : Below (w.alloc (.cells #[] 33)).heap.size (w.alloc (.cells #[] 33)) w1 := hw1 ▸ (Below.refl _ _).alloc (Nat.le_refl _) _
  have HB1 := Lib.hid (HB0.out.trans (hbw.mono HB0.out.size))
  have HO1 := Lib.hid (ownsRow_below HO0.out hbw)
  have HC := Lib.hid (show ∀ t, t < ps.length → w1.cell? ⟨b1, t, none⟩ = some (.string (nth ps t)) from fun t ht => hb1 ▸ hw1 ▸ parts_cell (w.alloc (.cells #[] 33)) ps ht)
  have hlb : b1 < w1.heap.size := by rw [hw1, ← hb1]; simp
  have hlw : w.heap.size < b1 := by rw [← hb1]; simp
  rw [hb1]
  clear hw1 hps hbw hb1
  go_wp2_with fail
  go_loopw [4, 6, 7, 8, 13] (fun v _ _ _ i wr => ∃ (k : Nat) (q : List Sup), k ≤ ps.length ∧ q.length = k ∧ q.length ≤ 8 ∧ i = .int .i64 k ∧ (∀ t, t < k → rdI (nth ps t).data.toList = some (nth q t)) ∧ wr.ownsRow w.heap.size 33 3 v q.length ((q.map Sup.cells).flatten) ∧ v.ownBlock ≠ some b1 ∧ b1 < wr.heap.size ∧ Below w.heap.size w wr ∧ (∀ t, t < ps.length → wr.cell? ⟨b1, t, none⟩ = some (.string (nth ps t)))) (fun _ _ _ _ i _ => ps.length - (intOf i).toNat)
  case atStart => exact ⟨0, [], Nat.zero_le _, rfl, by simp, rfl, fun t ht => absurd ht (by omega), HO1.out, by simp [Value.ownBlock]; omega, hlb, HB1.out, HC.out⟩
  case round =>
    obtain ⟨k, q, hk, hq, hq8, rfl, hall, hown, hnb, hlr, hbel, hcells⟩ := hrel
    obtain ⟨A', c', rfl⟩ := ownsRow_shape hown
    have HO := Lib.hid hown
    have HB := Lib.hid hbel
    have HA := Lib.hid hall
    have HQ := Lib.hid hq
    have HNB := Lib.hid hnb
    have HCC := Lib.hid hcells
    have zr := hbel.size
    have k8 : k ≤ 8 := by omega
    clear hown hall hq hnb hcells
    by_cases hlt : k < ps.length
    · have c0 := HCC.out k hlt
      have hps := split_sizes HPS.out hlt
      have HLS := Lib.hid (show k < (Lib.split s.data.toList [32]).length by rw [← HPS.out]; simpa using hlt)
      have HLN := Lib.hid (show (Lib.split s.data.toList [32]).length = ps.length by rw [← HPS.out]; simp)
      have HNT := Lib.hid (parts_nth HPS.out hlt)
      obtain ⟨p, hp⟩ : ∃ p, nth ps k = p := ⟨_, rfl⟩
      have HPP := Lib.hid hp
      rw [hp] at c0 hps HNT
      have i1 : (k : Int) < ps.length := by omega
      have i0 : (0 : Int) ≤ (k : Int) := by omega
      clear hbel hp
      by_cases h2 : p.size < 2
      · have n1 : (p.size : Int) < 2 := by omega
        have H := Lib.hid (HF.out.none HLS.out (by rw [HNT.out]; exact rdI_short (by simpa using h2)))
        clear h2
        go_wp2_with fail
        go_ret2
        exact parse_none (w := w) H.out HB.out
      have n1 : ¬ (p.size : Int) < 2 := by omega
      by_cases h8 : q.length = 8
      · have n2 : ((q.length : Int) == 8) = true := by rw [h8]; rfl
        have H := Lib.hid (HF.out.long (by rw [HLN.out]; have := HQ.out; omega))
        clear h8
        go_wp2_with fail
        go_ret2
        exact parse_none (w := w) H.out HB.out
      have n2 : ((q.length : Int) == 8) = false := by rw [beq_eq_false_iff_ne]; omega
      have q7 : q.length ≤ 7 := by omega
      obtain ⟨u, hu⟩ : ∃ u, p.extract 1 p.size = u := ⟨_, rfl⟩
      have HU := Lib.hid (show u.data.toList = p.data.toList.drop 1 by rw [← hu, cut_list, List.take_of_length_le (by simp)])
      have hus : u.size ≤ 1048576 := by rw [← hu]; simp; omega
      have i2 : (1 : Int) ≤ p.size := by omega
      have h0 : 0 < p.size := by omega
      clear h8
      go_wp2_with fail
      clear hu
      refine (readNumbers_c u _ hus (HT.out.carry HB.out) (HE.out.carry HB.out) (HM0.out.carry HB.out)).mono ?_
      rintro e w2 ⟨hcase, hb2⟩
      have HB2 := Lib.hid hb2
      have HBw2 := Lib.hid (HB.out.trans (hb2.mono zr))
      have HO2 := Lib.hid (ownsRow_below HO.out hb2)
      have hl2 : b1 < w2.heap.size := by have := hb2.size; omega
      have HC2 := Lib.hid (show ∀ t, t < ps.length → w2.cell? ⟨b1, t, none⟩ = some (.string (nth ps t)) from fun t ht => (HB2.out.cell (p := ⟨b1, t, none⟩) hlr).trans (HCC.out t ht))
      clear hb2 c0
      rcases hcase with ⟨a, h, g, c, htn, rfl, hg, harr⟩ | ⟨hno, rfl⟩
      · have d0 := harr.cell (i := 0) (by simp)
        have d1 := harr.cell (i := 1) (by simp)
        have dl := harr.lt
        have HP0 := Lib.hid (show nth p.data.toList 0 = p[0] by rw [nth_eq (by simp; omega)]; rfl)
        clear harr
        by_cases hc : p[0] = 83
        · have hq : p[0].toNat = 83 := by rw [hc]; rfl
          have hd : decide (p[0] = 83) = true := decide_eq_true hc
          clear hc
          go_wp2_with fail
          have HRD := Lib.hid (show rdI (nth ps k).data.toList = some ⟨a, h, true⟩ by
            rw [HPP.out, rdI_yes (by simp; omega) (by rw [← HU.out]; exact htn), HP0.out, hd])
          clear htn hd
          go_region_law (first
            | (refine step_extend rfl (.tmp 33) (.tmp 44) 24 rfl w.heap.size 33 _ 3 24 Tryd.underlying24 info_sup rfl (by decide) (by decide) (.slice A' q.length c') q.length _ rfl (ownsRow_below HO2.out (by repeat (first | (with_reducible exact Below.refl _ _) | ((with_reducible refine alloc_ ?_ ?_); (focus (first | exact Nat.le_refl _ | (simp; done) | (simp; omega) | omega))) | ((with_reducible refine set_ ?_ ?_); (focus (first | exact Nat.le_refl _ | (simp; done) | (simp; omega) | omega))) | (with_reducible refine Below.drew ?_) | ((with_reducible refine after_ ?_ (by assumption) ?_); (rotate_left; (focus (first | exact Nat.le_refl _ | (simp; done) | (simp; omega) | omega))))))) w2.heap.size 0 1 1 [.int .i64 a, .int .i64 h, .bool true] rfl rfl (news_one (cs := #[.int .i64 a, .int .i64 h, .bool true]) (by first | exact heap_alloc_new _ _ | exact heap_new' _ _ rfl)) (by intro u hu; simp at hu; rcases hu with rfl | rfl | rfl <;> rfl) (by omega) (by first | omega | (simp; omega)) ?_; intro v' w' hown' hb' hk'; have HO' := Lib.hid hown'; have HB' := Lib.hid hb'; have HKK := Lib.hid (hk' b1 (by first | omega | (simp; omega)) HNB.out); clear hown' hk' hb'))
          all_goals
            have HB3 := Lib.hid (show Below w.heap.size w w' from HBw2.out.trans ((Below.mono (B := w2.heap.size) (((Below.refl _ _).alloc (Nat.le_refl _) (.cells #[.int .i64 a, .int .i64 h, .bool true] 33)).drew) HBw2.out.size).trans HB'.out))
            have HC3 := Lib.hid (show ∀ t, t < ps.length → w'.cell? ⟨b1, t, none⟩ = some (.string (nth ps t)) from fun t ht => by
              rw [World.cell?_of_block (a := ⟨b1, t, none⟩) (HKK.out.1.trans (show ((w2.alloc (.cells #[.int .i64 a, .int .i64 h, .bool true] 33)).drew).heap[b1]? = w2.heap[b1]? from ((((Below.refl w2.heap.size w2).alloc (Nat.le_refl _) (.cells #[.int .i64 a, .int .i64 h, .bool true] 33)).drew).block b1 (by omega))))]
              exact HC2.out t ht)
            have HN := Lib.hid (show ∀ t, t < k + 1 → rdI (nth ps t).data.toList = some (nth (q ++ [(⟨a, h, true⟩ : Sup)]) t) from fun t ht => by
              have hqk := HQ.out
              by_cases e : t < q.length
              · rw [nth_snoc_l e]; exact HA.out t (by omega)
              · obtain rfl : t = q.length := by omega
                rw [nth_snoc_r, hqk]; exact HRD.out)
            have HO3 := Lib.hid (show w'.ownsRow w.heap.size 33 3 v' (q ++ [(⟨a, h, true⟩ : Sup)]).length (((q ++ [(⟨a, h, true⟩ : Sup)]).map Sup.cells).flatten) by simpa [Sup.cells] using HO'.out)
            have hl3 : b1 < w'.heap.size := by have := HB'.out.size; simp at this; omega
            clear HO' HB'
            go_wp2_with fail
            go_roundw
            case rel => exact ⟨k + 1, q ++ [(⟨a, h, true⟩ : Sup)], by omega, by have := HQ.out; simp; omega, by simp; omega, by go_num, HN.out, HO3.out, HKK.out.2, hl3, HB3.out, HC3.out⟩
            case measure => simp [intOf]; omega
        · have hq : ((p[0].toNat : Int) == 83) = false := by rw [beq_eq_false_iff_ne]; intro e; exact hc (UInt8.toNat_inj.1 (show p[0].toNat = (83 : UInt8).toNat from by have h : (83 : UInt8).toNat = 83 := rfl; omega))
          have hd : decide (p[0] = 83) = false := decide_eq_false hc
          clear hc
          go_wp2_with fail
          have HRD := Lib.hid (show rdI (nth ps k).data.toList = some ⟨a, h, false⟩ by
            rw [HPP.out, rdI_yes (by simp; omega) (by rw [← HU.out]; exact htn), HP0.out, hd])
          clear htn hd
          go_region_law (first
            | (refine step_extend rfl (.tmp 33) (.tmp 44) 24 rfl w.heap.size 33 _ 3 24 Tryd.underlying24 info_sup rfl (by decide) (by decide) (.slice A' q.length c') q.length _ rfl (ownsRow_below HO2.out (by repeat (first | (with_reducible exact Below.refl _ _) | ((with_reducible refine alloc_ ?_ ?_); (focus (first | exact Nat.le_refl _ | (simp; done) | (simp; omega) | omega))) | ((with_reducible refine set_ ?_ ?_); (focus (first | exact Nat.le_refl _ | (simp; done) | (simp; omega) | omega))) | (with_reducible refine Below.drew ?_) | ((with_reducible refine after_ ?_ (by assumption) ?_); (rotate_left; (focus (first | exact Nat.le_refl _ | (simp; done) | (simp; omega) | omega))))))) w2.heap.size 0 1 1 [.int .i64 a, .int .i64 h, .bool false] rfl rfl (news_one (cs := #[.int .i64 a, .int .i64 h, .bool false]) (by first | exact heap_alloc_new _ _ | exact heap_new' _ _ rfl)) (by intro u hu; simp at hu; rcases hu with rfl | rfl | rfl <;> rfl) (by omega) (by first | omega | (simp; omega)) ?_; intro v' w' hown' hb' hk'; have HO' := Lib.hid hown'; have HB' := Lib.hid hb'; have HKK := Lib.hid (hk' b1 (by first | omega | (simp; omega)) HNB.out); clear hown' hk' hb'))
          all_goals
            have HB3 := Lib.hid (show Below w.heap.size w w' from HBw2.out.trans ((Below.mono (B := w2.heap.size) (((Below.refl _ _).alloc (Nat.le_refl _) (.cells #[.int .i64 a, .int .i64 h, .bool false] 33)).drew) HBw2.out.size).trans HB'.out))
            have HC3 := Lib.hid (show ∀ t, t < ps.length → w'.cell? ⟨b1, t, none⟩ = some (.string (nth ps t)) from fun t ht => by
              rw [World.cell?_of_block (a := ⟨b1, t, none⟩) (HKK.out.1.trans (show ((w2.alloc (.cells #[.int .i64 a, .int .i64 h, .bool false] 33)).drew).heap[b1]? = w2.heap[b1]? from ((((Below.refl w2.heap.size w2).alloc (Nat.le_refl _) (.cells #[.int .i64 a, .int .i64 h, .bool false] 33)).drew).block b1 (by omega))))]
              exact HC2.out t ht)
            have HN := Lib.hid (show ∀ t, t < k + 1 → rdI (nth ps t).data.toList = some (nth (q ++ [(⟨a, h, false⟩ : Sup)]) t) from fun t ht => by
              have hqk := HQ.out
              by_cases e : t < q.length
              · rw [nth_snoc_l e]; exact HA.out t (by omega)
              · obtain rfl : t = q.length := by omega
                rw [nth_snoc_r, hqk]; exact HRD.out)
            have HO3 := Lib.hid (show w'.ownsRow w.heap.size 33 3 v' (q ++ [(⟨a, h, false⟩ : Sup)]).length (((q ++ [(⟨a, h, false⟩ : Sup)]).map Sup.cells).flatten) by simpa [Sup.cells] using HO'.out)
            have hl3 : b1 < w'.heap.size := by have := HB'.out.size; simp at this; omega
            clear HO' HB'
            go_wp2_with fail
            go_roundw
            case rel => exact ⟨k + 1, q ++ [(⟨a, h, false⟩ : Sup)], by omega, by have := HQ.out; simp; omega, by simp; omega, by go_num, HN.out, HO3.out, HKK.out.2, hl3, HB3.out, HC3.out⟩
            case measure => simp [intOf]; omega
      · have H := Lib.hid (HF.out.none HLS.out (by rw [HNT.out]; exact rdI_no (by rw [← HU.out]; exact hno)))
        clear hno
        go_wp2_with fail
        go_ret2
        exact parse_none (w := w) H.out HBw2.out
    · obtain rfl : k = ps.length := by omega
      have hrd : Rd wr wr.heap.size 3 Sup.cells A' q := (Own.of_row' HO.out rfl rfl (fun _ => rfl)).rd fun _ => rfl
      have HR := Lib.hid hrd
      have HW := Lib.hid (Own.of_row' (l := q) HO.out rfl rfl (fun _ => rfl))
      have HNO := Lib.hid (fun hno => HF.out.no (q := q) (by rw [← HPS.out, HQ.out]; simp) (fun t ht => by rw [parts_nth HPS.out (by have := HQ.out; omega)]; exact HA.out t (by have := HQ.out; omega)) hno)
      clear hbel hrd
      go_wp2_with fail
      refine (IsLine_c q A' c' _ (by omega) HR.out).mono ?_
      rintro e w2 ⟨rfl, hb2⟩
      have HB2 := Lib.hid (HB.out.trans (hb2.mono zr))
      have HR2 := Lib.hid (HR.out.carry hb2)
      have HW2 := Lib.hid (HW.out.carry hb2)
      clear hb2
      rcases hg : goodU q with _ | _
      · have H := Lib.hid (HNO.out (fun e => by rw [hg] at e; cases e.1))
        clear hg
        go_wp2_with fail
        go_ret2
        exact parse_none (w := w) H.out HB2.out
      · have HG := Lib.hid hg
        go_wp2_with fail
        refine (implLineText_c q A' c' _ HG.out HR2.out (HT.out.carry HB2.out)).mono ?_
        rintro e w3 ⟨rfl, hb3⟩
        have HB3 := Lib.hid (HB2.out.trans (hb3.mono HB2.out.size))
        have HW3 := Lib.hid (HW2.out.carry hb3)
        obtain ⟨t, ht⟩ : ∃ t, S (lineL q) = t := ⟨_, rfl⟩
        have HTX := Lib.hid ht
        rw [ht]
        clear hb3 ht hg
        by_cases hq : t = s
        · have H := Lib.hid (Fits.yes (s := s.data.toList) HG.out (by rw [← hq, ← HTX.out, S_data]))
          have hq' : (t.toList == s.toList) = true := by rw [hq]; simp
          clear hq
          go_wp2_with fail
          go_ret2
          exact ⟨(q, true), H.out, A', c', rfl, HW3.out, HB3.out⟩
        · have H := Lib.hid (HNO.out (fun e => hq (by rw [← HTX.out, e.2]; exact (S_of s).symm)))
          have hq' : (t.toList == s.toList) = false := by rw [beq_eq_false_iff_ne]; intro e; exact hq (toList_inj e)
          clear hq
          go_wp2_with fail
          go_ret2
          exact parse_none (w := w) H.out HB3.out
end Go.Proofs.YtpchcblialkpcaaDoor
