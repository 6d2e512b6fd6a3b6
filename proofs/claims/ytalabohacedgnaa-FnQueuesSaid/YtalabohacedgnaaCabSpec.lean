/- The cabins of a queue: the reference's function returns the plain lists' answer; no conditions but that the queue is valid. -/
import Derived.Test.YtalabohacedgnaaCabins
namespace Go.Proofs.Ytalabohacedgnaa
open Go.RowKit

theorem ownsRow_keep {w w' : World} {base k n g c : Nat} {e : TypeId} {xs : List Value} (h : w.ownsRow base e k (.slice (some ⟨g, 0, none⟩) n c) n xs) (he : w'.heap[g]? = w.heap[g]?) : w'.ownsRow base e k (.slice (some ⟨g, 0, none⟩) n c) n xs :=
  ⟨h.1, h.2.imp id fun ⟨g', cap, cur, hv, hg, hh, hr⟩ => ⟨g', cap, cur, hv, hg, by
    simp at hv
    rw [← hv.1] at hh ⊢; rw [he]; exact hh, hr⟩⟩
theorem pick_take {l : List Gro} {t : List Int} {j : Nat} (hj : j < t.length) : pickG l (t.take (j + 1)) = pickG l (t.take j) ++ [nth l (nth t j).toNat] := by
  unfold pickG
  rw [List.take_add_one, List.getElem?_eq_getElem hj, nth_eq hj, List.map_append]; rfl
set_option maxHeartbeats 1600000 in
set_option maxRecDepth 100000 in
theorem l13Cabins_c (l : List Gro) (A : Option Addr) (cap : Nat) (s : Int) (w : World) (hr : Rd w w.heap.size 2 Gro.cells A l) (hl12 : l.length ≤ 12) (hg : ∀ i, i < l.length → 1 ≤ (nth l i).s ∧ (nth l i).s ≤ 8) (hf : ∀ i, i < l.length → (nth l i).s ≤ s) (hs : 0 ≤ s) (hs2 : s ≤ 1000) :
    Calls Try.prog 68 #[.slice A l.length cap, .int .i64 s] w (Gives (cabs l s).1 w) := by
  have HG := Lib.hid hg
  have HF := Lib.hid (fun i hi => (⟨(hg i hi).1, hf i hi⟩ : 1 ≤ (nth l i).s ∧ (nth l i).s ≤ s))
  clear hg hf
  have hmk := run_make_row' (P := Try.prog) 37 3 (.int .i64 0) 8 Try.underlying37 info_int rfl .i64 .i64 l.length (by omega) (by omega)
  go_enter Try.func68, Try.ntmps68
  go_wp2_with fail
  go_loopw [6, 7] (fun v i wr => ∃ k : Nat, k ≤ l.length ∧ i = .int .i64 k ∧ wr.ownsRow (w.heap.size + 1) 3 1 v (upN k).length ((upN k).map (Value.int .i64)) ∧ Arr wr w.heap.size (List.replicate l.length 0) ∧ Below w.heap.size w wr ∧ w.heap.size + 2 ≤ wr.heap.size) (fun _ i _ => l.length - (intOf i).toNat)
  case atStart => exact ⟨0, Nat.zero_le _, rfl, by have h := ownsRow_empty (w.alloc (.cells (madeCells #[.int .i64 0] l.length) 3)) 3 1; rw [show (w.alloc (.cells (madeCells #[.int .i64 0] l.length) 3)).heap.size = w.heap.size + 1 by simp] at h; exact h, (Arr.made w l.length w.heap.size rfl).carry ((Below.refl _ _).alloc (Nat.le_refl _) _), (by repeat (first | (with_reducible exact Below.refl _ _) | ((with_reducible refine alloc_ ?_ ?_); (focus (first | exact Nat.le_refl _ | (simp; done) | (simp; omega) | omega))) | ((with_reducible refine set_ ?_ ?_); (focus (first | exact Nat.le_refl _ | (simp; done) | (simp; omega) | omega))) | (with_reducible refine Below.drew ?_) | ((with_reducible refine after_ ?_ (by assumption) ?_); (rotate_left; (focus (first | exact Nat.le_refl _ | (simp; done) | (simp; omega) | omega)))))), by simp⟩
  case round =>
    obtain ⟨k, hk, rfl, hown, harr, hbel, hsz⟩ := hrel
    have HB := Lib.hid hbel
    have HO := Lib.hid hown
    have HA := Lib.hid harr
    have hul := upN_len k
    obtain ⟨A3, cap3, rfl⟩ := ownsRow_shape hown
    by_cases hlt : k < l.length
    · clear hown harr hbel
      go_wp2_with (first | (fail) | (at_builtin; refine wpList_push2 _ rfl _ _ 37 rfl (w.heap.size + 1) 3 (.int .i64 0) 1 8 Try.underlying37 info_int rfl (by decide) (by decide) _ _ _ rfl (HO.out.alloc _) (wr.heap.size) [.int .i64 (k)] rfl rfl ?c1 ?c2 ?c3 ?c4 ?_))
      try case c1 =>
        intro j u hj
        match j, hj with
        | 0, hj => simp at hj; subst hj; simp [go_sem]
      case c2 => first | rfl | (intro u hu; simp at hu; subst hu; rfl)
      case c3 => first | omega | (simp; omega)
      case c4 => first | omega | (simp; omega)
      intro v' w' hown' hb' hk'
      have HO' := Lib.hid hown'
      have HA' := Lib.hid ((HA.out.carry ((Below.refl _ _).alloc (Nat.le_refl _) (.cells #[.int .i64 k] 3))).below hb' (by omega))
      have hz' := hb'.size
      have HB' := Lib.hid ((HB.out.alloc HB.out.size (.cells #[.int .i64 k] 3)).trans (hb'.mono (by omega)))
      clear hown' hb' hk'
      go_wp2_with fail
      go_roundw
      case rel => exact ⟨k + 1, by omega, by go_num, by rw [upN, map_snoc, List.length_append, hul]; exact HO'.out, HA'.out, HB'.out, by simp at hz'; omega⟩
      case measure => simp [intOf]; omega
    · obtain rfl : k = l.length := by omega
      have HC := Lib.hid (show ∃ m, (upN l.length).length < m ∧ cabsG l s m (upN l.length) 0 (List.replicate l.length 0) = cabs l s from ⟨l.length + 1, by omega, rfl⟩)
      clear hown harr hbel hmk
      rw [hul] at HO
      go_wp2_with fail
      go_loopg [6, 8, 9, 10, 11, 12, 13] (l.length) (fun gk v c _ _ _ _ _ wr => ∃ (t out : List Int) (k : Nat), c = .int .i64 k ∧ t.length ≤ gk ∧ Waits l.length t ∧ out.length = l.length ∧ (∃ m, t.length < m ∧ cabsG l s m t k out = cabs l s) ∧ k + t.length ≤ l.length ∧ wr.ownsRow (w.heap.size + 1) 3 1 v t.length (t.map (Value.int .i64)) ∧ Arr wr w.heap.size out ∧ Below w.heap.size w wr ∧ w.heap.size + 1 ≤ wr.heap.size)
      case atStart => exact ⟨upN l.length, List.replicate l.length 0, 0, rfl, by omega, waits_up _, by simp, HC.out, by omega, by rw [hul]; exact HO.out, HA.out, HB.out, by omega⟩
      case round =>
        obtain ⟨t, out, k, rfl, htg, hW, hol, hC, hkt, hown, harr, hbel, hsz⟩ := hrel
        have HW := Lib.hid hW
        have HC := Lib.hid hC
        have HO := Lib.hid hown
        have HA := Lib.hid harr
        have HB := Lib.hid hbel
        obtain ⟨A6, cap6, rfl⟩ := ownsRow_shape hown
        clear hW hC hown harr hbel
        by_cases h0 : 0 < t.length
        · have HLS := Lib.hid (left_less HW.out hs HF.out h0)
          have HCN := Lib.hid (cabsG_next HC.out h0 HLS.out)
          obtain ⟨gt, cpt, hv6, hgt, hat⟩ := Arr.of_owns HO.out rfl h0
          simp only [Value.slice.injEq, true_and] at hv6
          obtain ⟨rfl, rfl⟩ := hv6
          have HT := Lib.hid hat
          have HP := Lib.hid (pick_ok (s := 8) HW.out HG.out)
          have ht12 : t.length ≤ 12 := Nat.le_trans HW.out.1 hl12
          have tl := hat.lt
          obtain ⟨B0, hB0⟩ : ∃ B0, wr.heap.size = B0 := ⟨_, rfl⟩
          clear hat
          have HE0 := Lib.hid (show ((wr.alloc (.cells #[] 52)).alloc (.cells #[] 3)).ownsRow B0 52 2 (.slice (some ⟨B0, 0, none⟩) 0 0) 0 [] by rw [← hB0]; exact (ownsRow_empty wr 52 2).alloc _)
          have HE1 := Lib.hid (show ((wr.alloc (.cells #[] 52)).alloc (.cells #[] 3)).ownsRow B0 3 1 (.slice (some ⟨B0 + 1, 0, none⟩) 0 0) 0 [] by
            have h := ownsRow_empty (wr.alloc (.cells #[] 52)) 3 1
            rw [show (wr.alloc (.cells #[] 52)).heap.size = B0 + 1 by simp [hB0]] at h
            exact owns_less h (by omega))
          have HB1 := Lib.hid (show Below B0 wr ((wr.alloc (.cells #[] 52)).alloc (.cells #[] 3)) from ((Below.refl _ _).alloc (by omega) _).alloc (by simp; omega) _)
          go_wp2_with fail
          go_loopw [9, 11] (fun v i wi => ∃ j : Nat, j ≤ t.length ∧ i = .int .i64 j ∧ wi.ownsRow B0 52 2 v j (((pickG l (t.take j)).map Gro.cells).flatten) ∧ wi.ownsRow B0 3 1 (.slice (some ⟨B0 + 1, 0, none⟩) 0 0) 0 [] ∧ v.ownBlock ≠ some (B0 + 1) ∧ Below B0 wr wi ∧ B0 + 2 ≤ wi.heap.size) (fun _ i _ => t.length - (intOf i).toNat)
          case atStart => exact ⟨0, Nat.zero_le _, rfl, HE0.out, HE1.out, by simp [Value.ownBlock], HB1.out, by simp; omega⟩
          case round =>
            obtain ⟨j, hj, rfl, hown, hrow, hne, hbel, hz⟩ := hrel
            have HOa := Lib.hid hown
            have HRa := Lib.hid hrow
            have HNa := Lib.hid hne
            have HBa := Lib.hid hbel
            have hTi := HT.out.below hbel (by omega)
            obtain ⟨A5, cap5, rfl⟩ := ownsRow_shape hown
            by_cases hlt : j < t.length
            · have hc := hTi.cell hlt
              have hl3 := hTi.lt
              obtain ⟨x1, x2⟩ := waits_nth HW.out hlt
              obtain ⟨x, hx⟩ : ∃ x : Nat, nth t j = x := ⟨(nth t j).toNat, by omega⟩
              rw [hx] at hc x1 x2
              have HX := Lib.hid hx
              obtain ⟨b, off, rfl, hb1, hcs⟩ := Gro.rd (hr.below (HB.out.trans (hbel.mono (by omega))) (Nat.le_refl _)) (show x < l.length by omega)
              have l1 : b < wr.heap.size := by omega
              clear hown hrow hne hbel hTi hx
              go_wp2_with (at_builtin; refine wpList_push2 _ rfl _ _ 25 rfl (B0) 52 (.agg #[.int .i64 0, .bool false]) 2 16 Try.underlying25 info_gro rfl (by decide) (by decide) _ _ _ rfl (HOa.out.alloc _) wr.heap.size [.int .i64 (nth l x).s, .bool (nth l x).q] rfl rfl ?c1 ?c2 ?c3 ?c4 ?_)
              try case c1 =>
                intro j u hj
                match j, hj with
                | 0, hj => simp at hj; subst hj; simp [go_sem]
                | 1, hj => simp at hj; subst hj; simp [go_sem]
              case c2 => first | exact ⟨rfl, rfl⟩ | (intro u hu; simp at hu; rcases hu with rfl | rfl <;> rfl) | (simp; exact ⟨rfl, rfl⟩)
              case c3 => omega
              case c4 => first | omega | (simp; omega)
              intro v' w' hown' hb' hk'
              have HO' := Lib.hid hown'
              have HB' := Lib.hid ((HBa.out.alloc (by omega) (.cells #[.int .i64 (nth l x).s, .bool (nth l x).q] 52)).trans hb')
              have HK := Lib.hid (hk' (B0 + 1) (by simp; omega) HNa.out)
              have HR' := Lib.hid (ownsRow_keep (HRa.out.alloc (.cells #[.int .i64 (nth l x).s, .bool (nth l x).q] 52)) HK.out.1)
              have hz' := hb'.size
              clear hown' hb' hk'
              go_wp2_with fail
              go_roundw
              case rel => exact ⟨j + 1, by omega, by go_num, by rw [pick_take hlt, HX.out, ← flat_push]; exact HO'.out, HR'.out, HK.out.2, HB'.out, by simp at hz'; omega⟩
              case measure => simp [intOf]; omega
            · obtain rfl : j = t.length := by omega
              rw [List.take_length] at hown
              have hq := (Own.of_row' hown pick_len.symm rfl fun _ => rfl).rd (fun _ => rfl)
              have hfc := l13Fill_c (pickG l t) A5 cap5 s wr hq ⟨by rw [pick_len]; exact ht12, HP.out⟩ hs hs2
              rw [pick_len] at hfc
              have HFC := Lib.hid hfc
              have HTa := Lib.hid hTi
              have HAa := Lib.hid (HA.out.below hbel (by omega))
              have HB2 := Lib.hid (HB.out.trans (hbel.mono (by omega)))
              clear hown hrow hne hbel hTi hfc hq
              go_wp2_with fail
              refine HFC.out.mono ?_
              rintro e w3 ⟨gu, gc, rfl, hgu, hau, hb3⟩
              have hu12 := fill_len2 hs (fun i hi => (HP.out i hi).1)
              rw [pick_len] at hu12
              obtain ⟨u, hu⟩ : ∃ u, fillL (pickG l t) s = u := ⟨_, rfl⟩
              rw [hu] at HLS HCN hau hu12 ⊢
              have HT3 := Lib.hid (HTa.out.carry hb3)
              have HA3 := Lib.hid (HAa.out.carry hb3)
              have HU3 := Lib.hid hau
              have HR3 := Lib.hid (ownsRow_below HRa.out hb3)
              have HB3 := Lib.hid (HB2.out.trans (hb3.mono (by omega)))
              have z3 := hb3.size
              clear hb3 hau HFC hu
              go_wp2_with fail
              go_loopw [10, 13] (fun r i wi => ∃ j : Nat, j ≤ t.length ∧ i = .int .i64 j ∧ wi.ownsRow B0 3 1 r (leftTo t u j).length ((leftTo t u j).map (Value.int .i64)) ∧ r.ownBlock ≠ some gu ∧ Arr wi gu u ∧ Arr wi gt t ∧ Arr wi w.heap.size (outTo out k t u j) ∧ Below w.heap.size w wi ∧ B0 + 2 ≤ wi.heap.size) (fun _ i _ => t.length - (intOf i).toNat)
              case atStart => exact ⟨0, Nat.zero_le _, rfl, HR3.out, by simp [Value.ownBlock]; omega, HU3.out, HT3.out, HA3.out, HB3.out, by omega⟩
              case round =>
                obtain ⟨j, hj, rfl, hown, hne, hUi, hTi, harr, hbel, hz⟩ := hrel
                have HOi := Lib.hid hown
                have HNi := Lib.hid hne
                have HUi := Lib.hid hUi
                have HTi := Lib.hid hTi
                have HAi := Lib.hid harr
                have HBi := Lib.hid hbel
                obtain ⟨A7, cap7, rfl⟩ := ownsRow_shape hown
                by_cases hlt : j < t.length
                · have hc := hTi.cell hlt
                  have hl3 := hTi.lt
                  have hl4 := hUi.lt
                  obtain ⟨x1, x2⟩ := waits_nth HW.out hlt
                  obtain ⟨x, hx⟩ : ∃ x : Nat, nth t j = x := ⟨(nth t j).toNat, by omega⟩
                  rw [hx] at hc x1 x2
                  have HX := Lib.hid hx
                  have hsb := Lib.hid hUi.rd
                  have ho2 := harr.cell (i := x) (by rw [outTo_len]; omega)
                  have ho3 := harr.frozen x
                  have hlo := leftTo_len (t := t) (u := u) j
                  clear hown hne hUi hTi harr hbel hx
                  rcases hh : hasI u j with _ | _
                  · have H1 := Lib.hid (outTo_not (out := out) (c := k) (t := t) hh)
                    have H2 := Lib.hid (leftTo_not (t := t) hh)
                    go_wp2_with (first | ((go_at_call 66; refine (l1Has_c u _ _ _ _ (by omega) hsb.out).mono ?_; rintro e w' ⟨rfl, rfl⟩)) | (at_builtin; refine wpList_push2 _ rfl _ _ 37 rfl (B0) 3 (.int .i64 0) 1 8 Try.underlying37 info_int rfl (by decide) (by decide) _ _ _ rfl (HOi.out.alloc _) (wr.heap.size) [.int .i64 (x)] rfl rfl ?c1 ?c2 ?c3 ?c4 ?_))
                    try case c1 =>
                      intro j u hj
                      match j, hj with
                      | 0, hj => simp at hj; subst hj; simp [go_sem]
                    case c2 => first | rfl | (intro u hu; simp at hu; subst hu; rfl)
                    case c3 => first | omega | (simp; omega)
                    case c4 => first | omega | (simp; omega)
                    intro v' w' hown' hb' hk'
                    have HO' := Lib.hid hown'
                    have hz' := hb'.size
                    have HK := Lib.hid (hk' gu (by first | omega | (simp; omega)) HNi.out)
                    have HU' := Lib.hid ((HUi.out.carry ((Below.refl _ _).alloc (Nat.le_refl _) (.cells #[.int .i64 x] 3))).keep HK.out.1)
                    have HT' := Lib.hid ((HTi.out.carry ((Below.refl _ _).alloc (Nat.le_refl _) (.cells #[.int .i64 x] 3))).below hb' (by omega))
                    have HA' := Lib.hid ((HAi.out.carry ((Below.refl _ _).alloc (Nat.le_refl _) (.cells #[.int .i64 x] 3))).below hb' (by omega))
                    have HB' := Lib.hid ((HBi.out.alloc HBi.out.size (.cells #[.int .i64 x] 3)).trans (hb'.mono (by omega)))
                    clear hown' hb' hk' ho2 ho3
                    go_wp2_with fail
                    go_roundw
                    case rel => exact ⟨j + 1, by omega, by go_num, by rw [H2.out, HX.out, map_snoc, List.length_append]; exact HO'.out, HK.out.2, HU'.out, HT'.out, by rw [H1.out]; exact HA'.out, HB'.out, by simp at hz'; omega⟩
                    case measure => simp [intOf]; omega
                  · have H1 := Lib.hid (outTo_yes (out := out) (c := k) (t := t) hh HX.out)
                    have H2 := Lib.hid (leftTo_yes (t := t) hh)
                    go_wp2_with (go_at_call 66; refine (l1Has_c u _ _ _ _ (by omega) hsb.out).mono ?_; rintro e w' ⟨rfl, rfl⟩)
                    go_roundw
                    case rel => exact ⟨j + 1, by omega, by go_num, by rw [H2.out]; exact owns_set HOi.out (owns_apart HOi.out (by omega)), HNi.out, HUi.out.far (show gu ≠ w.heap.size by omega) _, HTi.out.far (show gt ≠ w.heap.size by omega) _, by rw [H1.out]; exact HAi.out.set x k, HBi.out.setCell (Nat.le_refl _) _, by simpa [World.setCell] using hz⟩
                    case measure => simp [intOf]; omega
                · obtain rfl : j = t.length := by omega
                  clear hown hne hUi hTi harr hbel
                  go_wp2_with fail
                  go_roundg (leftTo t u t.length).length
                  case measure => have := HLS.out; omega
                  case rel =>
                    have h5 := HLS.out
                    exact ⟨leftTo t u t.length, outTo out k t u t.length, k + 1, by go_num, Nat.le_refl _, waits_left HW.out, by rw [outTo_len]; exact hol, by have := HCN.out; simpa using this, by omega, owns_less HOi.out (by omega), HAi.out, HBi.out, by omega⟩
        · have HE := Lib.hid (cabsG_end HC.out (by omega))
          obtain rfl : t = [] := List.length_eq_zero_iff.1 (by omega)
          go_wp2_with fail
          go_ret
          exact ⟨w.heap.size, l.length, by rw [HE.out, hol]; rfl, Nat.le_refl _, by rw [HE.out]; exact HA.out, HB.out⟩
end Go.Proofs.Ytalabohacedgnaa
