/- The cabins of a queue: the program's function returns the plain lists' answer; no conditions but that the queue is valid. -/
import Derived.Test.YtalabohacedgnaaCabs
namespace Go.Proofs.Ytalabohacedgnaa
open Go.RowKit

section
variable {w w' w2 : World} {g gt : Nat} {t : List Int} {A : Option Addr} {q : List Gro}
theorem arr_off (h : Arr w gt t) (hg : w.grownBy w' (some g)) (hne : gt ≠ g) : Arr w' gt t := h.keep (hg.block gt h.lt (by simpa using hne))
def Qr (w : World) (g : Nat) (A : Option Addr) (q : List Gro) : Prop := Rd w w.heap.size 2 Gro.cells A q ∧ (0 < q.length → ∀ b off, A = some ⟨b, off, none⟩ → b ≠ g)
theorem Qr.off (h : Qr w g A q) (hg : w.grownBy w' (some g)) : Qr w' g A q := ⟨fun i hi => by
  obtain ⟨b, off, rfl, hlt, hc⟩ := h.1 i hi
  have hne := h.2 (by omega) b off rfl
  exact ⟨b, off, rfl, Nat.lt_of_lt_of_le hlt hg.size, fun j v hv => (World.cell?_of_block (hg.block b hlt (by simpa using hne))).trans (hc j v hv)⟩, h.2⟩
theorem Qr.carry (h : Qr w g A q) (hb : Below w.heap.size w w') : Qr w' g A q := ⟨h.1.carry hb, h.2⟩
theorem off_below (hg : w.grownBy w' (some g)) (hb : Below w'.heap.size w' w2) : w.grownBy w2 (some g) :=
  ⟨hb.os.trans hg.os, hb.tape.trans hg.tape, hb.output.trans hg.output, Nat.le_trans hg.size hb.size, fun i hi hne => (hb.block i (Nat.lt_of_lt_of_le hi hg.size)).trans (hg.block i hi hne)⟩
theorem off_grown (hg : w.grownBy w' (some g)) (hb : Below w.heap.size w' w2) : w.grownBy w2 (some g) :=
  ⟨hb.os.trans hg.os, hb.tape.trans hg.tape, hb.output.trans hg.output, Nat.le_trans hg.size hb.size, fun i hi hne => (hb.block i hi).trans (hg.block i hi hne)⟩
end
theorem outTo_yes {out t u : List Int} {c : Int} {k j : Nat} (h : hasI u k = true) (hj : nth t k = j) : outTo out c t u (k + 1) = (outTo out c t u k).set j c := by rw [outTo, if_pos h, hj]; rfl
theorem outTo_not {out t u : List Int} {c : Int} {k : Nat} (h : hasI u k = false) : outTo out c t u (k + 1) = outTo out c t u k := by rw [outTo, if_neg (by simp [h])]
theorem leftTo_yes {t u : List Int} {k : Nat} (h : hasI u k = true) : leftTo t u (k + 1) = leftTo t u k := by rw [leftTo, if_pos h]
theorem leftTo_not {t u : List Int} {k : Nat} (h : hasI u k = false) : leftTo t u (k + 1) = leftTo t u k ++ [nth t k] := by rw [leftTo, if_neg (by simp [h])]
theorem cabsG_next {l : List Gro} {s : Int} {t : List Int} {c : Int} {out : List Int} {R : List Int × Int} (h : ∃ m, t.length < m ∧ cabsG l s m t c out = R) (h0 : 0 < t.length) (hl : (leftTo t (fillL (pickG l t) s) t.length).length < t.length) :
    ∃ m, (leftTo t (fillL (pickG l t) s) t.length).length < m ∧ cabsG l s m (leftTo t (fillL (pickG l t) s) t.length) (c + 1) (outTo out c t (fillL (pickG l t) s) t.length) = R := by
  obtain ⟨m, hm, he⟩ := h
  obtain ⟨m, rfl⟩ : ∃ m', m = m' + 1 := ⟨m - 1, by omega⟩
  rw [cabsG, if_neg (by omega)] at he
  exact ⟨m, by omega, he⟩
theorem cabsG_end {l : List Gro} {s : Int} {t : List Int} {c : Int} {out : List Int} {R : List Int × Int} (h : ∃ m, t.length < m ∧ cabsG l s m t c out = R) (h0 : t.length = 0) : R = (out, c) := by
  obtain ⟨m, hm, he⟩ := h
  obtain ⟨m, rfl⟩ : ∃ m', m = m' + 1 := ⟨m - 1, by omega⟩
  rw [cabsG, if_pos h0] at he
  exact he.symm
theorem map_snoc (t : List Int) (x : Int) : (t ++ [x]).map (Value.int .i64) = t.map (Value.int .i64) ++ [.int .i64 x] := by simp
def CabPost (p : List Int × Int) (w : World) (e : Ending) (w' : World) : Prop := ∃ g cap, e = .returned (.tuple #[.slice (some ⟨g, 0, none⟩) p.1.length cap, .int .i64 p.2]) ∧ w.heap.size ≤ g ∧ Arr w' g p.1 ∧ Below w.heap.size w w'
theorem owns_less {w : World} {base base' size n : Nat} {e : TypeId} {v : Value} {xs : List Value} (h : w.ownsRow base e size v n xs) (hb : base' ≤ base) : w.ownsRow base' e size v n xs :=
  ⟨h.1, h.2.imp id fun ⟨g, cap, cur, hv, hg, hr⟩ => ⟨g, cap, cur, hv, Nat.le_trans hb hg, hr⟩⟩
theorem fill_len2 {l : List Gro} {s : Int} (hs : 0 ≤ s) (hg : ∀ i, i < l.length → 1 ≤ (nth l i).s) : (fillL l s).length ≤ l.length := by
  have hw := way_to hg (way_lane (s := s) hs hg 1 (by omega)) l.length (Nat.le_refl _)
  have e : lanes l s 2 = laneTo l false (lanes l s 1) l.length := rfl
  rw [fillL, isort_len, e]
  exact hw.len
set_option maxHeartbeats 1600000 in
set_option maxRecDepth 100000 in
theorem cabins_c (l : List Gro) (A : Option Addr) (cap : Nat) (s : Int) (w : World) (hr : Rd w w.heap.size 2 Gro.cells A l) (hl12 : l.length ≤ 12) (hg : ∀ i, i < l.length → 1 ≤ (nth l i).s ∧ (nth l i).s ≤ 8) (hf : ∀ i, i < l.length → (nth l i).s ≤ s) (hs : 0 ≤ s) (hs2 : s ≤ 1000) :
    Calls Try.prog 69 #[.slice A l.length cap, .int .i64 s] w (CabPost (cabs l s) w) := by
  have HG := Lib.hid hg
  have HF := Lib.hid (fun i hi => (⟨(hg i hi).1, hf i hi⟩ : 1 ≤ (nth l i).s ∧ (nth l i).s ≤ s))
  clear hg hf
  have hmk := run_make_row' (P := Try.prog) 37 3 (.int .i64 0) 8 Try.underlying37 info_int rfl .i64 .i64 l.length (by omega) (by omega)
  go_enter Try.func69, Try.ntmps69
  go_wp2_with fail
  go_loopw [7, 9, 20] (fun v _ i wr => ∃ k : Nat, k ≤ l.length ∧ i = .int .i64 k ∧ wr.ownsRow (w.heap.size + 1) 3 1 v (upN k).length ((upN k).map (Value.int .i64)) ∧ Arr wr w.heap.size (List.replicate l.length 0) ∧ Below w.heap.size w wr ∧ w.heap.size + 2 ≤ wr.heap.size) (fun _ _ i _ => l.length - (intOf i).toNat)
  case atStart => exact ⟨0, Nat.zero_le _, rfl, by have h := ownsRow_empty (w.alloc (.cells (madeCells #[.int .i64 0] l.length) 3)) 3 1; rw [show (w.alloc (.cells (madeCells #[.int .i64 0] l.length) 3)).heap.size = w.heap.size + 1 by simp] at h; exact h, (Arr.made w l.length w.heap.size rfl).carry ((Below.refl _ _).alloc (Nat.le_refl _) _), (by repeat (first | (with_reducible exact Below.refl _ _) | ((with_reducible refine alloc_ ?_ ?_); (focus (first | exact Nat.le_refl _ | (simp; done) | (simp; omega) | omega))) | ((with_reducible refine set_ ?_ ?_); (focus (first | exact Nat.le_refl _ | (simp; done) | (simp; omega) | omega))) | (with_reducible refine Below.drew ?_) | ((with_reducible refine after_ ?_ (by assumption) ?_); (rotate_left; (focus (first | exact Nat.le_refl _ | (simp; done) | (simp; omega) | omega)))))), by simp⟩
  case round =>
    obtain ⟨k, hk, rfl, hown, harr, hbel, hsz⟩ := hrel
    have HB := Lib.hid hbel
    have HO := Lib.hid hown
    have HA := Lib.hid harr
    have hul := upN_len k
    obtain ⟨A3, cap3, rfl⟩ := ownsRow_shape hown
    by_cases hlt : k < l.length
    · clear hown harr hbel
      go_wp2_with (first | (fail) | (at_builtin; refine wpList_push2 _ rfl _ _ 37 rfl (w.heap.size + 1) 3 (.int .i64 0) 1 8 Try.underlying37 info_int rfl (by decide) (by decide) _ _ _ rfl (HO.out.alloc _) (wr.heap.size) [.int .i64 (k)] rfl rfl ?c1 ?c2 ?c3 ?c4 ?_))
      try case c1 =>
        intro j u hj
        match j, hj with
        | 0, hj => simp at hj; subst hj; simp [go_sem]
      case c2 => first | rfl | (intro u hu; simp at hu; subst hu; rfl)
      case c3 => first | omega | (simp; omega)
      case c4 => first | omega | (simp; omega)
      intro v' w' hown' hb' hk'
      have HO' := Lib.hid hown'
      have HA' := Lib.hid ((HA.out.carry ((Below.refl _ _).alloc (Nat.le_refl _) (.cells #[.int .i64 k] 3))).below hb' (by omega))
      have hz' := hb'.size
      have HB' := Lib.hid ((HB.out.alloc HB.out.size (.cells #[.int .i64 k] 3)).trans (hb'.mono (by omega)))
      clear hown' hb' hk'
      go_wp2_with fail
      go_roundw
      case rel => exact ⟨k + 1, by omega, by go_num, by rw [upN, map_snoc, List.length_append, hul]; exact HO'.out, HA'.out, HB'.out, by simp at hz'; omega⟩
      case measure => simp [intOf]; omega
    · obtain rfl : k = l.length := by omega
      have HQ := Lib.hid (show Qr wr w.heap.size A (pickG l (upN l.length)) from ⟨by rw [pick_up]; exact (hr.below hbel (Nat.le_refl _)).mono hbel.size, fun h0 b off e => by
        rw [pick_len, upN_len] at h0
        obtain ⟨b', off', e', hb', _⟩ := hr 0 h0
        rw [e] at e'; simp at e'; omega⟩)
      have HC := Lib.hid (show ∃ m, (upN l.length).length < m ∧ cabsG l s m (upN l.length) 0 (List.replicate l.length 0) = cabs l s from ⟨l.length + 1, by omega, rfl⟩)
      clear hown harr hbel hmk
      rw [hul] at HO
      go_wp2_with fail
      go_loopg [0, 7, 8, 10, 11, 12, 13, 35, 36, 37, 54] (l.length) (fun gk q v c _ _ _ _ _ _ _ _ wr => ∃ (t out : List Int) (k : Nat) (A : Option Addr) (cp : Nat), q = .slice A t.length cp ∧ c = .int .i64 k ∧ t.length ≤ gk ∧ Waits l.length t ∧ out.length = l.length ∧ (∃ m, t.length < m ∧ cabsG l s m t k out = cabs l s) ∧ k + t.length ≤ l.length ∧ Qr wr w.heap.size A (pickG l t) ∧ wr.ownsRow (w.heap.size + 1) 3 1 v t.length (t.map (Value.int .i64)) ∧ Arr wr w.heap.size out ∧ Below w.heap.size w wr ∧ w.heap.size + 1 ≤ wr.heap.size)
      case atStart => exact ⟨upN l.length, List.replicate l.length 0, 0, A, cap, by rw [hul], rfl, by omega, waits_up _, by simp, HC.out, by omega, HQ.out, by rw [hul]; exact HO.out, HA.out, HB.out, by omega⟩
      case round =>
        obtain ⟨t, out, k, A, cp, rfl, rfl, htg, hW, hol, hC, hkt, hQ, hown, harr, hbel, hsz⟩ := hrel
        have HW := Lib.hid hW
        have HC := Lib.hid hC
        have HQ := Lib.hid hQ
        have HO := Lib.hid hown
        have HA := Lib.hid harr
        have HB := Lib.hid hbel
        clear hW hC hQ hown harr hbel
        by_cases h0 : 0 < t.length
        · have HLS := Lib.hid (left_less HW.out hs HF.out h0)
          have HCN := Lib.hid (cabsG_next HC.out h0 HLS.out)
          obtain ⟨gt, cpt, rfl, hgt, hat⟩ := Arr.of_owns HO.out rfl h0
          have HT := Lib.hid hat
          have HP := Lib.hid (pick_ok (s := 8) HW.out HG.out)
          have ht12 : t.length ≤ 12 := Nat.le_trans HW.out.1 hl12
          have hfc := fill_c (pickG l t) A cp s wr HQ.out.1 ⟨by rw [pick_len]; exact ht12, HP.out⟩ hs hs2
          rw [pick_len] at hfc
          have HFC := Lib.hid hfc
          clear hfc hat
          go_wp2_with fail
          refine HFC.out.mono ?_
          rintro e w2 ⟨gu, gc, rfl, hgu, hau, hb2⟩
          have hu12 := fill_len2 hs (fun i hi => (HP.out i hi).1)
          rw [pick_len] at hu12
          obtain ⟨u, hu⟩ : ∃ u, fillL (pickG l t) s = u := ⟨_, rfl⟩
          rw [hu] at HLS HCN hau hu12 ⊢
          have HQ2 := Lib.hid (HQ.out.carry hb2)
          have HT2 := Lib.hid (HT.out.carry hb2)
          have HA2 := Lib.hid (HA.out.carry hb2)
          have HU2 := Lib.hid hau
          have HB2 := Lib.hid (HB.out.trans (hb2.mono HB.out.size))
          have z2 := hb2.size
          clear hb2 hau HFC hu
          go_wp2_with fail
          go_loopw [11, 12, 13, 37] (fun r _ _ i wi => ∃ j : Nat, j ≤ t.length ∧ i = .int .i64 j ∧ wi.ownsRow w2.heap.size 3 1 r (leftTo t u j).length ((leftTo t u j).map (Value.int .i64)) ∧ Arr wi w.heap.size (outTo out k t u j) ∧ w2.grownBy wi (some w.heap.size)) (fun _ _ _ i _ => t.length - (intOf i).toNat)
          case atStart => exact ⟨0, Nat.zero_le _, rfl, ownsRow_empty w2 3 1, HA2.out.carry ((Below.refl _ _).alloc (Nat.le_refl _) _), off_below (World.grownBy.refl _ _) ((Below.refl _ _).alloc (Nat.le_refl _) _)⟩
          case round =>
            obtain ⟨j, hj, rfl, hown, harr, hgr⟩ := hrel
            have HOi := Lib.hid hown
            have HAi := Lib.hid harr
            have HGi := Lib.hid hgr
            have z3 := hgr.size
            have hTi := arr_off HT2.out hgr (by omega)
            have HUi := Lib.hid (arr_off HU2.out hgr (by omega))
            obtain ⟨A3, cap3, rfl⟩ := ownsRow_shape hown
            by_cases hlt : j < t.length
            · have hc := hTi.cell hlt
              have hl3 := hTi.lt
              obtain ⟨x1, x2⟩ := waits_nth HW.out hlt
              obtain ⟨x, hx⟩ : ∃ x : Nat, nth t j = x := ⟨(nth t j).toNat, by omega⟩
              rw [hx] at hc x1 x2
              have HX := Lib.hid hx
              have hsb := Lib.hid HUi.out.rd
              have ho2 := harr.cell (i := x) (by rw [outTo_len]; omega)
              have ho3 := harr.frozen x
              have hlo := leftTo_len (t := t) (u := u) j
              clear hown harr hgr hTi hx
              rcases hh : hasI u j with _ | _
              · have H1 := Lib.hid (outTo_not (out := out) (c := k) (t := t) hh)
                have H2 := Lib.hid (leftTo_not (t := t) hh)
                go_wp2_with (first | ((go_at_call 80; refine (containsI_c u _ _ _ _ (by omega) hsb.out).mono ?_; rintro e w' ⟨rfl, rfl⟩)) | (at_builtin; refine wpList_push2 _ rfl _ _ 37 rfl (w2.heap.size) 3 (.int .i64 0) 1 8 Try.underlying37 info_int rfl (by decide) (by decide) _ _ _ rfl (HOi.out.alloc _) (wr.heap.size) [.int .i64 (x)] rfl rfl ?c1 ?c2 ?c3 ?c4 ?_))
                try case c1 =>
                  intro j u hj
                  match j, hj with
                  | 0, hj => simp at hj; subst hj; simp [go_sem]
                case c2 => first | rfl | (intro u hu; simp at hu; subst hu; rfl)
                case c3 => first | omega | (simp; omega)
                case c4 => first | omega | (simp; omega)
                intro v' w' hown' hb' hk'
                have HO' := Lib.hid hown'
                have hz' := hb'.size
                have HA' := Lib.hid ((HAi.out.carry ((Below.refl _ _).alloc (Nat.le_refl _) (.cells #[.int .i64 x] 3))).below hb' (by omega))
                have HG' := Lib.hid (off_grown (off_below HGi.out ((Below.refl _ _).alloc (Nat.le_refl _) (.cells #[.int .i64 x] 3))) hb')
                clear hown' hb' hk' ho2 ho3
                go_wp2_with fail
                go_roundw
                case rel => exact ⟨j + 1, by omega, by go_num, by rw [H2.out, HX.out, map_snoc, List.length_append]; exact HO'.out, by rw [H1.out]; exact HA'.out, HG'.out⟩
                case measure => simp [intOf]; omega
              · have H1 := Lib.hid (outTo_yes (out := out) (c := k) (t := t) hh HX.out)
                have H2 := Lib.hid (leftTo_yes (t := t) hh)
                go_wp2_with (go_at_call 80; refine (containsI_c u _ _ _ _ (by omega) hsb.out).mono ?_; rintro e w' ⟨rfl, rfl⟩)
                go_roundw
                case rel => exact ⟨j + 1, by omega, by go_num, by rw [H2.out]; exact owns_set HOi.out (owns_apart HOi.out (by omega)), by rw [H1.out]; exact HAi.out.set x k, grown_set HGi.out⟩
                case measure => simp [intOf]; omega
            · obtain rfl : j = t.length := by omega
              have hac := after_c (pickG l t) u A (some ⟨gu, 0, none⟩) cp gc wr (HQ2.out.off hgr).1 HUi.out.rd (by omega) ⟨by rw [pick_len]; exact ht12, HP.out⟩
              unfold AftPost at hac
              rw [pick_len, rest_pick t.length (Nat.le_refl _), pick_len] at hac
              have HAC := Lib.hid hac
              clear hown harr hgr hTi hac
              go_wp2_with fail
              refine HAC.out.mono ?_
              rintro e w3 ⟨A4, cap4, rfl, ho4, hb4⟩
              have HO4 := Lib.hid ho4
              have HB4 := Lib.hid hb4
              have z4 := hb4.size
              clear ho4 hb4 HAC
              go_wp2_with fail
              go_roundg (leftTo t u t.length).length
              case measure => have := HLS.out; omega
              case rel =>
                have h5 := HLS.out
                refine ⟨leftTo t u t.length, outTo out k t u t.length, k + 1, A4, cap4, rfl, by go_num, Nat.le_refl _, waits_left HW.out, by rw [outTo_len]; exact hol, by have := HCN.out; simpa using this, by omega, ⟨HO4.out.rd fun _ => rfl, fun h0 b off e => ?_⟩, owns_less (ownsRow_below HOi.out HB4.out) (by omega), HAi.out.carry HB4.out, ?_, by omega⟩
                · obtain ⟨b', N, f, e', hb', _⟩ := HO4.out h0
                  rw [e] at e'; simp at e'; omega
                · exact HB2.out.trans (((Below.refl w.heap.size w2).grown HGi.out (by omega) (fun k e => by simp at e; omega)).trans (HB4.out.mono (by omega)))
        · have HE := Lib.hid (cabsG_end HC.out (by omega))
          obtain rfl : t = [] := List.length_eq_zero_iff.1 (by omega)
          go_wp2_with fail
          go_ret2
          exact ⟨w.heap.size, l.length, by rw [HE.out, hol]; rfl, Nat.le_refl _, by rw [HE.out]; exact HA.out, HB.out⟩
end Go.Proofs.Ytalabohacedgnaa
