/- The text of a line as the program writes it; no conditions but that the line is good and the library's table lies where its text lays it. -/
import Derived.Test.YtpchcblialkpcaaDoorSupGood
import Derived.Test.YtpchcblialkpcaaDoorSupWays
import Derived.Test.YtpchcblialkpcaaDoorItoa
import Derived.Test.YtpchcblialkpcaaDoorL1Split
import Derived.Test.YtpchcblialkpcaaDoorPut
import Derived.Deep.RegionLaw
namespace Go.Proofs.YtpchcblialkpcaaDoor
open Go.RowKit

theorem str_of {f : FuncId} {args : Array Value} {W : World} {l : List UInt8} {a : ByteArray} (h : Calls Tryd.prog f args W fun e w' => e = .returned (.string (S l)) ∧ Below W.heap.size W w') (ha : S l = a) :
    Calls Tryd.prog f args W fun e w' => e = .returned (.string a) ∧ Below W.heap.size W w' := by subst ha; exact h
theorem num_S {n : Int} {a : ByteArray} (h0 : -1000000 ≤ n) (h1 : n ≤ 1000000) (h : S (num n) = a) : a.size ≤ 21 := by rw [← h, S_size]; exact num_len (by omega) (by omega)
theorem txt_cells {w : World} {base n g cap : Nat} {ps : List ByteArray} (h : w.ownsRow base 9 1 (.slice (some ⟨g, 0, none⟩) n cap) n (ps.map Value.string)) (hn : n = ps.length) : ∀ (j : Nat) x, ps[j]? = some x → w.cell? ⟨g, 0 + j, none⟩ = some (.string x) := fun j x hj => by
  have ho := Own.of_row' (cells := txtCells) (l := ps) h hn (by rw [flat_txt]) txt_one
  obtain ⟨hlt, hx⟩ := List.getElem?_eq_some_iff.1 hj
  obtain ⟨b, off, he, _, hc⟩ := (ho.rd txt_one) j hlt
  simp only [Option.some.injEq, Addr.mk.injEq, and_true] at he
  obtain ⟨rfl, rfl⟩ := he
  have := hc 0 (.string x) (by rw [nth_eq hlt, hx]; rfl)
  simpa using this
set_option maxRecDepth 100000 in
set_option maxHeartbeats 4000000 in
theorem implLineText_c (l : List Sup) (A : Option Addr) (cap : Nat) (w : World) (hg : goodU l = true) (hr : Rd w w.heap.size 3 Sup.cells A l) (hT : Tab w) :
    Calls Tryd.prog 24 #[.slice A l.length cap] w fun e w' => e = .returned (.string (S (lineL l))) ∧ Below w.heap.size w w' := by
  obtain ⟨g1, g2, _, _, _, g6, _⟩ := goodU_true hg
  have G6 := Lib.hid g6
  have HR := Lib.hid hr
  have HT := Lib.hid hT
  clear g6 hg hr hT
  have HO0 := Lib.hid (ownsRow_empty w 9 1)
  have HB0 := Lib.hid (show Below w.heap.size w (w.alloc (.cells #[] 9)) from (Below.refl _ _).alloc (Nat.le_refl _) _)
  go_enter Tryd.func24, Tryd.ntmps24
  go_wp2_with fail
  go_loopw [3, 5, 6, 10] (fun v _ _ i wr => ∃ (k : Nat) (ps : List ByteArray) (B : Option Addr) (c : Nat), k ≤ l.length ∧ ps.length = k ∧ i = .int .i64 k ∧ v = .slice B ps.length c ∧ ps.map (·.data.toList) = (l.take k).map supL ∧ wr.ownsRow w.heap.size 9 1 (.slice B ps.length c) ps.length (ps.map Value.string) ∧ Below w.heap.size w wr) (fun _ _ _ i _ => l.length - (intOf i).toNat)
  case atStart => exact ⟨0, [], _, _, Nat.zero_le _, rfl, rfl, rfl, rfl, HO0.out, HB0.out⟩
  case round =>
    obtain ⟨k, ps, B, c, hk, hpl, rfl, rfl, hps, hown, hbel⟩ := hrel
    have HO := Lib.hid hown
    have HB := Lib.hid hbel
    have HPS := Lib.hid hps
    have HPL := Lib.hid hpl
    have p8 : ps.length ≤ 8 := by omega
    have zr := hbel.size
    clear hown hps hpl
    by_cases hlt : k < l.length
    · obtain ⟨b, off, rfl, hb, c0, c1, c2⟩ := Sup.rd (HR.out.below hbel (Nat.le_refl _)) hlt
      obtain ⟨⟨a1, a2⟩, a3, a4⟩ := okU_true.1 (G6.out k hlt)
      have HTK := Lib.hid (show l.take (k + 1) = l.take k ++ [nth l k] by rw [List.take_succ_eq_append_getElem hlt, nth_eq hlt])
      obtain ⟨x, hx⟩ : ∃ x, nth l k = x := ⟨_, rfl⟩
      rw [hx] at c0 c1 c2 a1 a2 a3 a4 HTK
      obtain ⟨sa, ha⟩ : ∃ a, S (num x.a) = a := ⟨_, rfl⟩
      obtain ⟨sh, hh⟩ : ∃ a, S (num x.h) = a := ⟨_, rfl⟩
      have asz := num_S (by omega) (by omega) ha
      have hsz := num_S (by omega) (by omega) hh
      have HA := Lib.hid ha
      have HH := Lib.hid hh
      have z1 : (9223372036854775807 < 1 + sa.size) = False := by simp; omega
      have z2 : (9223372036854775807 < 1 + sa.size + 1) = False := by simp; omega
      have z3 : (9223372036854775807 < 1 + sa.size + 1 + sh.size) = False := by simp; omega
      have l1 : b < wr.heap.size := by omega
      have i1 : (k : Int) < l.length := by omega
      obtain ⟨wb, hwb⟩ : ∃ v, wr.alloc (.cells #[.int .i64 x.a, .int .i64 x.h, .bool x.s] 33) = v := ⟨_, rfl⟩
      have HX := Lib.hid (hwb ▸ Box.new wr x.cells 33 : Box wb wr.heap.size 33 3 x.cells)
      have hbw : Below wr.heap.size wr wb := hwb ▸ (Below.refl _ _).alloc (Nat.le_refl _) _
      have HBw := Lib.hid (HB.out.trans (hbw.mono zr))
      have HOw := Lib.hid (ownsRow_below HO.out hbw)
      have HTw := Lib.hid (HT.out.carry HBw.out)
      have zw := HBw.out.size
      have HN1 := Lib.hid (fun W (hW : Below wb.heap.size wb W) => str_of (itoa_c x.a W (by omega) (by omega) (HTw.out.carry hW)) HA.out)
      have HN2 := Lib.hid (fun W (hW : Below wb.heap.size wb W) => str_of (itoa_c x.h W (by omega) (by omega) (HTw.out.carry hW)) HH.out)
      have x0 := HX.out.cell (j := 0) rfl
      have x1 := HX.out.cell (j := 1) rfl
      have x2 := HX.out.cell (j := 2) rfl
      have xl := HX.out.lt
      clear hbel ha hh hx hbw
      rcases hs : x.s with _ | _
      · rw [hs] at c2 x2 hwb
        have hz : ((⟨#[84]⟩ : ByteArray) ++ sa ++ ⟨#[58]⟩ ++ sh).data.toList = supL x := by
          rw [← HA.out, ← HH.out]
          show (S [84] ++ S (num x.a) ++ S [58] ++ S (num x.h)).data.toList = _
          rw [S_app, S_app, S_app, S_data]
          simp [supL, hs]
        have HZ := Lib.hid hz
        clear hz hs
        have HWB := Lib.hid hwb
        clear hwb x2
        go_wp2_with fail
        rw [HWB.out]
        go_region_law (first
          | (go_simp; go_at_call 34; with_reducible refine (HN1.out _ (by repeat (first | (with_reducible exact Below.refl _ _) | ((with_reducible refine alloc_ ?_ ?_); (focus (first | exact Nat.le_refl _ | (simp; done) | (simp; omega) | omega))) | ((with_reducible refine set_ ?_ ?_); (focus (first | exact Nat.le_refl _ | (simp; done) | (simp; omega) | omega))) | (with_reducible refine Below.drew ?_) | ((with_reducible refine after_ ?_ (by assumption) ?_); (rotate_left; (focus (first | exact Nat.le_refl _ | (simp; done) | (simp; omega) | omega))))))).mono ?_; rintro e wi ⟨rfl, hbwi⟩; have zwi : wb.heap.size ≤ wi.heap.size := (by have q := hbwi.size; first | omega | (simp at q; omega)); have hxi := HX.out.carry (show Below wb.heap.size wb wi from (by repeat (first | (with_reducible exact Below.refl _ _) | ((with_reducible refine alloc_ ?_ ?_); (focus (first | exact Nat.le_refl _ | (simp; done) | (simp; omega) | omega))) | ((with_reducible refine set_ ?_ ?_); (focus (first | exact Nat.le_refl _ | (simp; done) | (simp; omega) | omega))) | (with_reducible refine Below.drew ?_) | ((with_reducible refine after_ ?_ (by assumption) ?_); (rotate_left; (focus (first | exact Nat.le_refl _ | (simp; done) | (simp; omega) | omega))))))); have y1 := hxi.cell (j := 1) rfl; have y0 := hxi.cell (j := 0) rfl; have yl := hxi.lt; clear hxi)
          | (go_simp; go_at_call 34; with_reducible refine (HN2.out _ (by repeat (first | (with_reducible exact Below.refl _ _) | ((with_reducible refine alloc_ ?_ ?_); (focus (first | exact Nat.le_refl _ | (simp; done) | (simp; omega) | omega))) | ((with_reducible refine set_ ?_ ?_); (focus (first | exact Nat.le_refl _ | (simp; done) | (simp; omega) | omega))) | (with_reducible refine Below.drew ?_) | ((with_reducible refine after_ ?_ (by assumption) ?_); (rotate_left; (focus (first | exact Nat.le_refl _ | (simp; done) | (simp; omega) | omega))))))).mono ?_; rintro e wj ⟨rfl, hbwj⟩; have zwj : wb.heap.size ≤ wj.heap.size := (by have q := hbwj.size; first | omega | (simp at q; omega)); have hxi := HX.out.carry (show Below wb.heap.size wb wj from (by repeat (first | (with_reducible exact Below.refl _ _) | ((with_reducible refine alloc_ ?_ ?_); (focus (first | exact Nat.le_refl _ | (simp; done) | (simp; omega) | omega))) | ((with_reducible refine set_ ?_ ?_); (focus (first | exact Nat.le_refl _ | (simp; done) | (simp; omega) | omega))) | (with_reducible refine Below.drew ?_) | ((with_reducible refine after_ ?_ (by assumption) ?_); (rotate_left; (focus (first | exact Nat.le_refl _ | (simp; done) | (simp; omega) | omega))))))); have y1 := hxi.cell (j := 1) rfl; have y0 := hxi.cell (j := 0) rfl; have yl := hxi.lt; clear hxi)
          | (refine step_extend rfl (.tmp 16) (.tmp 27) 43 rfl w.heap.size 9 (.string ⟨#[]⟩) 1 16 Tryd.underlying43 info_string rfl (by decide) (by decide) (.slice B ps.length c) ps.length _ rfl (ownsRow_below HOw.out (by repeat (first | (with_reducible exact Below.refl _ _) | ((with_reducible refine alloc_ ?_ ?_); (focus (first | exact Nat.le_refl _ | (simp; done) | (simp; omega) | omega))) | ((with_reducible refine set_ ?_ ?_); (focus (first | exact Nat.le_refl _ | (simp; done) | (simp; omega) | omega))) | (with_reducible refine Below.drew ?_) | ((with_reducible refine after_ ?_ (by assumption) ?_); (rotate_left; (focus (first | exact Nat.le_refl _ | (simp; done) | (simp; omega) | omega))))))) wj.heap.size 0 1 1 [.string ((⟨#[84]⟩ : ByteArray) ++ sa ++ ⟨#[58]⟩ ++ sh)] rfl rfl (news_one (cs := #[.string ((⟨#[84]⟩ : ByteArray) ++ sa ++ ⟨#[58]⟩ ++ sh)]) (by first | exact heap_alloc_new _ _ | exact heap_new' _ _ rfl)) (by intro u hu; simp at hu; subst hu; rfl) (by omega) (by first | omega | (simp; omega)) ?_; intro v' w' hown' hb' hk'; have HO' := Lib.hid hown'; have HB' := Lib.hid (show Below w.heap.size wb w' from (by first | exact (Below.mono (B := wb.heap.size) (by repeat (first | (with_reducible exact Below.refl _ _) | ((with_reducible refine alloc_ ?_ ?_); (focus (first | exact Nat.le_refl _ | (simp; done) | (simp; omega) | omega))) | ((with_reducible refine set_ ?_ ?_); (focus (first | exact Nat.le_refl _ | (simp; done) | (simp; omega) | omega))) | (with_reducible refine Below.drew ?_) | ((with_reducible refine after_ ?_ (by assumption) ?_); (rotate_left; (focus (first | exact Nat.le_refl _ | (simp; done) | (simp; omega) | omega)))))) zw).trans hb')); clear hown' hk' hb'))
        all_goals
          have HB2 := Lib.hid (HBw.out.trans HB'.out)
          obtain ⟨B2, c2, rfl⟩ := ownsRow_shape HO'.out
          have HM := Lib.hid (show (ps ++ [((⟨#[84]⟩ : ByteArray) ++ sa ++ ⟨#[58]⟩ ++ sh)]).map (·.data.toList) = (l.take (k + 1)).map supL by
            rw [HTK.out, List.map_append, List.map_append, HPS.out, List.map_singleton, List.map_singleton, HZ.out])
          have HO2 := Lib.hid (show w'.ownsRow w.heap.size 9 1 (.slice B2 (ps ++ [((⟨#[84]⟩ : ByteArray) ++ sa ++ ⟨#[58]⟩ ++ sh)]).length c2) (ps ++ [((⟨#[84]⟩ : ByteArray) ++ sa ++ ⟨#[58]⟩ ++ sh)]).length ((ps ++ [((⟨#[84]⟩ : ByteArray) ++ sa ++ ⟨#[58]⟩ ++ sh)]).map Value.string) by simpa using HO'.out)
          clear HO' HB'
          go_wp2_with fail
          go_roundw
          case rel => exact ⟨k + 1, _, B2, c2, by omega, by have := HPL.out; simp; omega, by go_num, by simp, HM.out, HO2.out, HB2.out⟩
          case measure => simp [intOf]; omega
      · rw [hs] at c2 x2 hwb
        have hz : ((⟨#[83]⟩ : ByteArray) ++ sa ++ ⟨#[58]⟩ ++ sh).data.toList = supL x := by
          rw [← HA.out, ← HH.out]
          show (S [83] ++ S (num x.a) ++ S [58] ++ S (num x.h)).data.toList = _
          rw [S_app, S_app, S_app, S_data]
          simp [supL, hs]
        have HZ := Lib.hid hz
        clear hz hs
        have HWB := Lib.hid hwb
        clear hwb x2
        go_wp2_with fail
        rw [HWB.out]
        go_region_law (first
          | (go_simp; go_at_call 34; with_reducible refine (HN1.out _ (by repeat (first | (with_reducible exact Below.refl _ _) | ((with_reducible refine alloc_ ?_ ?_); (focus (first | exact Nat.le_refl _ | (simp; done) | (simp; omega) | omega))) | ((with_reducible refine set_ ?_ ?_); (focus (first | exact Nat.le_refl _ | (simp; done) | (simp; omega) | omega))) | (with_reducible refine Below.drew ?_) | ((with_reducible refine after_ ?_ (by assumption) ?_); (rotate_left; (focus (first | exact Nat.le_refl _ | (simp; done) | (simp; omega) | omega))))))).mono ?_; rintro e wi ⟨rfl, hbwi⟩; have zwi : wb.heap.size ≤ wi.heap.size := (by have q := hbwi.size; first | omega | (simp at q; omega)); have hxi := HX.out.carry (show Below wb.heap.size wb wi from (by repeat (first | (with_reducible exact Below.refl _ _) | ((with_reducible refine alloc_ ?_ ?_); (focus (first | exact Nat.le_refl _ | (simp; done) | (simp; omega) | omega))) | ((with_reducible refine set_ ?_ ?_); (focus (first | exact Nat.le_refl _ | (simp; done) | (simp; omega) | omega))) | (with_reducible refine Below.drew ?_) | ((with_reducible refine after_ ?_ (by assumption) ?_); (rotate_left; (focus (first | exact Nat.le_refl _ | (simp; done) | (simp; omega) | omega))))))); have y1 := hxi.cell (j := 1) rfl; have y0 := hxi.cell (j := 0) rfl; have yl := hxi.lt; clear hxi)
          | (go_simp; go_at_call 34; with_reducible refine (HN2.out _ (by repeat (first | (with_reducible exact Below.refl _ _) | ((with_reducible refine alloc_ ?_ ?_); (focus (first | exact Nat.le_refl _ | (simp; done) | (simp; omega) | omega))) | ((with_reducible refine set_ ?_ ?_); (focus (first | exact Nat.le_refl _ | (simp; done) | (simp; omega) | omega))) | (with_reducible refine Below.drew ?_) | ((with_reducible refine after_ ?_ (by assumption) ?_); (rotate_left; (focus (first | exact Nat.le_refl _ | (simp; done) | (simp; omega) | omega))))))).mono ?_; rintro e wj ⟨rfl, hbwj⟩; have zwj : wb.heap.size ≤ wj.heap.size := (by have q := hbwj.size; first | omega | (simp at q; omega)); have hxi := HX.out.carry (show Below wb.heap.size wb wj from (by repeat (first | (with_reducible exact Below.refl _ _) | ((with_reducible refine alloc_ ?_ ?_); (focus (first | exact Nat.le_refl _ | (simp; done) | (simp; omega) | omega))) | ((with_reducible refine set_ ?_ ?_); (focus (first | exact Nat.le_refl _ | (simp; done) | (simp; omega) | omega))) | (with_reducible refine Below.drew ?_) | ((with_reducible refine after_ ?_ (by assumption) ?_); (rotate_left; (focus (first | exact Nat.le_refl _ | (simp; done) | (simp; omega) | omega))))))); have y1 := hxi.cell (j := 1) rfl; have y0 := hxi.cell (j := 0) rfl; have yl := hxi.lt; clear hxi)
          | (refine step_extend rfl (.tmp 16) (.tmp 27) 43 rfl w.heap.size 9 (.string ⟨#[]⟩) 1 16 Tryd.underlying43 info_string rfl (by decide) (by decide) (.slice B ps.length c) ps.length _ rfl (ownsRow_below HOw.out (by repeat (first | (with_reducible exact Below.refl _ _) | ((with_reducible refine alloc_ ?_ ?_); (focus (first | exact Nat.le_refl _ | (simp; done) | (simp; omega) | omega))) | ((with_reducible refine set_ ?_ ?_); (focus (first | exact Nat.le_refl _ | (simp; done) | (simp; omega) | omega))) | (with_reducible refine Below.drew ?_) | ((with_reducible refine after_ ?_ (by assumption) ?_); (rotate_left; (focus (first | exact Nat.le_refl _ | (simp; done) | (simp; omega) | omega))))))) wj.heap.size 0 1 1 [.string ((⟨#[83]⟩ : ByteArray) ++ sa ++ ⟨#[58]⟩ ++ sh)] rfl rfl (news_one (cs := #[.string ((⟨#[83]⟩ : ByteArray) ++ sa ++ ⟨#[58]⟩ ++ sh)]) (by first | exact heap_alloc_new _ _ | exact heap_new' _ _ rfl)) (by intro u hu; simp at hu; subst hu; rfl) (by omega) (by first | omega | (simp; omega)) ?_; intro v' w' hown' hb' hk'; have HO' := Lib.hid hown'; have HB' := Lib.hid (show Below w.heap.size wb w' from (by first | exact (Below.mono (B := wb.heap.size) (by repeat (first | (with_reducible exact Below.refl _ _) | ((with_reducible refine alloc_ ?_ ?_); (focus (first | exact Nat.le_refl _ | (simp; done) | (simp; omega) | omega))) | ((with_reducible refine set_ ?_ ?_); (focus (first | exact Nat.le_refl _ | (simp; done) | (simp; omega) | omega))) | (with_reducible refine Below.drew ?_) | ((with_reducible refine after_ ?_ (by assumption) ?_); (rotate_left; (focus (first | exact Nat.le_refl _ | (simp; done) | (simp; omega) | omega)))))) zw).trans hb')); clear hown' hk' hb'))
        all_goals
          have HB2 := Lib.hid (HBw.out.trans HB'.out)
          obtain ⟨B2, c2, rfl⟩ := ownsRow_shape HO'.out
          have HM := Lib.hid (show (ps ++ [((⟨#[83]⟩ : ByteArray) ++ sa ++ ⟨#[58]⟩ ++ sh)]).map (·.data.toList) = (l.take (k + 1)).map supL by
            rw [HTK.out, List.map_append, List.map_append, HPS.out, List.map_singleton, List.map_singleton, HZ.out])
          have HO2 := Lib.hid (show w'.ownsRow w.heap.size 9 1 (.slice B2 (ps ++ [((⟨#[83]⟩ : ByteArray) ++ sa ++ ⟨#[58]⟩ ++ sh)]).length c2) (ps ++ [((⟨#[83]⟩ : ByteArray) ++ sa ++ ⟨#[58]⟩ ++ sh)]).length ((ps ++ [((⟨#[83]⟩ : ByteArray) ++ sa ++ ⟨#[58]⟩ ++ sh)]).map Value.string) by simpa using HO'.out)
          clear HO' HB'
          go_wp2_with fail
          go_roundw
          case rel => exact ⟨k + 1, _, B2, c2, by omega, by have := HPL.out; simp; omega, by go_num, by simp, HM.out, HO2.out, HB2.out⟩
          case measure => simp [intOf]; omega
    · obtain rfl : k = l.length := by omega
      rcases HO.out.2 with ⟨_, h2⟩ | ⟨g, cap', cur, he, hg, hh, _⟩
      · have := HPL.out; omega
      · simp only [Value.slice.injEq, true_and] at he
        obtain ⟨rfl, rfl⟩ := he
        have hj : Lib.join (ps.map (·.data.toList)) [32] = lineL l := by rw [HPS.out, List.take_length, line_join]
        have hlen := line_len (l := l) G6.out
        have hglt : g < wr.heap.size := by
          rcases Nat.lt_or_ge g wr.heap.size with h | h
          · exact h
          · rw [Array.getElem?_eq_none h] at hh; cases hh
        have HJ := Lib.hid hj
        clear hbel hh hj
        go_wp2_with fail
        refine (Tryd.strings_Join g 0 c ps ⟨#[32]⟩ _ (txt_cells HO.out rfl) hglt (by omega) (own_cap HO.out) (by show (Lib.join (ps.map (·.data.toList)) [32]).length ≤ _; rw [HJ.out]; omega)).mono ?_
        rintro e w2 ⟨rfl, hb2⟩
        have HB2 := Lib.hid (HB.out.trans (hb2.mono zr))
        clear hb2
        go_wp2_with fail
        go_ret
        exact ⟨rets (show (⟨(Lib.join (ps.map (·.data.toList)) [32]).toArray⟩ : ByteArray) = S (lineL l) by rw [HJ.out]; rfl), HB2.out⟩
end Go.Proofs.YtpchcblialkpcaaDoor
