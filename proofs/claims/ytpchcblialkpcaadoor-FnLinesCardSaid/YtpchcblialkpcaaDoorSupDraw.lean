/- The arguments that the reference draws for the statement on lines; no conditions. -/
import Derived.Test.YtpchcblialkpcaaDoorSupD
import Derived.Test.YtpchcblialkpcaaDoorSupTextS
import Derived.Test.YtpchcblialkpcaaDoorSpoilt
namespace Go.Proofs.YtpchcblialkpcaaDoor
open Go.RowKit

def LineOnly (w : World) (e : Ending) (w' : World) : Prop := ∃ (g c : Nat) (l : List Sup), e = .returned (.slice (some ⟨g, 0, none⟩) l.length c) ∧ l.length ≤ 14 ∧ Own w' w.heap.size 33 3 Sup.cells (some ⟨g, 0, none⟩) l ∧ Below w.heap.size w w'
theorem drawIsLine_c (A : Option Addr) (n cap : Nat) (w : World) (hk : Codes w A n) : Calls Tryd.prog 18 #[.slice A n cap] w (LineOnly w) := by
  have HK := Lib.hid hk
  clear hk
  go_enter Tryd.func18, Tryd.ntmps18
  go_wp2_with fail
  refine (line_c w.heap.size 0 _ HK.out.cur (by omega)).mono ?_
  rintro e w1 ⟨g1, c1, l, rfl, hc1, hl, ho1, hcw1, hgw1⟩
  have HO := Lib.hid (ho1.less (B := w.heap.size) (by simp))
  have HB := Lib.hid (draw_end hgw1)
  clear ho1 hcw1 hgw1
  go_wp2_with fail
  go_ret
  exact ⟨g1, c1, l, rfl, hl, HO.out, HB.out⟩
theorem drawReverseLine_c (A : Option Addr) (n cap : Nat) (w : World) (hk : Codes w A n) : Calls Tryd.prog 5 #[.slice A n cap] w (LineOnly w) := by
  have HK := Lib.hid hk
  clear hk
  go_enter Tryd.func5, Tryd.ntmps5
  go_wp2_with fail
  refine (drawIsLine_c _ _ _ _ HK.out).mono ?_
  rintro e w1 ⟨g1, c1, l, rfl, hl, ho1, hb1⟩
  have HO := Lib.hid ho1
  have HB := Lib.hid hb1
  clear ho1 hb1
  go_wp2_with fail
  go_ret
  exact ⟨g1, c1, l, rfl, hl, HO.out, HB.out⟩
theorem drawLineText_c (A : Option Addr) (n cap : Nat) (w : World) (hk : Codes w A n) : Calls Tryd.prog 12 #[.slice A n cap] w (LineOnly w) := by
  have HK := Lib.hid hk
  clear hk
  go_enter Tryd.func12, Tryd.ntmps12
  go_wp2_with fail
  refine (drawIsLine_c _ _ _ _ HK.out).mono ?_
  rintro e w1 ⟨g1, c1, l, rfl, hl, ho1, hb1⟩
  have HO := Lib.hid ho1
  have HB := Lib.hid hb1
  clear ho1 hb1
  go_wp2_with fail
  go_ret
  exact ⟨g1, c1, l, rfl, hl, HO.out, HB.out⟩
def TextDr (m : Nat) (w : World) (e : Ending) (w' : World) : Prop := ∃ v : ByteArray, e = .returned (.string v) ∧ v.size ≤ m ∧ Below w.heap.size w w'
set_option maxHeartbeats 4000000 in
theorem drawParseLine_c (A : Option Addr) (n cap : Nat) (w : World) (hk : Codes w A n) : Calls Tryd.prog 16 #[.slice A n cap] w (TextDr 200 w) := by
  have HK := Lib.hid hk
  clear hk
  go_enter Tryd.func16, Tryd.ntmps16
  go_wp2_with fail
  refine (line_c w.heap.size 0 _ HK.out.cur (by omega)).mono ?_
  rintro e w1 ⟨g1, c1, l, rfl, hc1, hl, ho1, hcw1, hgw1⟩
  have HR1 := Lib.hid (ho1.rd fun _ => rfl)
  have HC1 := Lib.hid hcw1
  have HG1 := Lib.hid hgw1
  have z1 : w.heap.size ≤ w1.heap.size := by have := hgw1.size; simp at this; omega
  clear ho1 hcw1 hgw1
  go_wp2_with fail
  refine (l2Line_c l _ _ _ (by omega) HR1.out).mono ?_
  rintro e w2 ⟨rfl, hb2⟩
  have HR2 := Lib.hid (HR1.out.carry hb2)
  have HC2 := Lib.hid (HC1.out.carry hb2)
  have HG2 := Lib.hid (but_below HG1.out (hb2.mono HG1.out.size))
  clear hb2 HC1 HG1 HR1
  rcases hg : goodU l with _ | _
  · obtain ⟨s, hs⟩ : ∃ s : ByteArray, s = ⟨#[83, 48, 58, 49, 50, 48, 48, 32, 84, 51, 48, 48, 58, 49, 51, 53, 48, 32, 83, 57, 48, 48, 58, 49, 53, 48, 48]⟩ := ⟨_, rfl⟩
    have hss : s.size ≤ 100 := by rw [hs]; decide
    rw [← hs]
    clear hs
    go_wp2_with fail
    refine (one_c 4 _ _ _ HC2.out (by omega) (by omega) (by omega)).mono ?_
    rintro e w4 ⟨o, rfl, hcw4, hgw4⟩
    have HCw4 := Lib.hid hcw4
    have HGw4 := Lib.hid hgw4
    clear hcw4 hgw4
    rcases o with _ | _
    · have HB := Lib.hid (draw_end (but_trans HG2.out HGw4.out))
      go_wp2_with fail
      go_ret
      exact ⟨s, rfl, by omega, HB.out⟩
    · go_wp2_with fail
      refine (spoilt_c s _ _ _ _ HCw4.out (by omega) (by omega) (by decide) (by decide)).mono ?_
      rintro e w5 ⟨t, rfl, ht, hc5, hg5⟩
      have HB := Lib.hid (draw_end (but_trans (but_trans HG2.out HGw4.out) hg5))
      clear hc5 hg5
      go_wp2_with fail
      go_ret
      exact ⟨t, rfl, by omega, HB.out⟩
  · have HGD := Lib.hid hg
    have hln := line_len (goodU_true hg).2.2.2.2.2.1
    have hl8 := (goodU_true hg).2.1
    clear hg
    go_wp2_with fail
    refine (specLineText_c l _ _ _ HGD.out HR2.out).mono ?_
    rintro e w3 ⟨rfl, hb3⟩
    obtain ⟨s, hs⟩ : ∃ s, S (lineL l) = s := ⟨_, rfl⟩
    have hss : s.size ≤ 100 := by rw [← hs, S_size]; omega
    have HC3 := Lib.hid (HC2.out.carry hb3)
    have HG3 := Lib.hid (but_below HG2.out (hb3.mono HG2.out.size))
    rw [hs]
    clear hb3 hs
    go_wp2_with fail
    refine (one_c 4 _ _ _ HC3.out (by omega) (by omega) (by omega)).mono ?_
    rintro e w4 ⟨o, rfl, hcw4, hgw4⟩
    have HCw4 := Lib.hid hcw4
    have HGw4 := Lib.hid hgw4
    clear hcw4 hgw4
    rcases o with _ | _
    · have HB := Lib.hid (draw_end (but_trans HG3.out HGw4.out))
      go_wp2_with fail
      go_ret
      exact ⟨s, rfl, by omega, HB.out⟩
    · go_wp2_with fail
      refine (spoilt_c s _ _ _ _ HCw4.out (by omega) (by omega) (by decide) (by decide)).mono ?_
      rintro e w5 ⟨t, rfl, ht, hc5, hg5⟩
      have HB := Lib.hid (draw_end (but_trans (but_trans HG3.out HGw4.out) hg5))
      clear hc5 hg5
      go_wp2_with fail
      go_ret
      exact ⟨t, rfl, by omega, HB.out⟩
end Go.Proofs.YtpchcblialkpcaaDoor
