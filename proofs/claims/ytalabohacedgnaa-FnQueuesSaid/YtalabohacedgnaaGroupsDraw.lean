/- The arguments that the reference draws for the queues' statements: a list of groups of the call's own, seats, a group's number; no conditions. -/
import Derived.Test.YtalabohacedgnaaGroupsD
namespace Go.Proofs.Ytalabohacedgnaa
open Go.RowKit

def GroupOnly (w : World) (e : Ending) (w' : World) : Prop := ∃ (A : Option Addr) (c : Nat) (l : List Gro), e = .returned (.slice A l.length c) ∧ l.length ≤ 14 ∧ Own w' w.heap.size 52 2 Gro.cells A l ∧ Below w.heap.size w w'
def GroupArgs (w : World) (e : Ending) (w' : World) : Prop := ∃ (A : Option Addr) (c : Nat) (l : List Gro) (s : Int), e = .returned (.tuple #[.slice A l.length c, .int .i64 s]) ∧ l.length ≤ 14 ∧ Own w' w.heap.size 52 2 Gro.cells A l ∧ Below w.heap.size w w'
def GroupArgs2 (w : World) (e : Ending) (w' : World) : Prop := ∃ (A : Option Addr) (c : Nat) (l : List Gro) (s i : Int), e = .returned (.tuple #[.slice A l.length c, .int .i64 s, .int .i64 i]) ∧ l.length ≤ 14 ∧ Own w' w.heap.size 52 2 Gro.cells A l ∧ Below w.heap.size w w'
theorem drawIsQueue_c (A : Option Addr) (n cap : Nat) (w : World) (hk : Codes w A n) : Calls Try.prog 73 #[.slice A n cap] w (GroupOnly w) := by
  have HK := Lib.hid hk
  clear hk
  go_enter Try.func73, Try.ntmps73
  go_wp2_with fail
  refine (queue_c w.heap.size 0 _ HK.out.cur (by omega)).mono ?_
  rintro e w1 ⟨A1, c1, l, rfl, hl, ho1, hcw1, hgw1⟩
  have HO := Lib.hid ho1
  have HCw1 := Lib.hid hcw1
  have HGw1 := Lib.hid hgw1
  clear ho1 hcw1 hgw1
  go_wp2_with fail
  go_ret
  exact ⟨A1, c1, l, rfl, hl, HO.out.less (by simp), draw_end HGw1.out⟩
theorem drawPeopleIn_c (A : Option Addr) (n cap : Nat) (w : World) (hk : Codes w A n) : Calls Try.prog 46 #[.slice A n cap] w (GroupOnly w) := by
  have HK := Lib.hid hk
  clear hk
  go_enter Try.func46, Try.ntmps46
  go_wp2_with fail
  refine (drawIsQueue_c _ _ _ _ HK.out).mono ?_
  rintro e w1 ⟨A1, c1, l, rfl, hl, ho1, hb1⟩
  have HO := Lib.hid ho1
  have HB := Lib.hid hb1
  clear ho1 hb1
  go_wp2_with fail
  go_ret
  exact ⟨A1, c1, l, rfl, hl, HO.out, HB.out⟩
set_option maxHeartbeats 1000000 in
theorem drawSplitGroups_c (A : Option Addr) (n cap : Nat) (w : World) (hk : Codes w A n) : Calls Try.prog 41 #[.slice A n cap] w (GroupArgs w) := by
  have HK := Lib.hid hk
  clear hk
  go_enter Try.func41, Try.ntmps41
  go_wp2_with fail
  refine (queue_c w.heap.size 0 _ HK.out.cur (by omega)).mono ?_
  rintro e w1 ⟨A1, c1, l, rfl, hl, ho1, hcw1, hgw1⟩
  have HO := Lib.hid ho1
  have HCw1 := Lib.hid hcw1
  have HGw1 := Lib.hid hgw1
  clear ho1 hcw1 hgw1
  go_wp2_with fail
  refine (seats_c _ _ _ HCw1.out (by omega)).mono ?_
  rintro e w2 ⟨s, rfl, s1, s2, hcw2, hgw2⟩
  have HCw2 := Lib.hid hcw2
  have HGw2 := Lib.hid hgw2
  clear hcw2 hgw2
  go_wp2_with fail
  exact bodyPost_ret (v := .tuple #[.slice A1 l.length c1, .int .i64 s]) (by simp [results, Try.results41, go_sem]) rfl ⟨A1, c1, l, s, rfl, hl, (HO.out.grown HGw2.out (by simp)).less (by simp), draw_end (but_trans HGw1.out HGw2.out)⟩
theorem drawFillCabin_c (A : Option Addr) (n cap : Nat) (w : World) (hk : Codes w A n) : Calls Try.prog 44 #[.slice A n cap] w (GroupArgs w) := by
  have HK := Lib.hid hk
  clear hk
  go_enter Try.func44, Try.ntmps44
  go_wp2_with fail
  refine (drawSplitGroups_c _ _ _ _ HK.out).mono ?_
  rintro e w1 ⟨A1, c1, l, s, rfl, hl, ho1, hb1⟩
  have HO := Lib.hid ho1
  have HB := Lib.hid hb1
  clear ho1 hb1
  go_wp2_with fail
  exact bodyPost_ret (v := .tuple #[.slice A1 l.length c1, .int .i64 s]) (by simp [results, Try.results44, go_sem]) rfl ⟨A1, c1, l, s, rfl, hl, HO.out, HB.out⟩
theorem drawAfterCabin_c (A : Option Addr) (n cap : Nat) (w : World) (hk : Codes w A n) : Calls Try.prog 49 #[.slice A n cap] w (GroupArgs w) := by
  have HK := Lib.hid hk
  clear hk
  go_enter Try.func49, Try.ntmps49
  go_wp2_with fail
  refine (drawSplitGroups_c _ _ _ _ HK.out).mono ?_
  rintro e w1 ⟨A1, c1, l, s, rfl, hl, ho1, hb1⟩
  have HO := Lib.hid ho1
  have HB := Lib.hid hb1
  clear ho1 hb1
  go_wp2_with fail
  exact bodyPost_ret (v := .tuple #[.slice A1 l.length c1, .int .i64 s]) (by simp [results, Try.results49, go_sem]) rfl ⟨A1, c1, l, s, rfl, hl, HO.out, HB.out⟩
theorem drawCabinsNeeded_c (A : Option Addr) (n cap : Nat) (w : World) (hk : Codes w A n) : Calls Try.prog 47 #[.slice A n cap] w (GroupArgs w) := by
  have HK := Lib.hid hk
  clear hk
  go_enter Try.func47, Try.ntmps47
  go_wp2_with fail
  refine (drawSplitGroups_c _ _ _ _ HK.out).mono ?_
  rintro e w1 ⟨A1, c1, l, s, rfl, hl, ho1, hb1⟩
  have HO := Lib.hid ho1
  have HB := Lib.hid hb1
  clear ho1 hb1
  go_wp2_with fail
  exact bodyPost_ret (v := .tuple #[.slice A1 l.length c1, .int .i64 s]) (by simp [results, Try.results47, go_sem]) rfl ⟨A1, c1, l, s, rfl, hl, HO.out, HB.out⟩
theorem drawLeastCabins_c (A : Option Addr) (n cap : Nat) (w : World) (hk : Codes w A n) : Calls Try.prog 43 #[.slice A n cap] w (GroupArgs w) := by
  have HK := Lib.hid hk
  clear hk
  go_enter Try.func43, Try.ntmps43
  go_wp2_with fail
  refine (drawSplitGroups_c _ _ _ _ HK.out).mono ?_
  rintro e w1 ⟨A1, c1, l, s, rfl, hl, ho1, hb1⟩
  have HO := Lib.hid ho1
  have HB := Lib.hid hb1
  clear ho1 hb1
  go_wp2_with fail
  exact bodyPost_ret (v := .tuple #[.slice A1 l.length c1, .int .i64 s]) (by simp [results, Try.results43, go_sem]) rfl ⟨A1, c1, l, s, rfl, hl, HO.out, HB.out⟩
set_option maxHeartbeats 1000000 in
theorem drawCabinOf_c (A : Option Addr) (n cap : Nat) (w : World) (hk : Codes w A n) : Calls Try.prog 50 #[.slice A n cap] w (GroupArgs2 w) := by
  have HK := Lib.hid hk
  clear hk
  go_enter Try.func50, Try.ntmps50
  go_wp2_with fail
  refine (queue_c w.heap.size 0 _ HK.out.cur (by omega)).mono ?_
  rintro e w1 ⟨A1, c1, l, rfl, hl, ho1, hcw1, hgw1⟩
  have HO := Lib.hid ho1
  have HCw1 := Lib.hid hcw1
  have HGw1 := Lib.hid hgw1
  clear ho1 hcw1 hgw1
  go_wp2_with fail
  refine (seats_c _ _ _ HCw1.out (by omega)).mono ?_
  rintro e w2 ⟨s, rfl, s1, s2, hcw2, hgw2⟩
  have HCw2 := Lib.hid hcw2
  have HGw2 := Lib.hid hgw2
  clear hcw2 hgw2
  go_wp2_with fail
  refine (pick_c ((l.length : Int) + 1) _ _ _ HCw2.out (by omega) (by omega) (by omega)).mono ?_
  rintro e w3 ⟨x, rfl, x1, x2, hcw3, hgw3⟩
  have HCw3 := Lib.hid hcw3
  have HGw3 := Lib.hid hgw3
  clear hcw3 hgw3
  go_wp2_with fail
  refine (pick_c 9 _ _ _ HCw3.out (by omega) (by omega) (by omega)).mono ?_
  rintro e w4 ⟨y, rfl, y1, y2, hcw4, hgw4⟩
  have HCw4 := Lib.hid hcw4
  have HGw4 := Lib.hid hgw4
  clear hcw4 hgw4
  have HG := Lib.hid (but_trans (but_trans HGw2.out HGw3.out) HGw4.out)
  go_wp2_with fail
  exact bodyPost_ret (v := .tuple #[.slice A1 l.length c1, .int .i64 s, .int .i64 (x - y / 8)]) (by simp [results, Try.results50, go_sem]) rfl ⟨A1, c1, l, s, x - y / 8, rfl, hl, (HO.out.grown HG.out (by simp)).less (by simp), draw_end (but_trans HGw1.out HG.out)⟩
end Go.Proofs.Ytalabohacedgnaa
