/- The arguments that the reference draws for the timetables' statements: a list of rides of the call's own, stops and minutes; no conditions. -/
import Derived.Test.YtddnemmdlijgiaaRidesD
import Derived.Test.YtddnemmdlijgiaaVee
namespace Go.Proofs.Ytddnemmdlijgiaa
open Go.RowKit

/-- Rides, and three numbers. -/
def RideArgs (w : World) (e : Ending) (w' : World) : Prop := ∃ (A : Option Addr) (c : Nat) (l : List Rid) (f t m : Int), e = .returned (.tuple #[.slice A l.length c, .int .i64 f, .int .i64 t, .int .i64 m]) ∧ l.length ≤ 14 ∧ Own w' w.heap.size 52 5 Rid.cells A l ∧ Below w.heap.size w w'

set_option maxHeartbeats 1000000 in
theorem drawEarliestArrival_c (A : Option Addr) (n cap : Nat) (w : World) (hk : Codes w A n) : Calls Try.prog 42 #[.slice A n cap] w (RideArgs w) := by
  have HK := Lib.hid hk
  clear hk
  go_enter Try.func42, Try.ntmps42
  go_wp2_with fail
  refine (rides_c w.heap.size 0 _ HK.out.cur (by omega)).mono ?_
  rintro e w1 ⟨A1, c1, l, rfl, hl, ho1, hcw1, hgw1⟩
  have HO := Lib.hid ho1
  have HCw1 := Lib.hid hcw1
  have HGw1 := Lib.hid hgw1
  clear ho1 hcw1 hgw1
  go_wp2_with fail
  refine (stop_c _ _ _ HCw1.out (by omega)).mono ?_
  rintro e w2 ⟨f, rfl, f1, f2, hcw2, hgw2⟩
  have HCw2 := Lib.hid hcw2
  have HGw2 := Lib.hid hgw2
  clear hcw2 hgw2
  go_wp2_with fail
  refine (stop_c _ _ _ HCw2.out (by omega)).mono ?_
  rintro e w3 ⟨t, rfl, t1, t2, hcw3, hgw3⟩
  have HCw3 := Lib.hid hcw3
  have HGw3 := Lib.hid hgw3
  clear hcw3 hgw3
  go_wp2_with fail
  refine (minute_c _ _ _ HCw3.out (by omega)).mono ?_
  rintro e w4 ⟨m, rfl, m1, m2, hcw4, hgw4⟩
  have HCw4 := Lib.hid hcw4
  have HGw4 := Lib.hid hgw4
  clear hcw4 hgw4
  have HG := Lib.hid (but_trans (but_trans HGw2.out HGw3.out) HGw4.out)
  go_wp2_with fail
  exact bodyPost_ret (v := .tuple #[.slice A1 l.length c1, .int .i64 f, .int .i64 t, .int .i64 m]) (by simp [results, Try.results42, go_sem]) rfl ⟨A1, c1, l, f, t, m, rfl, hl, (HO.out.grown HG.out (by simp)).less (by simp), draw_end (but_trans HGw1.out HG.out)⟩
set_option maxHeartbeats 1000000 in
theorem drawReachedBy_c (A : Option Addr) (n cap : Nat) (w : World) (hk : Codes w A n) : Calls Try.prog 43 #[.slice A n cap] w (RideArgs w) := by
  have HK := Lib.hid hk
  clear hk
  go_enter Try.func43, Try.ntmps43
  go_wp2_with fail
  refine (rides_c w.heap.size 0 _ HK.out.cur (by omega)).mono ?_
  rintro e w1 ⟨A1, c1, l, rfl, hl, ho1, hcw1, hgw1⟩
  have HO := Lib.hid ho1
  have HCw1 := Lib.hid hcw1
  have HGw1 := Lib.hid hgw1
  clear ho1 hcw1 hgw1
  go_wp2_with fail
  refine (stop_c _ _ _ HCw1.out (by omega)).mono ?_
  rintro e w2 ⟨f, rfl, f1, f2, hcw2, hgw2⟩
  have HCw2 := Lib.hid hcw2
  have HGw2 := Lib.hid hgw2
  clear hcw2 hgw2
  go_wp2_with fail
  refine (minute_c _ _ _ HCw2.out (by omega)).mono ?_
  rintro e w3 ⟨t, rfl, t1, t2, hcw3, hgw3⟩
  have HCw3 := Lib.hid hcw3
  have HGw3 := Lib.hid hgw3
  clear hcw3 hgw3
  go_wp2_with fail
  refine (minute_c _ _ _ HCw3.out (by omega)).mono ?_
  rintro e w4 ⟨m, rfl, m1, m2, hcw4, hgw4⟩
  have HCw4 := Lib.hid hcw4
  have HGw4 := Lib.hid hgw4
  clear hcw4 hgw4
  have HG := Lib.hid (but_trans (but_trans HGw2.out HGw3.out) HGw4.out)
  go_wp2_with fail
  exact bodyPost_ret (v := .tuple #[.slice A1 l.length c1, .int .i64 f, .int .i64 t, .int .i64 m]) (by simp [results, Try.results43, go_sem]) rfl ⟨A1, c1, l, f, t, m, rfl, hl, (HO.out.grown HG.out (by simp)).less (by simp), draw_end (but_trans HGw1.out HG.out)⟩
theorem drawLatestDeparture_c (A : Option Addr) (n cap : Nat) (w : World) (hk : Codes w A n) : Calls Try.prog 41 #[.slice A n cap] w (RideArgs w) := by
  have HK := Lib.hid hk
  clear hk
  go_enter Try.func41, Try.ntmps41
  go_wp2_with fail
  refine (drawEarliestArrival_c _ _ _ _ HK.out).mono ?_
  rintro e w1 ⟨A1, c1, l, f, t, m, rfl, hl, ho1, hb1⟩
  have HO := Lib.hid ho1
  have HB := Lib.hid hb1
  clear ho1 hb1
  go_wp2_with fail
  exact bodyPost_ret (v := .tuple #[.slice A1 l.length c1, .int .i64 f, .int .i64 t, .int .i64 m]) (by simp [results, Try.results41, go_sem]) rfl ⟨A1, c1, l, f, t, m, rfl, hl, HO.out, HB.out⟩
def RideOnly (w : World) (e : Ending) (w' : World) : Prop := ∃ (A : Option Addr) (c : Nat) (l : List Rid), e = .returned (.slice A l.length c) ∧ l.length ≤ 14 ∧ Own w' w.heap.size 52 5 Rid.cells A l ∧ Below w.heap.size w w'
theorem drawIsTimetable_c (A : Option Addr) (n cap : Nat) (w : World) (hk : Codes w A n) : Calls Try.prog 70 #[.slice A n cap] w (RideOnly w) := by
  have HK := Lib.hid hk
  clear hk
  go_enter Try.func70, Try.ntmps70
  go_wp2_with fail
  refine (rides_c w.heap.size 0 _ HK.out.cur (by omega)).mono ?_
  rintro e w1 ⟨A1, c1, l, rfl, hl, ho1, hcw1, hgw1⟩
  have HO := Lib.hid ho1
  have HCw1 := Lib.hid hcw1
  have HGw1 := Lib.hid hgw1
  clear ho1 hcw1 hgw1
  go_wp2_with fail
  go_ret
  exact ⟨A1, c1, l, rfl, hl, HO.out.less (by simp), draw_end HGw1.out⟩
theorem drawLastDescents_c (A : Option Addr) (n cap : Nat) (w : World) (hk : Codes w A n) : Calls Try.prog 46 #[.slice A n cap] w (RideOnly w) := by
  have HK := Lib.hid hk
  clear hk
  go_enter Try.func46, Try.ntmps46
  go_wp2_with fail
  refine (drawIsTimetable_c _ _ _ _ HK.out).mono ?_
  rintro e w1 ⟨A1, c1, l, rfl, hl, ho1, hb1⟩
  have HO := Lib.hid ho1
  have HB := Lib.hid hb1
  clear ho1 hb1
  go_wp2_with fail
  go_ret
  exact ⟨A1, c1, l, rfl, hl, HO.out, HB.out⟩
def SeatArgs (w : World) (e : Ending) (w' : World) : Prop := ∃ (A : Option Addr) (c : Nat) (l : List Rid) (m : Int), e = .returned (.tuple #[.slice A l.length c, .int .i64 m]) ∧ l.length ≤ 14 ∧ Own w' w.heap.size 52 5 Rid.cells A l ∧ Below w.heap.size w w'
set_option maxHeartbeats 1000000 in
theorem drawSeatsDown_c (A : Option Addr) (n cap : Nat) (w : World) (hk : Codes w A n) : Calls Try.prog 48 #[.slice A n cap] w (SeatArgs w) := by
  have HK := Lib.hid hk
  clear hk
  go_enter Try.func48, Try.ntmps48
  go_wp2_with fail
  refine (rides_c w.heap.size 0 _ HK.out.cur (by omega)).mono ?_
  rintro e w1 ⟨A1, c1, l, rfl, hl, ho1, hcw1, hgw1⟩
  have HO := Lib.hid ho1
  have HCw1 := Lib.hid hcw1
  have HGw1 := Lib.hid hgw1
  clear ho1 hcw1 hgw1
  go_wp2_with fail
  refine (minute_c _ _ _ HCw1.out (by omega)).mono ?_
  rintro e w2 ⟨m, rfl, m1, m2, hcw2, hgw2⟩
  have HCw2 := Lib.hid hcw2
  have HGw2 := Lib.hid hgw2
  clear hcw2 hgw2
  go_wp2_with fail
  exact bodyPost_ret (v := .tuple #[.slice A1 l.length c1, .int .i64 m]) (by simp [results, Try.results48, go_sem]) rfl ⟨A1, c1, l, m, rfl, hl, (HO.out.grown HGw2.out (by simp)).less (by simp), draw_end (but_trans HGw1.out HGw2.out)⟩
end Go.Proofs.Ytddnemmdlijgiaa
