/- ColdestRecord of the program and of the reference return one Lean function; no conditions but the length. -/
import Derived.Test.YtccdbdkpjcehjaaWinds
namespace Go.Proofs.Ytccdbdkpjcehjaa
open Go.RowKit

/-- The index of the coldest of the first k + 1 records. -/
def coldTo (l : List Wea) : Nat → Nat
  | 0 => 0
  | k + 1 => if (nth l (k + 1)).d < (nth l (coldTo l k)).d then k + 1 else coldTo l k
def cold (l : List Wea) : Wea × Bool := if goodW l && decide (0 < l.length) then (nth l (coldTo l (l.length - 1)), true) else (⟨0, 0, 0, 0, false⟩, false)
theorem retw {p : Wea × Bool} {x : Wea} {c : Bool} (h : p = (x, c)) : Ending.returned (.tuple #[.agg #[.int .i64 x.m, .int .i64 x.wi, .int .i64 x.f, .int .i64 x.d, .bool x.s], .bool c]) = .returned (.tuple #[.agg #[.int .i64 p.1.m, .int .i64 p.1.wi, .int .i64 p.1.f, .int .i64 p.1.d, .bool p.1.s], .bool p.2]) := by rw [h]
theorem coldTo_lt {l : List Wea} : ∀ k, coldTo l k ≤ k
  | 0 => Nat.le_refl _
  | k + 1 => by have := coldTo_lt (l := l) k; simp only [coldTo]; split <;> omega
/-- The program looks at the first record once more. -/
def coldTo' (l : List Wea) : Nat → Nat
  | 0 => 0
  | k + 1 => if (nth l k).d < (nth l (coldTo' l k)).d then k else coldTo' l k
theorem coldTo'_eq {l : List Wea} : ∀ k, coldTo' l (k + 1) = coldTo l k
  | 0 => by simp [coldTo', coldTo]
  | k + 1 => by rw [coldTo', coldTo'_eq k]; rfl

set_option maxHeartbeats 1000000 in
theorem implColdestRecord_c (l : List Wea) (A : Option Addr) (cap : Nat) (w : World) (hl : l.length ≤ 1048576) (hr : Rd w w.heap.size 5 Wea.cells A l) :
    Calls Try.prog 19 #[.slice A l.length cap] w fun e w' => e = .returned (.tuple #[.agg #[.int .i64 (cold l).1.m, .int .i64 (cold l).1.wi, .int .i64 (cold l).1.f, .int .i64 (cold l).1.d, .bool (cold l).1.s], .bool (cold l).2]) ∧ Below w.heap.size w w' := by
  rcases hg : goodW l with _ | _
  · have H := Lib.hid (show cold l = (⟨0, 0, 0, 0, false⟩, false) by simp [cold, hg])
    go_enter Try.func19, Try.ntmps19
    go_wp2_with fail
    refine (AreRecords_c l _ _ _ hl ((hr.below ((Below.refl _ _).alloc (Nat.le_refl _) _) (Nat.le_refl _)).mono (by simp))).mono ?_
    rintro e w1 ⟨rfl, hb1⟩
    have hz1 := hb1.size
    have l1_0 : w.heap.size < w1.heap.size := by first | omega | (simp at hz1; omega)
    have c1_0 := fun o => hb1.cell (p := ⟨w.heap.size, o, none⟩) (by first | omega | (simp; done) | (simp; omega))
    have f1_0 := fun o => hb1.frozen (p := ⟨w.heap.size, o, none⟩) (by first | omega | (simp; done) | (simp; omega))
    go_wp2_with fail
    exact bodyPost_ret (v := .tuple #[.agg #[.int .i64 0, .int .i64 0, .int .i64 0, .int .i64 0, .bool false], .bool false]) (by simp [results, Try.results19, go_sem, *]) rfl ⟨retw H.out, (by repeat (first | (with_reducible exact Below.refl _ _) | ((with_reducible refine alloc_ ?_ ?_); (focus (first | exact Nat.le_refl _ | (simp; done) | (simp; omega) | omega))) | ((with_reducible refine set_ ?_ ?_); (focus (first | exact Nat.le_refl _ | (simp; done) | (simp; omega) | omega))) | (with_reducible refine Below.drew ?_) | ((with_reducible refine after_ ?_ (by assumption) ?_); (rotate_left; (focus (first | exact Nat.le_refl _ | (simp; done) | (simp; omega) | omega))))))⟩
  by_cases h0 : l.length = 0
  · have H := Lib.hid (show cold l = (⟨0, 0, 0, 0, false⟩, false) by simp [cold, h0])
    have hz : ((l.length : Int) == 0) = true := by simp [h0]
    clear h0
    go_enter Try.func19, Try.ntmps19
    go_wp2_with fail
    refine (AreRecords_c l _ _ _ hl ((hr.below ((Below.refl _ _).alloc (Nat.le_refl _) _) (Nat.le_refl _)).mono (by simp))).mono ?_
    rintro e w1 ⟨rfl, hb1⟩
    have hz1 := hb1.size
    have l1_0 : w.heap.size < w1.heap.size := by first | omega | (simp at hz1; omega)
    have c1_0 := fun o => hb1.cell (p := ⟨w.heap.size, o, none⟩) (by first | omega | (simp; done) | (simp; omega))
    have f1_0 := fun o => hb1.frozen (p := ⟨w.heap.size, o, none⟩) (by first | omega | (simp; done) | (simp; omega))
    go_wp2_with fail
    exact bodyPost_ret (v := .tuple #[.agg #[.int .i64 0, .int .i64 0, .int .i64 0, .int .i64 0, .bool false], .bool false]) (by simp [results, Try.results19, go_sem, *]) rfl ⟨retw H.out, (by repeat (first | (with_reducible exact Below.refl _ _) | ((with_reducible refine alloc_ ?_ ?_); (focus (first | exact Nat.le_refl _ | (simp; done) | (simp; omega) | omega))) | ((with_reducible refine set_ ?_ ?_); (focus (first | exact Nat.le_refl _ | (simp; done) | (simp; omega) | omega))) | (with_reducible refine Below.drew ?_) | ((with_reducible refine after_ ?_ (by assumption) ?_); (rotate_left; (focus (first | exact Nat.le_refl _ | (simp; done) | (simp; omega) | omega))))))⟩
  have hz : ((l.length : Int) == 0) = false := by rw [beq_eq_false_iff_ne]; omega
  have h1 : 0 < l.length := by omega
  have H := Lib.hid (show cold l = (nth l (coldTo l (l.length - 1)), true) by simp only [cold, hg, h1, decide_true, Bool.and_self, if_true])
  have h1' : (0 : Int) < l.length := by omega
  obtain ⟨b0, off0, rfl, hb0, hcs⟩ := Wea.rd hr h1
  simp only [Nat.zero_mul, Nat.add_zero] at hcs
  clear h0
  go_enter Try.func19, Try.ntmps19
  go_wp2_with fail
  refine (AreRecords_c l _ _ _ hl ((hr.below ((Below.refl _ _).alloc (Nat.le_refl _) _) (Nat.le_refl _)).mono (by simp))).mono ?_
  rintro e w1 ⟨rfl, hb1⟩
  obtain ⟨hc1, hf1, hz1⟩ := bcell hb1
  simp [Nat.add_one_le_iff] at hz1
  have HB1 := Lib.hid hb1
  have l0 : b0 < w1.heap.size := by omega
  have X2 : Box w1 w.heap.size 25 5 [.int .i64 0, .int .i64 0, .int .i64 0, .int .i64 0, .bool false] := (Box.new w [.int .i64 0, .int .i64 0, .int .i64 0, .int .i64 0, .bool false] 25).carry hb1
  have hr1 : Rd w1 w.heap.size 5 Wea.cells (some ⟨b0, off0, none⟩) l := hr.below (((Below.refl _ _).alloc (Nat.le_refl _) _).trans (hb1.mono (by simp))) (Nat.le_refl _)
  have HX2 := Lib.hid X2
  have HR1 := Lib.hid hr1
  clear hb1 X2 hr1
  go_wp2_with fail
  clear hg
  go_loopw [6, 21] (fun _ i wr => ∃ k : Nat, k ≤ l.length ∧ i = .int .i64 k ∧ Box wr w1.heap.size 25 5 (Wea.cells (nth l (coldTo' l k))) ∧ Below w1.heap.size w1 wr) (fun _ i _ => l.length - (intOf i).toNat)
  case atStart => exact ⟨0, Nat.zero_le _, rfl, Box.new w1 (Wea.cells (nth l 0)) 25, (by repeat (first | (with_reducible exact Below.refl _ _) | ((with_reducible refine alloc_ ?_ ?_); (focus (first | exact Nat.le_refl _ | (simp; done) | (simp; omega) | omega))) | ((with_reducible refine set_ ?_ ?_); (focus (first | exact Nat.le_refl _ | (simp; done) | (simp; omega) | omega))) | (with_reducible refine Below.drew ?_) | ((with_reducible refine after_ ?_ (by assumption) ?_); (rotate_left; (focus (first | exact Nat.le_refl _ | (simp; done) | (simp; omega) | omega))))))⟩
  case round =>
    obtain ⟨k, hk, rfl, hbox, hbel⟩ := hrel
    have HB := Lib.hid hbel
    have HX := Lib.hid hbox
    have g1 := hbox.lt
    have x0 := hbox.cell (j := 0) rfl
    have x1 := hbox.cell (j := 1) rfl
    have x2 := hbox.cell (j := 2) rfl
    have x3 := hbox.cell (j := 3) rfl
    have x4 := hbox.cell (j := 4) rfl
    have xf := hbox.frozen
    by_cases hlt : k < l.length
    · obtain ⟨b, off, he, hb1, hcs⟩ := Wea.rd (HR1.out.below hbel (by omega)) hlt
      simp only [Option.some.injEq, Addr.mk.injEq, and_true] at he
      obtain ⟨rfl, rfl⟩ := he
      clear hbel hbox
      by_cases hd : (nth l k).d < (nth l (coldTo' l k)).d
      · have HL := Lib.hid (show coldTo' l (k + 1) = k by simp [coldTo', hd])
        go_wp2_with fail
        go_roundw
        case rel => exact ⟨k + 1, by omega, by go_num, by rw [HL.out]; simpa only [puts, Wea.cells] using (HX.out.puts (us := Wea.cells (nth l k)) rfl).alloc (.cells (Wea.cells (nth l k)).toArray 25), HB.out.trans (Below.mono (B := w1.heap.size) (by repeat (first | (with_reducible exact Below.refl _ _) | ((with_reducible refine alloc_ ?_ ?_); (focus (first | exact Nat.le_refl _ | (simp; done) | (simp; omega) | omega))) | ((with_reducible refine set_ ?_ ?_); (focus (first | exact Nat.le_refl _ | (simp; done) | (simp; omega) | omega))) | (with_reducible refine Below.drew ?_) | ((with_reducible refine after_ ?_ (by assumption) ?_); (rotate_left; (focus (first | exact Nat.le_refl _ | (simp; done) | (simp; omega) | omega)))))) (Nat.le_refl _))⟩
        case measure => simp [intOf]; omega
      · have HL := Lib.hid (show coldTo' l (k + 1) = coldTo' l k by simp [coldTo', hd])
        go_wp2_with fail
        go_roundw
        case rel => exact ⟨k + 1, by omega, by go_num, by rw [HL.out]; exact HX.out.alloc (.cells #[.int .i64 (nth l k).m, .int .i64 (nth l k).wi, .int .i64 (nth l k).f, .int .i64 (nth l k).d, .bool (nth l k).s] 25), HB.out.trans (Below.mono (B := w1.heap.size) (by repeat (first | (with_reducible exact Below.refl _ _) | ((with_reducible refine alloc_ ?_ ?_); (focus (first | exact Nat.le_refl _ | (simp; done) | (simp; omega) | omega))) | ((with_reducible refine set_ ?_ ?_); (focus (first | exact Nat.le_refl _ | (simp; done) | (simp; omega) | omega))) | (with_reducible refine Below.drew ?_) | ((with_reducible refine after_ ?_ (by assumption) ?_); (rotate_left; (focus (first | exact Nat.le_refl _ | (simp; done) | (simp; omega) | omega)))))) (Nat.le_refl _))⟩
        case measure => simp [intOf]; omega
    · obtain rfl : k = l.length := by omega
      have hbox2 := HX2.out.below hbel hz1
      have y0 := hbox2.cell (j := 0) rfl
      have y1 := hbox2.cell (j := 1) rfl
      have y2 := hbox2.cell (j := 2) rfl
      have y3 := hbox2.cell (j := 3) rfl
      have y4 := hbox2.cell (j := 4) rfl
      have yf := hbox2.frozen
      have hne : w.heap.size < wr.heap.size := by omega
      have HE : Below w.heap.size w wr := (((Below.refl _ _).alloc (Nat.le_refl _) _).trans (HB1.out.mono (by simp))).trans (hbel.mono (by omega))
      clear hbel hbox hbox2
      have HL := Lib.hid (show coldTo' l l.length = coldTo l (l.length - 1) by rw [← coldTo'_eq, Nat.sub_add_cancel h1])
      go_wp2_with fail
      exact bodyPost_ret (v := .tuple #[.agg #[.int .i64 (nth l (coldTo' l l.length)).m, .int .i64 (nth l (coldTo' l l.length)).wi, .int .i64 (nth l (coldTo' l l.length)).f, .int .i64 (nth l (coldTo' l l.length)).d, .bool (nth l (coldTo' l l.length)).s], .bool true]) (by simp [results, Try.results19, go_sem, *]) rfl ⟨by rw [HL.out]; exact retw H.out, (by repeat (first | (with_reducible exact Below.refl _ _) | ((with_reducible refine alloc_ ?_ ?_); (focus (first | exact Nat.le_refl _ | (simp; done) | (simp; omega) | omega))) | ((with_reducible refine set_ ?_ ?_); (focus (first | exact Nat.le_refl _ | (simp; done) | (simp; omega) | omega))) | (with_reducible refine Below.drew ?_) | ((with_reducible refine after_ ?_ (by assumption) ?_); (rotate_left; (focus (first | exact Nat.le_refl _ | (simp; done) | (simp; omega) | omega))))))⟩
set_option maxHeartbeats 1000000 in
theorem specColdestRecord_c (l : List Wea) (A : Option Addr) (cap : Nat) (w : World) (hl : l.length ≤ 1048576) (hr : Rd w w.heap.size 5 Wea.cells A l) :
    Calls Try.prog 18 #[.slice A l.length cap] w fun e w' => e = .returned (.tuple #[.agg #[.int .i64 (cold l).1.m, .int .i64 (cold l).1.wi, .int .i64 (cold l).1.f, .int .i64 (cold l).1.d, .bool (cold l).1.s], .bool (cold l).2]) ∧ Below w.heap.size w w' := by
  rcases hg : goodW l with _ | _
  · have H := Lib.hid (show cold l = (⟨0, 0, 0, 0, false⟩, false) by simp [cold, hg])
    go_enter Try.func18, Try.ntmps18
    go_wp2_with fail
    refine (l17Good_c l _ _ _ hl ((hr.below ((Below.refl _ _).alloc (Nat.le_refl _) _) (Nat.le_refl _)).mono (by simp))).mono ?_
    rintro e w1 ⟨rfl, hb1⟩
    have hz1 := hb1.size
    have l1_0 : w.heap.size < w1.heap.size := by first | omega | (simp at hz1; omega)
    have c1_0 := fun o => hb1.cell (p := ⟨w.heap.size, o, none⟩) (by first | omega | (simp; done) | (simp; omega))
    have f1_0 := fun o => hb1.frozen (p := ⟨w.heap.size, o, none⟩) (by first | omega | (simp; done) | (simp; omega))
    go_wp2_with fail
    exact bodyPost_ret (v := .tuple #[.agg #[.int .i64 0, .int .i64 0, .int .i64 0, .int .i64 0, .bool false], .bool false]) (by simp [results, Try.results18, go_sem, *]) rfl ⟨retw H.out, (by repeat (first | (with_reducible exact Below.refl _ _) | ((with_reducible refine alloc_ ?_ ?_); (focus (first | exact Nat.le_refl _ | (simp; done) | (simp; omega) | omega))) | ((with_reducible refine set_ ?_ ?_); (focus (first | exact Nat.le_refl _ | (simp; done) | (simp; omega) | omega))) | (with_reducible refine Below.drew ?_) | ((with_reducible refine after_ ?_ (by assumption) ?_); (rotate_left; (focus (first | exact Nat.le_refl _ | (simp; done) | (simp; omega) | omega))))))⟩
  by_cases h0 : l.length = 0
  · have H := Lib.hid (show cold l = (⟨0, 0, 0, 0, false⟩, false) by simp [cold, h0])
    have hz : ((l.length : Int) == 0) = true := by simp [h0]
    clear h0
    go_enter Try.func18, Try.ntmps18
    go_wp2_with fail
    refine (l17Good_c l _ _ _ hl ((hr.below ((Below.refl _ _).alloc (Nat.le_refl _) _) (Nat.le_refl _)).mono (by simp))).mono ?_
    rintro e w1 ⟨rfl, hb1⟩
    have hz1 := hb1.size
    have l1_0 : w.heap.size < w1.heap.size := by first | omega | (simp at hz1; omega)
    have c1_0 := fun o => hb1.cell (p := ⟨w.heap.size, o, none⟩) (by first | omega | (simp; done) | (simp; omega))
    have f1_0 := fun o => hb1.frozen (p := ⟨w.heap.size, o, none⟩) (by first | omega | (simp; done) | (simp; omega))
    go_wp2_with fail
    exact bodyPost_ret (v := .tuple #[.agg #[.int .i64 0, .int .i64 0, .int .i64 0, .int .i64 0, .bool false], .bool false]) (by simp [results, Try.results18, go_sem, *]) rfl ⟨retw H.out, (by repeat (first | (with_reducible exact Below.refl _ _) | ((with_reducible refine alloc_ ?_ ?_); (focus (first | exact Nat.le_refl _ | (simp; done) | (simp; omega) | omega))) | ((with_reducible refine set_ ?_ ?_); (focus (first | exact Nat.le_refl _ | (simp; done) | (simp; omega) | omega))) | (with_reducible refine Below.drew ?_) | ((with_reducible refine after_ ?_ (by assumption) ?_); (rotate_left; (focus (first | exact Nat.le_refl _ | (simp; done) | (simp; omega) | omega))))))⟩
  have hz : ((l.length : Int) == 0) = false := by rw [beq_eq_false_iff_ne]; omega
  have h1 : 0 < l.length := by omega
  have H := Lib.hid (show cold l = (nth l (coldTo l (l.length - 1)), true) by simp only [cold, hg, h1, decide_true, Bool.and_self, if_true])
  have h1' : (0 : Int) < l.length := by omega
  obtain ⟨b0, off0, rfl, hb0, hcs⟩ := Wea.rd hr h1
  simp only [Nat.zero_mul, Nat.add_zero] at hcs
  clear h0
  go_enter Try.func18, Try.ntmps18
  go_wp2_with fail
  refine (l17Good_c l _ _ _ hl ((hr.below ((Below.refl _ _).alloc (Nat.le_refl _) _) (Nat.le_refl _)).mono (by simp))).mono ?_
  rintro e w1 ⟨rfl, hb1⟩
  obtain ⟨hc1, hf1, hz1⟩ := bcell hb1
  simp [Nat.add_one_le_iff] at hz1
  have HB1 := Lib.hid hb1
  have l0 : b0 < w1.heap.size := by omega
  have X2 : Box w1 w.heap.size 25 5 [.int .i64 0, .int .i64 0, .int .i64 0, .int .i64 0, .bool false] := (Box.new w [.int .i64 0, .int .i64 0, .int .i64 0, .int .i64 0, .bool false] 25).carry hb1
  have hr1 : Rd w1 w.heap.size 5 Wea.cells (some ⟨b0, off0, none⟩) l := hr.below (((Below.refl _ _).alloc (Nat.le_refl _) _).trans (hb1.mono (by simp))) (Nat.le_refl _)
  have HX2 := Lib.hid X2
  have HR1 := Lib.hid hr1
  clear hb1 X2 hr1
  go_wp2_with fail
  clear hg
  go_loopw [5] (fun i wr => ∃ k : Nat, k < l.length ∧ i = .int .i64 ((k + 1 : Nat) : Int) ∧ Box wr w1.heap.size 25 5 (Wea.cells (nth l (coldTo l k))) ∧ Below w1.heap.size w1 wr) (fun i _ => l.length - (intOf i).toNat)
  case atStart => exact ⟨0, h1, rfl, Box.new w1 (Wea.cells (nth l 0)) 25, (by repeat (first | (with_reducible exact Below.refl _ _) | ((with_reducible refine alloc_ ?_ ?_); (focus (first | exact Nat.le_refl _ | (simp; done) | (simp; omega) | omega))) | ((with_reducible refine set_ ?_ ?_); (focus (first | exact Nat.le_refl _ | (simp; done) | (simp; omega) | omega))) | (with_reducible refine Below.drew ?_) | ((with_reducible refine after_ ?_ (by assumption) ?_); (rotate_left; (focus (first | exact Nat.le_refl _ | (simp; done) | (simp; omega) | omega))))))⟩
  case round =>
    obtain ⟨k, hk, rfl, hbox, hbel⟩ := hrel
    have HB := Lib.hid hbel
    have HX := Lib.hid hbox
    have g1 := hbox.lt
    have x0 := hbox.cell (j := 0) rfl
    have x1 := hbox.cell (j := 1) rfl
    have x2 := hbox.cell (j := 2) rfl
    have x3 := hbox.cell (j := 3) rfl
    have x4 := hbox.cell (j := 4) rfl
    have xf := hbox.frozen
    by_cases hlt : k + 1 < l.length
    · obtain ⟨b, off, he, hb1, hcs⟩ := Wea.rd (HR1.out.below hbel (by omega)) hlt
      simp only [Option.some.injEq, Addr.mk.injEq, and_true] at he
      obtain ⟨rfl, rfl⟩ := he
      have l1 : b0 < wr.heap.size := by omega
      have i1 : (0 : Int) ≤ (k : Int) + 1 := by omega
      have i2 : (k : Int) + 1 < l.length := by omega
      have i3 : ((k : Int) + 1).toNat = k + 1 := by omega
      clear hbel hbox
      by_cases hd : (nth l (k + 1)).d < (nth l (coldTo l k)).d
      · have HL := Lib.hid (show coldTo l (k + 1) = k + 1 by simp [coldTo, hd])
        go_wp2_with fail
        refine wp_region_mem (by kernel_rfl) (by kernel_rfl) ?_
        repeat (go_big_quiet_step (fail))
        refine wpQuiet_nil ?_
        intro _ hw'
        obtain ⟨⟨wq, hbq⟩, hw''⟩ := hw'
        obtain rfl := hw''.symm
        obtain ⟨hcq, hfq, hzq⟩ := bcell hbq
        try simp [Nat.add_one_le_iff] at hzq
        have HXq := Lib.hid (HX.out.carry hbq)
        have x0q := HXq.out.cell (j := 0) rfl
        have x1q := HXq.out.cell (j := 1) rfl
        have x2q := HXq.out.cell (j := 2) rfl
        have x3q := HXq.out.cell (j := 3) rfl
        have x4q := HXq.out.cell (j := 4) rfl
        have xfq := HXq.out.frozen
        go_wp2_with fail
        go_roundw
        case rel => exact ⟨k + 1, by omega, by go_num, by rw [HL.out]; simpa only [puts, Wea.cells] using (HXq.out.puts (us := Wea.cells (nth l (k + 1))) rfl), HB.out.trans (Below.mono (B := w1.heap.size) (puts_below (Nat.le_refl _) (Wea.cells (nth l (k + 1))) _ 0 (hbq.mono (by omega))) (Nat.le_refl _))⟩
        case measure => simp [intOf]; omega
      · have HL := Lib.hid (show coldTo l (k + 1) = coldTo l k by simp [coldTo, hd])
        go_wp2_with fail
        refine wp_region_mem (by kernel_rfl) (by kernel_rfl) ?_
        repeat (go_big_quiet_step (fail))
        refine wpQuiet_nil ?_
        intro _ hw'
        obtain ⟨⟨wq, hbq⟩, hw''⟩ := hw'
        obtain rfl := hw''.symm
        obtain ⟨hcq, hfq, hzq⟩ := bcell hbq
        try simp [Nat.add_one_le_iff] at hzq
        go_wp2_with fail
        go_roundw
        case rel => exact ⟨k + 1, by omega, by go_num, by rw [HL.out]; exact HX.out.carry hbq, HB.out.trans (hbq.mono (by omega))⟩
        case measure => simp [intOf]; omega
    · obtain rfl : k = l.length - 1 := by omega
      have hbox2 := HX2.out.below hbel hz1
      have y0 := hbox2.cell (j := 0) rfl
      have y1 := hbox2.cell (j := 1) rfl
      have y2 := hbox2.cell (j := 2) rfl
      have y3 := hbox2.cell (j := 3) rfl
      have y4 := hbox2.cell (j := 4) rfl
      have yf := hbox2.frozen
      have hne : w.heap.size < wr.heap.size := by omega
      have HE : Below w.heap.size w wr := (((Below.refl _ _).alloc (Nat.le_refl _) _).trans (HB1.out.mono (by simp))).trans (hbel.mono (by omega))
      clear hbel hbox hbox2
      go_wp2_with fail
      exact bodyPost_ret (v := .tuple #[.agg #[.int .i64 (nth l (coldTo l (l.length - 1))).m, .int .i64 (nth l (coldTo l (l.length - 1))).wi, .int .i64 (nth l (coldTo l (l.length - 1))).f, .int .i64 (nth l (coldTo l (l.length - 1))).d, .bool (nth l (coldTo l (l.length - 1))).s], .bool true]) (by simp [results, Try.results18, go_sem, *]) rfl ⟨retw H.out, (by repeat (first | (with_reducible exact Below.refl _ _) | ((with_reducible refine alloc_ ?_ ?_); (focus (first | exact Nat.le_refl _ | (simp; done) | (simp; omega) | omega))) | ((with_reducible refine set_ ?_ ?_); (focus (first | exact Nat.le_refl _ | (simp; done) | (simp; omega) | omega))) | (with_reducible refine Below.drew ?_) | ((with_reducible refine after_ ?_ (by assumption) ?_); (rotate_left; (focus (first | exact Nat.le_refl _ | (simp; done) | (simp; omega) | omega))))))⟩
end Go.Proofs.Ytccdbdkpjcehjaa
