/- The arguments that the reference draws for the statement on rings of cabins; no conditions. -/
import Derived.Test.YtifmeloljkgcjaaCircD
namespace Go.Proofs.Ytifmeloljkgcjaa
open Go.RowKit

def CircA (w : World) (e : Ending) (w' : World) : Prop := ∃ (L s : Int) (l : List Int) (g c : Nat), e = .returned (.agg #[.int .i64 L, .int .i64 s, .slice (some ⟨g, 0, none⟩) l.length c]) ∧ (0 ≤ L ∧ L ≤ 4001) ∧ l.length ≤ 8 ∧ l.length ≤ c ∧ Own w' w.heap.size 3 1 intCells (some ⟨g, 0, none⟩) l ∧ Below w.heap.size w w'
set_option maxHeartbeats 4000000 in
theorem drawIsCircle_c (A : Option Addr) (n cap : Nat) (w : World) (hk : Codes w A n) : Calls Try.prog 40 #[.slice A n cap] w (CircA w) := by
  have HK := Lib.hid (hk.carry ((Below.refl _ _).alloc (Nat.le_refl _) (.cells #[.int .i64 0, .int .i64 0, .slice none 0 0] 26)))
  have HZ := Lib.hid (Box.new w zeroL 26)
  clear hk
  have HC := Lib.hid (by have h := HK.out.cur (cap := cap); rw [World.size_alloc] at h; exact h : Cur ((w.alloc (.cells #[.int .i64 0, .int .i64 0, .slice none 0 0] 26)).alloc (.cells #[.slice A n cap, .int .i64 0, .int .u64 0] 46)) (w.heap.size + 1) 0)
  have HB0 := Lib.hid (show Below w.heap.size w ((w.alloc (.cells #[.int .i64 0, .int .i64 0, .slice none 0 0] 26)).alloc (.cells #[.slice A n cap, .int .i64 0, .int .u64 0] 46)) from ((Below.refl _ _).alloc (Nat.le_refl _) _).alloc (by simp) _)
  go_enter Try.func40, Try.ntmps40
  go_wp2_with fail
  refine (circle_c _ _ _ HC.out (by omega)).mono ?_
  rintro e w2 ⟨L, s, l, g, c, rfl, ⟨L1, L2⟩, hl, hc, ho, hc2, hg2⟩
  have HO2 := Lib.hid ho
  have HC2 := Lib.hid hc2
  have HZ2 := Lib.hid ((HZ.out.alloc (.cells #[.slice A n cap, .int .i64 0, .int .u64 0] 46)).grown hg2 (by omega))
  have HB2 := Lib.hid (HB0.out.trans (grown_below hg2 (by omega) (by simp; omega)))
  have z2 : w.heap.size + 1 < w2.heap.size := by have := hg2.size; simp at this; omega
  clear ho hc2 hg2 HZ HB0 HC HK
  have o0 := HZ2.out.cell (j := 0) rfl
  have o1 := HZ2.out.cell (j := 1) rfl
  have o2 := HZ2.out.cell (j := 2) rfl
  have oz := HZ2.out.frozen
  have HS := Lib.hid (set3c w2 w.heap.size)
  go_wp2_with fail
  exact bodyPost_ret (v := .agg #[.int .i64 L, .int .i64 s, .slice (some ⟨g, 0, none⟩) l.length c]) (by simp [results, Try.results40, go_sem, o0, o1, o2]) rfl
    ⟨L, s, l, g, c, rfl, ⟨L1, L2⟩, hl, hc, (HO2.out.grown (HS.out _ _ _) (by simp; omega)).less (by simp; omega), by have h := HB2.out; exact (by repeat (first | (with_reducible exact Below.refl _ _) | ((with_reducible refine alloc_ ?_ ?_); (focus (first | exact Nat.le_refl _ | (simp; done) | (simp; omega) | omega))) | ((with_reducible refine set_ ?_ ?_); (focus (first | exact Nat.le_refl _ | (simp; done) | (simp; omega) | omega))) | (with_reducible refine Below.drew ?_) | ((with_reducible refine after_ ?_ (by assumption) ?_); (rotate_left; (focus (first | exact Nat.le_refl _ | (simp; done) | (simp; omega) | omega))))))⟩
set_option maxHeartbeats 4000000 in
theorem drawSmallestGap_c (A : Option Addr) (n cap : Nat) (w : World) (hk : Codes w A n) : Calls Try.prog 22 #[.slice A n cap] w (CircA w) := by
  have HK := Lib.hid (hk.carry ((Below.refl _ _).alloc (Nat.le_refl _) (.cells #[.int .i64 0, .int .i64 0, .slice none 0 0] 26)))
  have HZ := Lib.hid (Box.new w zeroL 26)
  clear hk
  go_enter Try.func22, Try.ntmps22
  go_wp2_with fail
  refine (drawIsCircle_c _ _ _ _ HK.out).mono ?_
  rintro e w2 ⟨L, s, l, g, c, rfl, ⟨L1, L2⟩, hl, hc, ho, hb⟩
  have HO2 := Lib.hid ho
  have HZ2 := Lib.hid (HZ.out.carry hb)
  have HB2 := Lib.hid (show Below w.heap.size w w2 from ((Below.refl _ _).alloc (Nat.le_refl _) _).trans (hb.mono (by simp)))
  clear ho hb HZ HK
  have o0 := HZ2.out.cell (j := 0) rfl
  have o1 := HZ2.out.cell (j := 1) rfl
  have o2 := HZ2.out.cell (j := 2) rfl
  have oz := HZ2.out.frozen
  have HS := Lib.hid (set3c w2 w.heap.size)
  go_wp2_with fail
  exact bodyPost_ret (v := .agg #[.int .i64 L, .int .i64 s, .slice (some ⟨g, 0, none⟩) l.length c]) (by simp [results, Try.results22, go_sem, o0, o1, o2]) rfl
    ⟨L, s, l, g, c, rfl, ⟨L1, L2⟩, hl, hc, (HO2.out.grown (HS.out _ _ _) (by simp)).less (by simp), by have h := HB2.out; exact (by repeat (first | (with_reducible exact Below.refl _ _) | ((with_reducible refine alloc_ ?_ ?_); (focus (first | exact Nat.le_refl _ | (simp; done) | (simp; omega) | omega))) | ((with_reducible refine set_ ?_ ?_); (focus (first | exact Nat.le_refl _ | (simp; done) | (simp; omega) | omega))) | (with_reducible refine Below.drew ?_) | ((with_reducible refine after_ ?_ (by assumption) ?_); (rotate_left; (focus (first | exact Nat.le_refl _ | (simp; done) | (simp; omega) | omega))))))⟩
/-- A ring and a number. -/
def CircI (lo hi : Int) (w : World) (e : Ending) (w' : World) : Prop := ∃ (L s : Int) (l : List Int) (g c : Nat) (x : Int), e = .returned (.tuple #[.agg #[.int .i64 L, .int .i64 s, .slice (some ⟨g, 0, none⟩) l.length c], .int .i64 x]) ∧ (0 ≤ L ∧ L ≤ 4001) ∧ l.length ≤ 8 ∧ l.length ≤ c ∧ (lo ≤ x ∧ x ≤ hi) ∧ Own w' w.heap.size 3 1 intCells (some ⟨g, 0, none⟩) l ∧ Below w.heap.size w w'
set_option maxHeartbeats 4000000 in
theorem drawAddCabin_c (A : Option Addr) (n cap : Nat) (w : World) (hk : Codes w A n) : Calls Try.prog 5 #[.slice A n cap] w (CircI 0 4001 w) := by
  have HK := Lib.hid (hk.carry ((Below.refl _ _).alloc (Nat.le_refl _) (.cells #[.int .i64 0, .int .i64 0, .slice none 0 0] 26)))
  have HZ := Lib.hid (Box.new w zeroL 26)
  clear hk
  have HC := Lib.hid (by have h := HK.out.cur (cap := cap); rw [World.size_alloc] at h; exact h : Cur ((w.alloc (.cells #[.int .i64 0, .int .i64 0, .slice none 0 0] 26)).alloc (.cells #[.slice A n cap, .int .i64 0, .int .u64 0] 46)) (w.heap.size + 1) 0)
  have HB0 := Lib.hid (show Below w.heap.size w ((w.alloc (.cells #[.int .i64 0, .int .i64 0, .slice none 0 0] 26)).alloc (.cells #[.slice A n cap, .int .i64 0, .int .u64 0] 46)) from ((Below.refl _ _).alloc (Nat.le_refl _) _).alloc (by simp) _)
  go_enter Try.func5, Try.ntmps5
  go_wp2_with fail
  refine (circle_c _ _ _ HC.out (by omega)).mono ?_
  rintro e w2 ⟨L, s, l, g, c, rfl, ⟨L1, L2⟩, hl, hc, ho, hc2, hg2⟩
  have HO2 := Lib.hid ho
  have HC2 := Lib.hid hc2
  have HZ2 := Lib.hid ((HZ.out.alloc (.cells #[.slice A n cap, .int .i64 0, .int .u64 0] 46)).grown hg2 (by omega))
  have HB2 := Lib.hid (HB0.out.trans (grown_below hg2 (by omega) (by simp; omega)))
  have z2 : w.heap.size + 1 < w2.heap.size := by have := hg2.size; simp at this; omega
  clear ho hc2 hg2 HZ HB0 HC HK
  go_wp2_with fail
  refine (among_n [1, 1, 2, 5, 20, 100, 4000, 0, 4001] 0 4001 _ _ _ _ _ _ HC2.out (by omega) (by simp) rfl rfl (by decide) (by decide) (by decide)).mono ?_
  rintro e w3 ⟨x, rfl, x1, x2, hcw3, hgw3⟩
  have HCw3 := Lib.hid hcw3
  have HGw3 := Lib.hid hgw3
  clear hcw3 hgw3
  have HO3 := Lib.hid (HO2.out.grown HGw3.out (by simp))
  have HZ3 := Lib.hid (HZ2.out.grown HGw3.out (by omega))
  have HB3 := Lib.hid (HB2.out.trans (grown_below HGw3.out (by omega) (by omega)))
  have z3 : w.heap.size + 1 < w3.heap.size := Nat.lt_of_lt_of_le z2 HGw3.out.size
  have o0 := HZ3.out.cell (j := 0) rfl
  have o1 := HZ3.out.cell (j := 1) rfl
  have o2 := HZ3.out.cell (j := 2) rfl
  have oz := HZ3.out.frozen
  have HS := Lib.hid (set3c w3 w.heap.size)
  clear HGw3 HO2 HZ2 HB2
  go_wp2_with fail
  exact bodyPost_ret (v := .tuple #[.agg #[.int .i64 L, .int .i64 s, .slice (some ⟨g, 0, none⟩) l.length c], .int .i64 x]) (by simp [results, Try.results5, go_sem, o0, o1, o2]) rfl
    ⟨L, s, l, g, c, x, rfl, ⟨L1, L2⟩, hl, hc, ⟨x1, x2⟩, (HO3.out.grown (HS.out _ _ _) (by simp; omega)).less (by simp; omega), by have h := HB3.out; exact (by repeat (first | (with_reducible exact Below.refl _ _) | ((with_reducible refine alloc_ ?_ ?_); (focus (first | exact Nat.le_refl _ | (simp; done) | (simp; omega) | omega))) | ((with_reducible refine set_ ?_ ?_); (focus (first | exact Nat.le_refl _ | (simp; done) | (simp; omega) | omega))) | (with_reducible refine Below.drew ?_) | ((with_reducible refine after_ ?_ (by assumption) ?_); (rotate_left; (focus (first | exact Nat.le_refl _ | (simp; done) | (simp; omega) | omega))))))⟩
set_option maxHeartbeats 4000000 in
theorem drawRemoveCabin_c (A : Option Addr) (n cap : Nat) (w : World) (hk : Codes w A n) : Calls Try.prog 17 #[.slice A n cap] w (CircI (-1) 8 w) := by
  have HK := Lib.hid (hk.carry ((Below.refl _ _).alloc (Nat.le_refl _) (.cells #[.int .i64 0, .int .i64 0, .slice none 0 0] 26)))
  have HZ := Lib.hid (Box.new w zeroL 26)
  clear hk
  have HC := Lib.hid (by have h := HK.out.cur (cap := cap); rw [World.size_alloc] at h; exact h : Cur ((w.alloc (.cells #[.int .i64 0, .int .i64 0, .slice none 0 0] 26)).alloc (.cells #[.slice A n cap, .int .i64 0, .int .u64 0] 46)) (w.heap.size + 1) 0)
  have HB0 := Lib.hid (show Below w.heap.size w ((w.alloc (.cells #[.int .i64 0, .int .i64 0, .slice none 0 0] 26)).alloc (.cells #[.slice A n cap, .int .i64 0, .int .u64 0] 46)) from ((Below.refl _ _).alloc (Nat.le_refl _) _).alloc (by simp) _)
  go_enter Try.func17, Try.ntmps17
  go_wp2_with fail
  refine (circle_c _ _ _ HC.out (by omega)).mono ?_
  rintro e w2 ⟨L, s, l, g, c, rfl, ⟨L1, L2⟩, hl, hc, ho, hc2, hg2⟩
  have HO2 := Lib.hid ho
  have HC2 := Lib.hid hc2
  have HZ2 := Lib.hid ((HZ.out.alloc (.cells #[.slice A n cap, .int .i64 0, .int .u64 0] 46)).grown hg2 (by omega))
  have HB2 := Lib.hid (HB0.out.trans (grown_below hg2 (by omega) (by simp; omega)))
  have z2 : w.heap.size + 1 < w2.heap.size := by have := hg2.size; simp at this; omega
  clear ho hc2 hg2 HZ HB0 HC HK
  go_wp2_with fail
  have HX2 := Lib.hid (Box.new w2 [.int .i64 L, .int .i64 s, .slice (some ⟨g, 0, none⟩) l.length c] 26)
  have HC3 := Lib.hid (HC2.out.alloc (.cells #[.int .i64 L, .int .i64 s, .slice (some ⟨g, 0, none⟩) l.length c] 26))
  have HZ3 := Lib.hid (HZ2.out.alloc (.cells #[.int .i64 L, .int .i64 s, .slice (some ⟨g, 0, none⟩) l.length c] 26))
  have HO3 := Lib.hid (HO2.out.carry ((Below.refl _ _).alloc (Nat.le_refl _) (.cells #[.int .i64 L, .int .i64 s, .slice (some ⟨g, 0, none⟩) l.length c] 26)))
  have HB3 := Lib.hid (HB2.out.alloc (by omega) (.cells #[.int .i64 L, .int .i64 s, .slice (some ⟨g, 0, none⟩) l.length c] 26))
  obtain ⟨w3, hw3⟩ : ∃ w3, w2.alloc (.cells #[.int .i64 L, .int .i64 s, .slice (some ⟨g, 0, none⟩) l.length c] 26) = w3 := ⟨_, rfl⟩
  obtain ⟨g5, hg5⟩ : ∃ g5, w2.heap.size = g5 := ⟨_, rfl⟩
  rw [hw3] at HC3 HZ3 HO3 HB3 ⊢
  have hX : Box w3 w2.heap.size 26 3 [.int .i64 L, .int .i64 s, .slice (some ⟨g, 0, none⟩) l.length c] := hw3 ▸ HX2.out
  rw [hg5] at hX z2 ⊢
  have HX3 := Lib.hid hX
  have x0 := hX.cell (j := 0) rfl
  have x1 := hX.cell (j := 1) rfl
  have x2 := hX.cell (j := 2) rfl
  have lx := hX.lt
  clear hX hw3 hg5 HX2 HC2 HZ2 HO2 HB2
  have a1 : IntKind.i64.wrap ((l.length : Int) + 1) = l.length + 1 := IntWalk.i64_in _ (by omega)
  go_region_held3 (fun w' : World => w'.cell? ⟨g5, 0, none⟩ = some (.int .i64 L) ∧ w'.cell? ⟨g5, 1, none⟩ = some (.int .i64 s) ∧ w'.cell? ⟨g5, 2, none⟩ = some (.slice (some ⟨g, 0, none⟩) l.length c)) (first | (with_reducible exact ⟨x0, x1, x2⟩) | (with_reducible exact ⟨y0, y1, y2⟩) | (with_reducible exact ⟨v0, v1, v2⟩) | (simp [go_sem, x0, x1, x2]; done) | (simp [go_sem, v0, v1, v2]; done)) (first
    | (go_at_call 39; refine (pick_c 9 (w.heap.size + 1) _ _ HC4.out (by omega) (by omega) (by omega)).mono ?_; rintro e w5 ⟨q, rfl, q1, q2, hc5, hg5⟩; have HC5 := Lib.hid hc5; have HX5 := Lib.hid (HX4.out.grown hg5 (by omega)); have HZ5 := Lib.hid (HZ4.out.grown hg5 (by omega)); have HO5 := Lib.hid (HO4.out.grown hg5 (by simp)); have HB5 := Lib.hid (HB4.out.trans (grown_below hg5 (by omega) (by omega))); have v0 := HX5.out.cell (j := 0) rfl; have v1 := HX5.out.cell (j := 1) rfl; have v2 := HX5.out.cell (j := 2) rfl; have o0 := HZ5.out.cell (j := 0) rfl; have o1 := HZ5.out.cell (j := 1) rfl; have o2 := HZ5.out.cell (j := 2) rfl; have oz := HZ5.out.frozen; have lz := HZ5.out.lt; have z5 := HX5.out.lt; have b1 : q.tdiv 8 = q / 8 := Int.tdiv_eq_ediv_of_nonneg (by omega); have b3 : IntKind.i64.wrap (q / 8) = q / 8 := IntWalk.i64_in _ (by omega); have b2 : IntKind.i64.wrap (x - q / 8) = x - q / 8 := IntWalk.i64_in _ (by omega); clear hc5 hg5)
    | (go_at_call 39; refine (pick_c ((l.length : Int) + 1) (w.heap.size + 1) _ _ (HC3.out.carry (Below.refl _ _).drew) (by omega) (by omega) (by omega)).mono ?_; rintro e w4 ⟨x, rfl, xa, xb, hc4, hg4⟩; have HC4 := Lib.hid hc4; have hg4' := but_trans (but_below (World.grownBy.refl w3 _) (Below.refl _ _).drew) hg4; have HX4 := Lib.hid (HX3.out.grown hg4' (by omega)); have HZ4 := Lib.hid (HZ3.out.grown hg4' (by omega)); have HO4 := Lib.hid (HO3.out.grown hg4' (by simp)); have HB4 := Lib.hid (HB3.out.trans (grown_below hg4' (by omega) (by omega))); have y0 := HX4.out.cell (j := 0) rfl; have y1 := HX4.out.cell (j := 1) rfl; have y2 := HX4.out.cell (j := 2) rfl; have z4 := HX4.out.lt; clear hc4 hg4 hg4'))
  have HS := Lib.hid (set3c w5 w.heap.size)
  go_wp2_with fail
  exact bodyPost_ret (v := .tuple #[.agg #[.int .i64 L, .int .i64 s, .slice (some ⟨g, 0, none⟩) l.length c], .int .i64 (x - q / 8)]) (by simp [results, Try.results17, go_sem, o0, o1, o2, b1, b2, b3]) rfl
    ⟨L, s, l, g, c, x - q / 8, rfl, ⟨L1, L2⟩, hl, hc, ⟨by omega, by omega⟩, (HO5.out.grown (HS.out _ _ _) (by simp; omega)).less (by simp; omega), by have h := HB5.out; exact (by repeat (first | (with_reducible exact Below.refl _ _) | ((with_reducible refine alloc_ ?_ ?_); (focus (first | exact Nat.le_refl _ | (simp; done) | (simp; omega) | omega))) | ((with_reducible refine set_ ?_ ?_); (focus (first | exact Nat.le_refl _ | (simp; done) | (simp; omega) | omega))) | (with_reducible refine Below.drew ?_) | ((with_reducible refine after_ ?_ (by assumption) ?_); (rotate_left; (focus (first | exact Nat.le_refl _ | (simp; done) | (simp; omega) | omega))))))⟩
def EvenA (w : World) (e : Ending) (w' : World) : Prop := ∃ L s n : Int, e = .returned (.tuple #[.int .i64 L, .int .i64 s, .int .i64 n]) ∧ (0 ≤ L ∧ L ≤ 4001) ∧ (-1 ≤ n ∧ n ≤ 13) ∧ Below w.heap.size w w'
set_option maxHeartbeats 4000000 in
theorem drawEvenStarts_c (A : Option Addr) (n cap : Nat) (w : World) (hk : Codes w A n) : Calls Try.prog 19 #[.slice A n cap] w (EvenA w) := by
  have HC := Lib.hid (hk.cur (cap := cap))
  clear hk
  go_enter Try.func19, Try.ntmps19
  go_wp2_with fail
  refine (among_n [10, 11, 100, 777, 4000, 9, 4001] 9 4001 _ _ _ _ _ _ HC.out (by omega) (by simp) rfl rfl (by decide) (by decide) (by decide)).mono ?_
  rintro e w1 ⟨x, rfl, x1, x2, hcw1, hgw1⟩
  have HCw1 := Lib.hid hcw1
  have HGw1 := Lib.hid hgw1
  clear hcw1 hgw1
  go_wp2_with fail
  refine (among_n [1, 50, 100, 0, 101] 0 101 _ _ _ _ _ _ HCw1.out (by omega) (by simp) rfl rfl (by decide) (by decide) (by decide)).mono ?_
  rintro e w2 ⟨y, rfl, y1, y2, hcw2, hgw2⟩
  have HCw2 := Lib.hid hcw2
  have HGw2 := Lib.hid hgw2
  clear hcw2 hgw2
  go_wp2_with fail
  refine (among_n [0, 1, 2, 3, 7, 12, 13, -1] (-1) 13 _ _ _ _ _ _ HCw2.out (by omega) (by simp) rfl rfl (by decide) (by decide) (by decide)).mono ?_
  rintro e w3 ⟨z, rfl, z1, z2, hcw3, hgw3⟩
  have HCw3 := Lib.hid hcw3
  have HGw3 := Lib.hid hgw3
  clear hcw3 hgw3
  go_wp2_with fail
  exact bodyPost_ret (v := .tuple #[.int .i64 x, .int .i64 y, .int .i64 z]) (by simp [results, Try.results19, go_sem]) rfl ⟨x, y, z, rfl, ⟨by omega, by omega⟩, ⟨by omega, by omega⟩, draw_end (but_trans (but_trans HGw1.out HGw2.out) HGw3.out)⟩
end Go.Proofs.Ytifmeloljkgcjaa
