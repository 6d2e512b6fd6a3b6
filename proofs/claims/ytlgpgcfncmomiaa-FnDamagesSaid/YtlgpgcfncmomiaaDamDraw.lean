/- The arguments that the reference draws for the damages' statements; no conditions. -/
import Derived.Test.YtlgpgcfncmomiaaDamL
namespace Go.Proofs.Ytlgpgcfncmomiaa
open Go.RowKit

def KinArgs (w : World) (e : Ending) (w' : World) : Prop := ∃ k : Kin, e = .returned (.agg #[.int .i64 k.i, .int .i64 k.st, .int .i64 k.wi, .int .i64 k.we, .int .i64 k.sg]) ∧ NearK k ∧ Below w.heap.size w w'
set_option maxHeartbeats 4000000 in
theorem drawIsRopeKind_c (A : Option Addr) (n cap : Nat) (w : World) (hk : Codes w A n) : Calls Try.prog 16 #[.slice A n cap] w (KinArgs w) := by
  have HK := Lib.hid (hk.carry ((Below.refl _ _).alloc (Nat.le_refl _) (.cells #[.int .i64 0, .int .i64 0, .int .i64 0, .int .i64 0, .int .i64 0] 25)))
  have HZ := Lib.hid (Box.new w [.int .i64 0, .int .i64 0, .int .i64 0, .int .i64 0, .int .i64 0] 25)
  clear hk
  have HC := Lib.hid (by have h := HK.out.cur (cap := cap); rw [World.size_alloc] at h; exact h : Cur ((w.alloc (.cells #[.int .i64 0, .int .i64 0, .int .i64 0, .int .i64 0, .int .i64 0] 25)).alloc (.cells #[.slice A n cap, .int .i64 0, .int .u64 0] 47)) (w.heap.size + 1) 0)
  have HB0 := Lib.hid (show Below w.heap.size w ((w.alloc (.cells #[.int .i64 0, .int .i64 0, .int .i64 0, .int .i64 0, .int .i64 0] 25)).alloc (.cells #[.slice A n cap, .int .i64 0, .int .u64 0] 47)) from ((Below.refl _ _).alloc (Nat.le_refl _) _).alloc (by simp) _)
  go_enter Try.func16, Try.ntmps16
  go_wp2_with fail
  refine (among_n [1, 7, 20] 1 20 _ _ _ _ _ _ HC.out (by omega) (by simp) rfl rfl (by decide) (by decide) (by decide)).mono ?_
  rintro e w1 ⟨i, rfl, i1, i2, hcw1, hgw1⟩
  have HCw1 := Lib.hid hcw1
  have HGw1 := Lib.hid hgw1
  clear hcw1 hgw1
  have HZ1 := Lib.hid ((HZ.out.alloc _).grown HGw1.out (by omega))
  have HB1 := Lib.hid (HB0.out.trans (grown_below HGw1.out (by omega) (by simp; omega)))
  go_wp2_with fail
  refine (ropeKind_c i _ _ _ HCw1.out (by omega)).mono ?_
  rintro e w2 ⟨k, rfl, hn, _, hg2⟩
  have HN := Lib.hid hn
  have hz := HZ1.out.grown hg2 (by omega)
  have HB2 := Lib.hid (HB1.out.trans (grown_below hg2 (by omega) HB1.out.size))
  have o0 := hz.cell (j := 0) rfl
  have o1 := hz.cell (j := 1) rfl
  have o2 := hz.cell (j := 2) rfl
  have o3 := hz.cell (j := 3) rfl
  have o4 := hz.cell (j := 4) rfl
  have oz := hz.frozen
  clear hn hg2 hz
  go_wp2_with fail
  exact bodyPost_ret (v := .agg #[.int .i64 k.i, .int .i64 k.st, .int .i64 k.wi, .int .i64 k.we, .int .i64 k.sg]) (by simp [results, Try.results16, go_sem, o0, o1, o2, o3, o4]) rfl
    ⟨k, rfl, HN.out, by have h := HB2.out; exact (by repeat (first | (with_reducible exact Below.refl _ _) | ((with_reducible refine alloc_ ?_ ?_); (focus (first | exact Nat.le_refl _ | (simp; done) | (simp; omega) | omega))) | ((with_reducible refine set_ ?_ ?_); (focus (first | exact Nat.le_refl _ | (simp; done) | (simp; omega) | omega))) | (with_reducible refine Below.drew ?_) | ((with_reducible refine after_ ?_ (by assumption) ?_); (rotate_left; (focus (first | exact Nat.le_refl _ | (simp; done) | (simp; omega) | omega))))))⟩
theorem set5 (w : World) (g : Nat) (u0 u1 u2 u3 u4 : Value) : w.grownBy (((((w.setCell ⟨g, 0, none⟩ u0).setCell ⟨g, 1, none⟩ u1).setCell ⟨g, 2, none⟩ u2).setCell ⟨g, 3, none⟩ u3).setCell ⟨g, 4, none⟩ u4) (some g) :=
  grown_set (grown_set (grown_set (grown_set (grown_set (World.grownBy.refl w (some g))))))
def DamsArgs (w : World) (e : Ending) (w' : World) : Prop := ∃ (k : Kin) (g c : Nat) (l : List Dam), e = .returned (.tuple #[.agg #[.int .i64 k.i, .int .i64 k.st, .int .i64 k.wi, .int .i64 k.we, .int .i64 k.sg], .slice (some ⟨g, 0, none⟩) l.length c]) ∧ NearK k ∧ l.length ≤ c ∧ l.length ≤ 17 ∧ Own w' w.heap.size 28 3 Dam.cells (some ⟨g, 0, none⟩) l ∧ Below w.heap.size w w'
set_option maxHeartbeats 4000000 in
theorem drawAreDamages_c (A : Option Addr) (n cap : Nat) (w : World) (hk : Codes w A n) : Calls Try.prog 30 #[.slice A n cap] w (DamsArgs w) := by
  have HK := Lib.hid (hk.carry ((Below.refl _ _).alloc (Nat.le_refl _) (.cells #[.int .i64 0, .int .i64 0, .int .i64 0, .int .i64 0, .int .i64 0] 25)))
  have HZ := Lib.hid (Box.new w [.int .i64 0, .int .i64 0, .int .i64 0, .int .i64 0, .int .i64 0] 25)
  clear hk
  have HC := Lib.hid (by have h := HK.out.cur (cap := cap); rw [World.size_alloc] at h; exact h : Cur ((w.alloc (.cells #[.int .i64 0, .int .i64 0, .int .i64 0, .int .i64 0, .int .i64 0] 25)).alloc (.cells #[.slice A n cap, .int .i64 0, .int .u64 0] 47)) (w.heap.size + 1) 0)
  have HB0 := Lib.hid (show Below w.heap.size w ((w.alloc (.cells #[.int .i64 0, .int .i64 0, .int .i64 0, .int .i64 0, .int .i64 0] 25)).alloc (.cells #[.slice A n cap, .int .i64 0, .int .u64 0] 47)) from ((Below.refl _ _).alloc (Nat.le_refl _) _).alloc (by simp) _)
  go_enter Try.func30, Try.ntmps30
  go_wp2_with fail
  refine (ropeKind_c 7 _ _ _ HC.out (by omega)).mono ?_
  rintro e w2 ⟨k, rfl, hn, hc2, hg2⟩
  have HN := Lib.hid hn
  have HC2 := Lib.hid (hc2.alloc (.cells k.cells.toArray 25))
  have HB2 := Lib.hid (HB0.out.trans (grown_below hg2 (by omega) (by simp; omega)))
  have HZ2 := Lib.hid (((HZ.out.alloc (.cells #[.slice A n cap, .int .i64 0, .int .u64 0] 47)).grown hg2 (by omega)).alloc (.cells k.cells.toArray 25))
  have HX2 := Lib.hid (Box.new w2 k.cells 25)
  have z2 : w.heap.size + 1 < w2.heap.size := by have := hg2.size; simp at this; omega
  clear hn hc2 hg2
  go_wp2_with fail
  obtain ⟨w3, hw3⟩ : ∃ w3, w2.alloc (.cells k.cells.toArray 25) = w3 := ⟨_, rfl⟩
  have hw3' := hw3
  simp only [Kin.cells] at hw3'
  rw [hw3']
  have HB3 := Lib.hid (show Below w.heap.size w w3 from hw3 ▸ HB2.out.alloc (by omega) _)
  rw [hw3] at HC2 HZ2 HX2
  clear hw3 hw3'
  have hgc : w.heap.size + 1 < w3.heap.size := by have := HX2.out.lt; omega
  have x0 := HX2.out.cell (j := 0) rfl
  have x1 := HX2.out.cell (j := 1) rfl
  have x2 := HX2.out.cell (j := 2) rfl
  have x3 := HX2.out.cell (j := 3) rfl
  have x4 := HX2.out.cell (j := 4) rfl
  go_region_held3 (fun w' : World => w'.cell? ⟨w2.heap.size, 0, none⟩ = some (.int .i64 k.i) ∧ w'.cell? ⟨w2.heap.size, 1, none⟩ = some (.int .i64 k.st) ∧ w'.cell? ⟨w2.heap.size, 2, none⟩ = some (.int .i64 k.wi) ∧ w'.cell? ⟨w2.heap.size, 3, none⟩ = some (.int .i64 k.we) ∧ w'.cell? ⟨w2.heap.size, 4, none⟩ = some (.int .i64 k.sg)) (first | (with_reducible exact ⟨x0, x1, x2, x3, x4⟩) | (with_reducible exact ⟨y0, y1, y2, y3, y4⟩) | (simp [go_sem, x0, x1, x2, x3, x4]; done) | (simp [go_sem, y0, y1, y2, y3, y4]; done)) (first
    | (go_at_call 20; refine (damages_c k (w.heap.size + 1) _ _ (HC2.out.carry (Below.refl _ _).drew) (by omega) HN.out).mono ?_; rintro e w4 ⟨g, c, l, rfl, hc, hl, ho, hc4, hg4⟩; have HG4 := Lib.hid (show w3.grownBy w4 (some (w.heap.size + 1)) from but_trans (but_below (World.grownBy.refl w3 _) (Below.refl _ _).drew) hg4); have HO4 := Lib.hid ho; have hx4 := HX2.out.grown HG4.out (by omega); have y0 := hx4.cell (j := 0) rfl; have y1 := hx4.cell (j := 1) rfl; have y2 := hx4.cell (j := 2) rfl; have y3 := hx4.cell (j := 3) rfl; have y4 := hx4.cell (j := 4) rfl; have hz4 := HZ2.out.grown HG4.out (by omega); have o0 := hz4.cell (j := 0) rfl; have o1 := hz4.cell (j := 1) rfl; have o2 := hz4.cell (j := 2) rfl; have o3 := hz4.cell (j := 3) rfl; have o4 := hz4.cell (j := 4) rfl; have oz := hz4.frozen; clear ho hc4 hg4 hx4 hz4))
  have HB4 := Lib.hid (HB3.out.trans (grown_below HG4.out (by omega) (by omega)))
  have HS := Lib.hid (set5 w4 w.heap.size)
  go_wp2_with fail
  exact bodyPost_ret (v := .tuple #[.agg #[.int .i64 k.i, .int .i64 k.st, .int .i64 k.wi, .int .i64 k.we, .int .i64 k.sg], .slice (some ⟨g, 0, none⟩) l.length c]) (by simp [results, Try.results30, go_sem, o0, o1, o2, o3, o4]) rfl
    ⟨k, g, c, l, rfl, HN.out, hc, hl, (HO4.out.grown (HS.out _ _ _ _ _) (by simp; omega)).less (by simp; omega), by have h := HB4.out; exact (by repeat (first | (with_reducible exact Below.refl _ _) | ((with_reducible refine alloc_ ?_ ?_); (focus (first | exact Nat.le_refl _ | (simp; done) | (simp; omega) | omega))) | ((with_reducible refine set_ ?_ ?_); (focus (first | exact Nat.le_refl _ | (simp; done) | (simp; omega) | omega))) | (with_reducible refine Below.drew ?_) | ((with_reducible refine after_ ?_ (by assumption) ?_); (rotate_left; (focus (first | exact Nat.le_refl _ | (simp; done) | (simp; omega) | omega))))))⟩
set_option maxHeartbeats 4000000 in
theorem drawRopeVerdict_c (A : Option Addr) (n cap : Nat) (w : World) (hk : Codes w A n) : Calls Try.prog 11 #[.slice A n cap] w (DamsArgs w) := by
  have HK := Lib.hid (hk.carry ((Below.refl _ _).alloc (Nat.le_refl _) (.cells #[.int .i64 0, .int .i64 0, .int .i64 0, .int .i64 0, .int .i64 0] 25)))
  have HZ := Lib.hid (Box.new w [.int .i64 0, .int .i64 0, .int .i64 0, .int .i64 0, .int .i64 0] 25)
  clear hk
  go_enter Try.func11, Try.ntmps11
  go_wp2_with fail
  refine (drawAreDamages_c _ _ _ _ HK.out).mono ?_
  rintro e w4 ⟨k, g, c, l, rfl, hn, hc, hl, ho, hb⟩
  have HN := Lib.hid hn
  have HO4 := Lib.hid ho
  have hz4 := HZ.out.carry hb
  have o0 := hz4.cell (j := 0) rfl
  have o1 := hz4.cell (j := 1) rfl
  have o2 := hz4.cell (j := 2) rfl
  have o3 := hz4.cell (j := 3) rfl
  have o4 := hz4.cell (j := 4) rfl
  have oz := hz4.frozen
  have HB4 := Lib.hid (show Below w.heap.size w w4 from ((Below.refl _ _).alloc (Nat.le_refl _) _).trans (hb.mono (by simp)))
  have HS := Lib.hid (set5 w4 w.heap.size)
  clear hn ho hb hz4
  go_wp2_with fail
  exact bodyPost_ret (v := .tuple #[.agg #[.int .i64 k.i, .int .i64 k.st, .int .i64 k.wi, .int .i64 k.we, .int .i64 k.sg], .slice (some ⟨g, 0, none⟩) l.length c]) (by simp [results, Try.results11, go_sem, o0, o1, o2, o3, o4]) rfl
    ⟨k, g, c, l, rfl, HN.out, hc, hl, (HO4.out.grown (HS.out _ _ _ _ _) (by simp)).less (by simp), by have h := HB4.out; exact (by repeat (first | (with_reducible exact Below.refl _ _) | ((with_reducible refine alloc_ ?_ ?_); (focus (first | exact Nat.le_refl _ | (simp; done) | (simp; omega) | omega))) | ((with_reducible refine set_ ?_ ?_); (focus (first | exact Nat.le_refl _ | (simp; done) | (simp; omega) | omega))) | (with_reducible refine Below.drew ?_) | ((with_reducible refine after_ ?_ (by assumption) ?_); (rotate_left; (focus (first | exact Nat.le_refl _ | (simp; done) | (simp; omega) | omega))))))⟩
def AddArgs (w : World) (e : Ending) (w' : World) : Prop := ∃ (k : Kin) (g c : Nat) (l : List Dam) (d : Dam), e = .returned (.tuple #[.agg #[.int .i64 k.i, .int .i64 k.st, .int .i64 k.wi, .int .i64 k.we, .int .i64 k.sg], .slice (some ⟨g, 0, none⟩) l.length c, .agg #[.int .i64 d.a, .int .i64 d.s, .int .i64 d.w]]) ∧ NearK k ∧ NearW d ∧ l.length ≤ c ∧ l.length ≤ 17 ∧ Own w' w.heap.size 28 3 Dam.cells (some ⟨g, 0, none⟩) l ∧ Below w.heap.size w w'
theorem set3 (w : World) (g : Nat) (u0 u1 u2 : Value) : w.grownBy (((w.setCell ⟨g, 0, none⟩ u0).setCell ⟨g, 1, none⟩ u1).setCell ⟨g, 2, none⟩ u2) (some g) :=
  grown_set (grown_set (grown_set (World.grownBy.refl w (some g))))
set_option maxHeartbeats 4000000 in
theorem drawAddDamage_c (A : Option Addr) (n cap : Nat) (w : World) (hk : Codes w A n) : Calls Try.prog 5 #[.slice A n cap] w (AddArgs w) := by
  have HK := Lib.hid ((hk.carry ((Below.refl _ _).alloc (Nat.le_refl _) (.cells #[.int .i64 0, .int .i64 0, .int .i64 0, .int .i64 0, .int .i64 0] 25))).carry ((Below.refl _ _).alloc (Nat.le_refl _) (.cells #[.int .i64 0, .int .i64 0, .int .i64 0] 28)))
  have HZ := Lib.hid ((Box.new w [.int .i64 0, .int .i64 0, .int .i64 0, .int .i64 0, .int .i64 0] 25).alloc (.cells #[.int .i64 0, .int .i64 0, .int .i64 0] 28))
  have hy := Box.new (w.alloc (.cells #[.int .i64 0, .int .i64 0, .int .i64 0, .int .i64 0, .int .i64 0] 25)) [.int .i64 0, .int .i64 0, .int .i64 0] 28
  rw [World.size_alloc] at hy
  have HY := Lib.hid hy
  clear hk hy
  have HC := Lib.hid (by have h := HK.out.cur (cap := cap); rw [World.size_alloc, World.size_alloc] at h; exact h : Cur (((w.alloc (.cells #[.int .i64 0, .int .i64 0, .int .i64 0, .int .i64 0, .int .i64 0] 25)).alloc (.cells #[.int .i64 0, .int .i64 0, .int .i64 0] 28)).alloc (.cells #[.slice A n cap, .int .i64 0, .int .u64 0] 47)) (w.heap.size + 1 + 1) 0)
  have HB0 := Lib.hid (show Below w.heap.size w (((w.alloc (.cells #[.int .i64 0, .int .i64 0, .int .i64 0, .int .i64 0, .int .i64 0] 25)).alloc (.cells #[.int .i64 0, .int .i64 0, .int .i64 0] 28)).alloc (.cells #[.slice A n cap, .int .i64 0, .int .u64 0] 47)) from (((Below.refl _ _).alloc (Nat.le_refl _) _).alloc (by simp) _).alloc (by simp; omega) _)
  go_enter Try.func5, Try.ntmps5
  go_wp2_with fail
  refine (ropeKind_c 7 (w.heap.size + 1 + 1) _ _ HC.out (by omega)).mono ?_
  rintro e w2 ⟨k, rfl, hn, hc2, hg2⟩
  have HN := Lib.hid hn
  have HC2 := Lib.hid (hc2.alloc (.cells k.cells.toArray 25))
  have HB2 := Lib.hid (HB0.out.trans (grown_below hg2 (by omega) (by simp; omega)))
  have HZ2 := Lib.hid (((HZ.out.alloc (.cells #[.slice A n cap, .int .i64 0, .int .u64 0] 47)).grown hg2 (by omega)).alloc (.cells k.cells.toArray 25))
  have HY2 := Lib.hid (((HY.out.alloc (.cells #[.slice A n cap, .int .i64 0, .int .u64 0] 47)).grown hg2 (by omega)).alloc (.cells k.cells.toArray 25))
  have HX2 := Lib.hid (Box.new w2 k.cells 25)
  have z2 : w.heap.size + 2 < w2.heap.size := by have := hg2.size; simp at this; omega
  clear hn hc2 hg2
  go_wp2_with fail
  refine (damages_c k (w.heap.size + 1 + 1) _ _ HC2.out (by omega) HN.out).mono ?_
  rintro e w4 ⟨g, c, l, rfl, hc, hl, ho, hc4, hg4⟩
  have HO4 := Lib.hid ho
  have HC4 := Lib.hid hc4
  have HX4 := Lib.hid (HX2.out.grown hg4 (by omega))
  have HZ4 := Lib.hid (HZ2.out.grown hg4 (by omega))
  have HY4 := Lib.hid (HY2.out.grown hg4 (by omega))
  have HB4 := Lib.hid ((HB2.out.alloc (by omega) (.cells k.cells.toArray 25)).trans (grown_below hg4 (by omega) (by simp; omega)))
  have z4 : w2.heap.size < w4.heap.size := HX4.out.lt
  clear ho hc4 hg4 HK HC HC2 HX2 HZ2 HY2 HZ HY
  have x0 := HX4.out.cell (j := 0) rfl
  have x1 := HX4.out.cell (j := 1) rfl
  have x2 := HX4.out.cell (j := 2) rfl
  have x3 := HX4.out.cell (j := 3) rfl
  have x4 := HX4.out.cell (j := 4) rfl
  go_wp2_with fail
  go_region_held3 (fun w' : World => w'.cell? ⟨w2.heap.size, 0, none⟩ = some (.int .i64 k.i) ∧ w'.cell? ⟨w2.heap.size, 1, none⟩ = some (.int .i64 k.st) ∧ w'.cell? ⟨w2.heap.size, 2, none⟩ = some (.int .i64 k.wi) ∧ w'.cell? ⟨w2.heap.size, 3, none⟩ = some (.int .i64 k.we) ∧ w'.cell? ⟨w2.heap.size, 4, none⟩ = some (.int .i64 k.sg)) (first | (with_reducible exact ⟨x0, x1, x2, x3, x4⟩) | (with_reducible exact ⟨y0, y1, y2, y3, y4⟩) | (simp [go_sem, x0, x1, x2, x3, x4]; done) | (simp [go_sem, y0, y1, y2, y3, y4]; done)) (first
    | (go_at_call 21; refine (damage_c k (w.heap.size + 1 + 1) _ _ (HC4.out.carry (Below.refl _ _).drew) (by omega) HN.out).mono ?_; rintro e w5 ⟨d, rfl, hd, hc5, hg5⟩; have HD := Lib.hid hd; have HG5 := Lib.hid (show w4.grownBy w5 (some (w.heap.size + 1 + 1)) from but_trans (but_below (World.grownBy.refl w4 _) (Below.refl _ _).drew) hg5); have hx5 := HX4.out.grown HG5.out (by omega); have y0 := hx5.cell (j := 0) rfl; have y1 := hx5.cell (j := 1) rfl; have y2 := hx5.cell (j := 2) rfl; have y3 := hx5.cell (j := 3) rfl; have y4 := hx5.cell (j := 4) rfl; have hz5 := HZ4.out.grown HG5.out (by omega); have o0 := hz5.cell (j := 0) rfl; have o1 := hz5.cell (j := 1) rfl; have o2 := hz5.cell (j := 2) rfl; have o3 := hz5.cell (j := 3) rfl; have o4 := hz5.cell (j := 4) rfl; have oz := hz5.frozen; have hy5 := HY4.out.grown HG5.out (by omega); have n0 := hy5.cell (j := 0) rfl; have n1 := hy5.cell (j := 1) rfl; have n2 := hy5.cell (j := 2) rfl; have nz := hy5.frozen; have ly := hy5.lt; clear hd hc5 hg5 hx5 hz5 hy5))
  all_goals
    have HB5 := Lib.hid (HB4.out.trans (grown_below HG5.out (by omega) (by omega)))
    have HO5 := Lib.hid (HO4.out.grown HG5.out (by simp; omega))
    go_wp2_with fail
    exact bodyPost_ret (v := .tuple #[.agg #[.int .i64 k.i, .int .i64 k.st, .int .i64 k.wi, .int .i64 k.we, .int .i64 k.sg], .slice (some ⟨g, 0, none⟩) l.length c, .agg #[.int .i64 d.a, .int .i64 d.s, .int .i64 d.w]]) (by simp [results, Try.results5, go_sem, o0, o1, o2, o3, o4, n0, n1, n2]) rfl
      ⟨k, g, c, l, d, rfl, HN.out, HD.out, hc, hl, (((HO5.out.grown (set5 _ _ _ _ _ _ _) (by simp; omega)).grown (set3 _ _ _ _ _) (by simp; omega)).less (by simp; omega)), by have h := HB5.out; exact (by repeat (first | (with_reducible exact Below.refl _ _) | ((with_reducible refine alloc_ ?_ ?_); (focus (first | exact Nat.le_refl _ | (simp; done) | (simp; omega) | omega))) | ((with_reducible refine set_ ?_ ?_); (focus (first | exact Nat.le_refl _ | (simp; done) | (simp; omega) | omega))) | (with_reducible refine Below.drew ?_) | ((with_reducible refine after_ ?_ (by assumption) ?_); (rotate_left; (focus (first | exact Nat.le_refl _ | (simp; done) | (simp; omega) | omega))))))⟩
end Go.Proofs.Ytlgpgcfncmomiaa
