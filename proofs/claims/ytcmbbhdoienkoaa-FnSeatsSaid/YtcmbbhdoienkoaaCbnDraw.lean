/- The arguments that the reference draws for the statements on cabins; no conditions. -/
import Derived.Test.YtcmbbhdoienkoaaCbnD
import Derived.Deep.RegionLaw
import Derived.Deep.RegionWith
import Derived.Deep.RegionHeld3
namespace Go.Proofs.Ytcmbbhdoienkoaa
open Go.RowKit

def CabOnly (w : World) (e : Ending) (w' : World) : Prop := ∃ (g c : Nat) (l : List Cbn), e = .returned (.slice (some ⟨g, 0, none⟩) l.length c) ∧ l.length ≤ c ∧ l.length ≤ 14 ∧ Own w' w.heap.size 33 5 Cbn.cells (some ⟨g, 0, none⟩) l ∧ Below w.heap.size w w'
def CabArgs (lo hi : Int) (w : World) (e : Ending) (w' : World) : Prop := ∃ (g c : Nat) (l : List Cbn) (s : Int), e = .returned (.tuple #[.slice (some ⟨g, 0, none⟩) l.length c, .int .i64 s]) ∧ l.length ≤ c ∧ l.length ≤ 14 ∧ (lo ≤ s ∧ s ≤ hi) ∧ Own w' w.heap.size 33 5 Cbn.cells (some ⟨g, 0, none⟩) l ∧ Below w.heap.size w w'
def LoadArgs (w : World) (e : Ending) (w' : World) : Prop := ∃ (x : Cbn) (s : Int), e = .returned (.tuple #[.agg #[.int .i64 x.n, .int .i64 x.s, .int .i64 x.e, .int .i64 x.t, .int .i64 x.r], .int .i64 s]) ∧ Below w.heap.size w w'
/-- One of the first numbers of a literal. -/
theorem among_s (L : List Int) (m : Nat) (lo hi : Int) (gc K b c : Nat) (w : World) (h : Cur w gc K) (hK : K ≤ 10000000) (hb : b ≠ gc) (hw : w.heap[b]? = some (.cells (L.map (Value.int .i64)).toArray 3)) (h0 : 0 < m) (hm : m ≤ L.length) (h2 : L.length ≤ 1000) (hl : ∀ i, i < L.length → lo ≤ nth L i ∧ nth L i ≤ hi) :
    Calls Try.prog 26 #[.pointer (some ⟨gc, 0, none⟩), .slice (some ⟨b, 0, none⟩) m c] w (Drew gc (K + 2) lo hi w) := by
  have hlen : (L.take m).length = m := by rw [List.length_take]; omega
  have := among_b (L.take m) lo hi b c gc K w h hK hb (lt_of_block hw) (by omega) (by omega) (fun i hi => by rw [hlen] at hi; rw [nth_take hi]; exact hl i (by omega)) (fun i hi => by
    rw [hlen] at hi
    rw [nth_take hi, cell_of_row w b i (L.map (Value.int .i64)).toArray 3 (0, 0) hw]
    simp [nth_eq (show i < L.length by omega), show i < L.length by omega])
  rwa [hlen] at this
theorem drawAreCabins_c (A : Option Addr) (n cap : Nat) (w : World) (hk : Codes w A n) : Calls Try.prog 48 #[.slice A n cap] w (CabOnly w) := by
  have HK := Lib.hid hk
  clear hk
  go_enter Try.func48, Try.ntmps48
  go_wp2_with fail
  refine (cabins_c w.heap.size 0 _ HK.out.cur (by omega)).mono ?_
  rintro e w1 ⟨g1, c1, l, rfl, hc1, hl, ho1, hcw1, hgw1⟩
  have HO := Lib.hid ho1
  have HCw1 := Lib.hid hcw1
  have HGw1 := Lib.hid hgw1
  have hz1 : w.heap.size < w1.heap.size := by have := hgw1.size; simp at this; omega
  clear ho1 hcw1 hgw1
  go_wp2_with fail
  go_ret
  exact ⟨g1, c1, l, rfl, hc1, hl, HO.out.less (by simp), draw_end HGw1.out⟩
theorem drawSeatsOnLine_c (A : Option Addr) (n cap : Nat) (w : World) (hk : Codes w A n) : Calls Try.prog 22 #[.slice A n cap] w (CabOnly w) := by
  have HK := Lib.hid hk
  clear hk
  go_enter Try.func22, Try.ntmps22
  go_wp2_with fail
  refine (drawAreCabins_c _ _ _ _ HK.out).mono ?_
  rintro e w1 ⟨g1, c1, l, rfl, hc1, hl, ho1, hb1⟩
  have HO := Lib.hid ho1
  have HB := Lib.hid hb1
  clear ho1 hb1
  go_wp2_with fail
  go_ret
  exact ⟨g1, c1, l, rfl, hc1, hl, HO.out, HB.out⟩
set_option maxHeartbeats 2000000 in
theorem drawFewestCabins_c (A : Option Addr) (n cap : Nat) (w : World) (hk : Codes w A n) : Calls Try.prog 5 #[.slice A n cap] w (CabArgs (-1) 201 w) := by
  have HK := Lib.hid hk
  clear hk
  go_enter Try.func5, Try.ntmps5
  go_wp2_with fail
  refine (cabins_c w.heap.size 0 _ HK.out.cur (by omega)).mono ?_
  rintro e w1 ⟨g1, c1, l, rfl, hc1, hl, ho1, hcw1, hgw1⟩
  have HO := Lib.hid ho1
  have HCw1 := Lib.hid hcw1
  have HGw1 := Lib.hid hgw1
  have hz1 : w.heap.size < w1.heap.size := by have := hgw1.size; simp at this; omega
  clear ho1 hcw1 hgw1
  go_wp2_with fail
  refine (pick_c 24 _ _ _ (HCw1.out.alloc _) (by omega) (by omega) (by omega)).mono ?_
  rintro e w2 ⟨v, rfl, v1, v2, hcw2, hgw2⟩
  have HCw2 := Lib.hid hcw2
  have HGw2 := Lib.hid hgw2
  clear hcw2 hgw2
  have HBL := Lib.hid (show w2.heap[w1.heap.size]? = some (.cells (([0, 1, 8, 9, 30, 200, -1, 201] : List Int).map (Value.int .i64)).toArray 3) from (HGw2.out.block _ (by simp) (by simp; omega)).trans (heap_alloc_new _ _))
  obtain ⟨j, hj⟩ : ∃ j : Nat, v / 11 = j := ⟨(v / 11).toNat, by omega⟩
  have hj2 : j ≤ 2 := by omega
  have a1 : IntKind.i64.wrap (v / 11) = j := by rw [hj]; exact IntWalk.i64_in _ (by omega)
  have a2 : IntKind.i64.wrap (6 + (j : Int)) = 6 + (j : Int) := IntWalk.i64_in _ (by omega)
  have a3 : ((6 : Int) + (j : Int)).toNat = 6 + j := by omega
  have a4 : (0 : Int) ≤ (6 : Int) + (j : Int) := by omega
  have a5 : (6 : Int) + (j : Int) ≤ 6 + 2 := by omega
  go_wp2_with fail
  refine (among_s [0, 1, 8, 9, 30, 200, -1, 201] (6 + j) (-1) 201 _ _ w1.heap.size _ _ HCw2.out (by omega) (by omega) HBL.out (by omega) (by simp; omega) (by decide) (by decide)).mono ?_
  rintro e w3 ⟨s, rfl, s1, s2, hcw3, hgw3⟩
  have HCw3 := Lib.hid hcw3
  have HGw3 := Lib.hid hgw3
  clear hcw3 hgw3
  have HG := Lib.hid (but_trans (but_trans HGw1.out (but_below (World.grownBy.refl _ _) ((Below.refl _ _).alloc (Nat.le_refl _) (.cells (([0, 1, 8, 9, 30, 200, -1, 201] : List Int).map (Value.int .i64)).toArray 3)))) (but_trans HGw2.out HGw3.out))
  have HOn := Lib.hid (((HO.out.carry ((Below.refl _ _).alloc (Nat.le_refl _) (.cells (([0, 1, 8, 9, 30, 200, -1, 201] : List Int).map (Value.int .i64)).toArray 3))).grown HGw2.out (by simp)).grown HGw3.out (by simp))
  go_wp2_with fail
  exact bodyPost_ret (v := .tuple #[.slice (some ⟨g1, 0, none⟩) l.length c1, .int .i64 s]) (by simp [results, Try.results5, go_sem]) rfl ⟨g1, c1, l, s, rfl, hc1, hl, ⟨s1, s2⟩, HOn.out.less (by simp), draw_end HG.out⟩
set_option maxHeartbeats 2000000 in
theorem drawNextOut_c (A : Option Addr) (n cap : Nat) (w : World) (hk : Codes w A n) : Calls Try.prog 10 #[.slice A n cap] w (CabArgs (0) 17 w) := by
  have HK := Lib.hid hk
  clear hk
  go_enter Try.func10, Try.ntmps10
  go_wp2_with fail
  refine (cabins_c w.heap.size 0 _ HK.out.cur (by omega)).mono ?_
  rintro e w1 ⟨g1, c1, l, rfl, hc1, hl, ho1, hcw1, hgw1⟩
  have HO := Lib.hid ho1
  have HCw1 := Lib.hid hcw1
  have HGw1 := Lib.hid hgw1
  have hz1 : w.heap.size < w1.heap.size := by have := hgw1.size; simp at this; omega
  clear ho1 hcw1 hgw1
  go_wp2_with fail
  refine (pick_c 24 _ _ _ (HCw1.out.alloc _) (by omega) (by omega) (by omega)).mono ?_
  rintro e w2 ⟨v, rfl, v1, v2, hcw2, hgw2⟩
  have HCw2 := Lib.hid hcw2
  have HGw2 := Lib.hid hgw2
  clear hcw2 hgw2
  have HBL := Lib.hid (show w2.heap[w1.heap.size]? = some (.cells (([1, 4, 8, 16, 0, 17] : List Int).map (Value.int .i64)).toArray 3) from (HGw2.out.block _ (by simp) (by simp; omega)).trans (heap_alloc_new _ _))
  obtain ⟨j, hj⟩ : ∃ j : Nat, v / 11 = j := ⟨(v / 11).toNat, by omega⟩
  have hj2 : j ≤ 2 := by omega
  have a1 : IntKind.i64.wrap (v / 11) = j := by rw [hj]; exact IntWalk.i64_in _ (by omega)
  have a2 : IntKind.i64.wrap (4 + (j : Int)) = 4 + (j : Int) := IntWalk.i64_in _ (by omega)
  have a3 : ((4 : Int) + (j : Int)).toNat = 4 + j := by omega
  have a4 : (0 : Int) ≤ (4 : Int) + (j : Int) := by omega
  have a5 : (4 : Int) + (j : Int) ≤ 4 + 2 := by omega
  go_wp2_with fail
  refine (among_s [1, 4, 8, 16, 0, 17] (4 + j) (0) 17 _ _ w1.heap.size _ _ HCw2.out (by omega) (by omega) HBL.out (by omega) (by simp; omega) (by decide) (by decide)).mono ?_
  rintro e w3 ⟨s, rfl, s1, s2, hcw3, hgw3⟩
  have HCw3 := Lib.hid hcw3
  have HGw3 := Lib.hid hgw3
  clear hcw3 hgw3
  have HG := Lib.hid (but_trans (but_trans HGw1.out (but_below (World.grownBy.refl _ _) ((Below.refl _ _).alloc (Nat.le_refl _) (.cells (([1, 4, 8, 16, 0, 17] : List Int).map (Value.int .i64)).toArray 3)))) (but_trans HGw2.out HGw3.out))
  have HOn := Lib.hid (((HO.out.carry ((Below.refl _ _).alloc (Nat.le_refl _) (.cells (([1, 4, 8, 16, 0, 17] : List Int).map (Value.int .i64)).toArray 3))).grown HGw2.out (by simp)).grown HGw3.out (by simp))
  go_wp2_with fail
  exact bodyPost_ret (v := .tuple #[.slice (some ⟨g1, 0, none⟩) l.length c1, .int .i64 s]) (by simp [results, Try.results10, go_sem]) rfl ⟨g1, c1, l, s, rfl, hc1, hl, ⟨s1, s2⟩, HOn.out.less (by simp), draw_end HG.out⟩
set_option maxHeartbeats 2000000 in
theorem drawWornCabins_c (A : Option Addr) (n cap : Nat) (w : World) (hk : Codes w A n) : Calls Try.prog 16 #[.slice A n cap] w (CabArgs (0) 100000 w) := by
  have HK := Lib.hid hk
  clear hk
  go_enter Try.func16, Try.ntmps16
  go_wp2_with fail
  refine (cabins_c w.heap.size 0 _ HK.out.cur (by omega)).mono ?_
  rintro e w1 ⟨g1, c1, l, rfl, hc1, hl, ho1, hcw1, hgw1⟩
  have HO := Lib.hid ho1
  have HCw1 := Lib.hid hcw1
  have HGw1 := Lib.hid hgw1
  have hz1 : w.heap.size < w1.heap.size := by have := hgw1.size; simp at this; omega
  clear ho1 hcw1 hgw1
  go_wp2_with fail
  refine (pick_c 24 _ _ _ (HCw1.out.alloc _) (by omega) (by omega) (by omega)).mono ?_
  rintro e w2 ⟨v, rfl, v1, v2, hcw2, hgw2⟩
  have HCw2 := Lib.hid hcw2
  have HGw2 := Lib.hid hgw2
  clear hcw2 hgw2
  have HBL := Lib.hid (show w2.heap[w1.heap.size]? = some (.cells (([1, 5, 6, 900, 99999, 0, 100000] : List Int).map (Value.int .i64)).toArray 3) from (HGw2.out.block _ (by simp) (by simp; omega)).trans (heap_alloc_new _ _))
  obtain ⟨j, hj⟩ : ∃ j : Nat, v / 11 = j := ⟨(v / 11).toNat, by omega⟩
  have hj2 : j ≤ 2 := by omega
  have a1 : IntKind.i64.wrap (v / 11) = j := by rw [hj]; exact IntWalk.i64_in _ (by omega)
  have a2 : IntKind.i64.wrap (5 + (j : Int)) = 5 + (j : Int) := IntWalk.i64_in _ (by omega)
  have a3 : ((5 : Int) + (j : Int)).toNat = 5 + j := by omega
  have a4 : (0 : Int) ≤ (5 : Int) + (j : Int) := by omega
  have a5 : (5 : Int) + (j : Int) ≤ 5 + 2 := by omega
  go_wp2_with fail
  refine (among_s [1, 5, 6, 900, 99999, 0, 100000] (5 + j) (0) 100000 _ _ w1.heap.size _ _ HCw2.out (by omega) (by omega) HBL.out (by omega) (by simp; omega) (by decide) (by decide)).mono ?_
  rintro e w3 ⟨s, rfl, s1, s2, hcw3, hgw3⟩
  have HCw3 := Lib.hid hcw3
  have HGw3 := Lib.hid hgw3
  clear hcw3 hgw3
  have HG := Lib.hid (but_trans (but_trans HGw1.out (but_below (World.grownBy.refl _ _) ((Below.refl _ _).alloc (Nat.le_refl _) (.cells (([1, 5, 6, 900, 99999, 0, 100000] : List Int).map (Value.int .i64)).toArray 3)))) (but_trans HGw2.out HGw3.out))
  have HOn := Lib.hid (((HO.out.carry ((Below.refl _ _).alloc (Nat.le_refl _) (.cells (([1, 5, 6, 900, 99999, 0, 100000] : List Int).map (Value.int .i64)).toArray 3))).grown HGw2.out (by simp)).grown HGw3.out (by simp))
  go_wp2_with fail
  exact bodyPost_ret (v := .tuple #[.slice (some ⟨g1, 0, none⟩) l.length c1, .int .i64 s]) (by simp [results, Try.results16, go_sem]) rfl ⟨g1, c1, l, s, rfl, hc1, hl, ⟨s1, s2⟩, HOn.out.less (by simp), draw_end HG.out⟩
theorem res_load {ts : Array Value} {W : World} {b : Nat} {x : Cbn} {s : Int} (h : ts[2]?.getD undef = .pointer (some ⟨b, 0, none⟩)) (h3 : ts[3]?.getD undef = .int .i64 s) (hB : Box W b 33 5 (Cbn.cells x)) :
    (results Try.f19 ts).run Try.prog W = .ok (.tuple #[.agg #[.int .i64 x.n, .int .i64 x.s, .int .i64 x.e, .int .i64 x.t, .int .i64 x.r], .int .i64 s]) W := by
  have c0 := hB.cell (j := 0) rfl
  have c1 := hB.cell (j := 1) rfl
  have c2 := hB.cell (j := 2) rfl
  have c3 := hB.cell (j := 3) rfl
  have c4 := hB.cell (j := 4) rfl
  simp [results, Try.results19, go_sem, h, h3, c0, c1, c2, c3, c4]
set_option maxRecDepth 100000 in
set_option maxHeartbeats 8000000 in
theorem drawCabinLoad_c (A : Option Addr) (n cap : Nat) (w : World) (hk : Codes w A n) : Calls Try.prog 19 #[.slice A n cap] w (LoadArgs w) := by
  have HK := Lib.hid (hk.carry ((Below.refl _ _).alloc (Nat.le_refl _) (.cells #[.int .i64 0, .int .i64 0, .int .i64 0, .int .i64 0, .int .i64 0] 33)))
  have HX := Lib.hid (Box.new w [.int .i64 0, .int .i64 0, .int .i64 0, .int .i64 0, .int .i64 0] 33)
  clear hk
  have HC := Lib.hid (by have h := HK.out.cur (cap := cap); rw [World.size_alloc] at h; exact h : Cur ((w.alloc (.cells #[.int .i64 0, .int .i64 0, .int .i64 0, .int .i64 0, .int .i64 0] 33)).alloc (.cells #[.slice A n cap, .int .i64 0, .int .u64 0] 47)) (w.heap.size + 1) 0)
  go_enter Try.func19, Try.ntmps19
  go_wp2_with fail
  refine (cabin_c 5 (w.heap.size + 1) 0 _ HC.out (by omega)).mono ?_
  rintro e w1 ⟨x, rfl, ⟨hs0, hs1⟩, hcw1, hgw1⟩
  have HX1 := Lib.hid ((HX.out.alloc (.cells #[.slice A n cap, .int .i64 0, .int .u64 0] 47)).grown hgw1 (by omega))
  have HB1 := Lib.hid (show Below w.heap.size w w1 from (((Below.refl _ _).alloc (Nat.le_refl _) _).alloc (by simp) _).trans (grown_below hgw1 (by omega) (by simp; omega)))
  have HCw1 := Lib.hid hcw1
  have lx := HX1.out.lt
  have lc := hcw1.lt
  clear hcw1 hgw1 HX HC HK
  obtain ⟨wb, hwb⟩ : ∃ wb, w1.alloc (.cells #[.int .i64 x.n, .int .i64 x.s, .int .i64 x.e, .int .i64 x.t, .int .i64 x.r] 33) = wb := ⟨_, rfl⟩
  have HBx := Lib.hid (hwb ▸ Box.new w1 (Cbn.cells x) 33 : Box wb w1.heap.size 33 5 (Cbn.cells x))
  have HBz := Lib.hid (show Box wb w.heap.size 33 5 [.int .i64 0, .int .i64 0, .int .i64 0, .int .i64 0, .int .i64 0] by rw [← hwb]; exact HX1.out.alloc _)
  have HCb := Lib.hid (show Cur wb (w.heap.size + 1) 12 by rw [← hwb]; exact HCw1.out.alloc _)
  have HBb := Lib.hid (show Below w.heap.size w wb by rw [← hwb]; exact HB1.out.alloc (by omega) _)
  have lb := HBx.out.lt
  have bz := HBb.out.size
  have x0 := HBx.out.cell (j := 0) rfl
  have x1 := HBx.out.cell (j := 1) rfl
  have x2 := HBx.out.cell (j := 2) rfl
  have x3 := HBx.out.cell (j := 3) rfl
  have x4 := HBx.out.cell (j := 4) rfl
  have zf := HBz.out.frozen
  have z0 := HBz.out.cell (j := 0) rfl
  have z1 := HBz.out.cell (j := 1) rfl
  have z2 := HBz.out.cell (j := 2) rfl
  have z3 := HBz.out.cell (j := 3) rfl
  have z4 := HBz.out.cell (j := 4) rfl
  go_wp2_with fail
  try rw [hwb]
  clear hwb
  have a1 : IntKind.i64.wrap (x.s + 1) = x.s + 1 := IntWalk.i64_in _ (by omega)
  go_region_law (first
    | (go_simp; go_at_call 26; refine (among_d [0, 1, 4, x.s, x.s + 1, -1] (-1) 18 (w.heap.size + 1) 12 _ _ _ _ HCb.out (by omega) (by first | rfl | (simp; done)) rfl rfl (by simp) (by simp) (fun i hi => by
        have : i = 0 ∨ i = 1 ∨ i = 2 ∨ i = 3 ∨ i = 4 ∨ i = 5 := by simp at hi; omega
        rcases this with rfl | rfl | rfl | rfl | rfl | rfl <;> simp [nth] <;> omega)).mono ?_; rintro e w6 ⟨v, rfl, v1, v2, hc6, hg6⟩; have hbx := HBx.out.grown hg6 (by omega); have y0 := hbx.cell (j := 0) rfl; have y1 := hbx.cell (j := 1) rfl; have y2 := hbx.cell (j := 2) rfl; have y3 := hbx.cell (j := 3) rfl; have y4 := hbx.cell (j := 4) rfl; have hbz := HBz.out.grown hg6 (by omega); have u0 := hbz.cell (j := 0) rfl; have u1 := hbz.cell (j := 1) rfl; have u2 := hbz.cell (j := 2) rfl; have u3 := hbz.cell (j := 3) rfl; have u4 := hbz.cell (j := 4) rfl; have uf := hbz.frozen))
  all_goals
    have HB6 := Lib.hid (HBb.out.trans (grown_below hg6 (by omega) bz))
    have HZ6 := Lib.hid hbz
    clear hbx hbz hc6 hg6 x0 x1 x2 x3 x4 z0 z1 z2 z3 z4 zf
    go_wp2_with fail
    exact bodyPost_ret (v := .tuple #[.agg #[.int .i64 x.n, .int .i64 x.s, .int .i64 x.e, .int .i64 x.t, .int .i64 x.r], .int .i64 v]) (res_load rfl rfl (HZ6.out.puts (us := Cbn.cells x) rfl)) rfl ⟨x, v, rfl, puts_below (g := w.heap.size) (Nat.le_refl _) (Cbn.cells x) _ 0 HB6.out⟩
end Go.Proofs.Ytcmbbhdoienkoaa
