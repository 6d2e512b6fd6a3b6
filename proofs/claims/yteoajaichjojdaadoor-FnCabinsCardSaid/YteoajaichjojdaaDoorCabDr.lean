/- What the reference draws for the statement on cabins' texts and moves; no conditions. -/
import Derived.Test.YteoajaichjojdaaDoorCbnDraw
import Derived.Test.YteoajaichjojdaaDoorCabT
import Derived.Test.YteoajaichjojdaaDoorSpoilt
namespace Go.Proofs.YteoajaichjojdaaDoor
open Go.RowKit

def CabOne (w : World) (e : Ending) (w' : World) : Prop := ∃ x : Cbn, e = .returned (.agg #[.int .i64 x.n, .int .i64 x.s, .int .i64 x.e, .int .i64 x.t, .int .i64 x.r]) ∧ Below w.heap.size w w'
theorem res_isc {ts : Array Value} {W : World} {b : Nat} {x : Cbn} (h : ts[2]?.getD undef = .pointer (some ⟨b, 0, none⟩)) (hB : Box W b 25 5 (Cbn.cells x)) :
    (results Tryd.f20 ts).run Tryd.prog W = .ok (.agg #[.int .i64 x.n, .int .i64 x.s, .int .i64 x.e, .int .i64 x.t, .int .i64 x.r]) W := by
  have c0 := hB.cell (j := 0) rfl
  have c1 := hB.cell (j := 1) rfl
  have c2 := hB.cell (j := 2) rfl
  have c3 := hB.cell (j := 3) rfl
  have c4 := hB.cell (j := 4) rfl
  simp [results, Tryd.results20, go_sem, h, c0, c1, c2, c3, c4]
theorem res_txt {ts : Array Value} {W : World} {b : Nat} {x : Cbn} (h : ts[2]?.getD undef = .pointer (some ⟨b, 0, none⟩)) (hB : Box W b 25 5 (Cbn.cells x)) :
    (results Tryd.f5 ts).run Tryd.prog W = .ok (.agg #[.int .i64 x.n, .int .i64 x.s, .int .i64 x.e, .int .i64 x.t, .int .i64 x.r]) W := by
  have c0 := hB.cell (j := 0) rfl
  have c1 := hB.cell (j := 1) rfl
  have c2 := hB.cell (j := 2) rfl
  have c3 := hB.cell (j := 3) rfl
  have c4 := hB.cell (j := 4) rfl
  simp [results, Tryd.results5, go_sem, h, c0, c1, c2, c3, c4]
set_option maxRecDepth 100000 in
theorem drawIsCabin_c (A : Option Addr) (n cap : Nat) (w : World) (hk : Codes w A n) : Calls Tryd.prog 20 #[.slice A n cap] w (CabOne w) := by
  have HK := Lib.hid (hk.carry ((Below.refl _ _).alloc (Nat.le_refl _) (.cells #[.int .i64 0, .int .i64 0, .int .i64 0, .int .i64 0, .int .i64 0] 25)))
  have HX := Lib.hid (Box.new w [.int .i64 0, .int .i64 0, .int .i64 0, .int .i64 0, .int .i64 0] 25)
  clear hk
  have HC := Lib.hid (by have h := HK.out.cur (cap := cap); rw [World.size_alloc] at h; exact h : Cur ((w.alloc (.cells #[.int .i64 0, .int .i64 0, .int .i64 0, .int .i64 0, .int .i64 0] 25)).alloc (.cells #[.slice A n cap, .int .i64 0, .int .u64 0] 59)) (w.heap.size + 1) 0)
  go_enter Tryd.func20, Tryd.ntmps20
  go_wp2_with fail
  refine (among_n [1, 42, 99] 1 99 _ _ _ _ _ _ HC.out (by omega) (by simp) rfl rfl (by decide) (by decide) (by decide)).mono ?_
  rintro e w1 ⟨v, rfl, v1, v2, hcw1, hgw1⟩
  have HCw1 := Lib.hid hcw1
  have HGw1 := Lib.hid hgw1
  clear hcw1 hgw1
  go_wp2_with fail
  refine (cabin_c v _ _ _ HCw1.out (by omega)).mono ?_
  rintro e w2 ⟨x, rfl, _, hc, hg⟩
  have HGW := Lib.hid (but_trans HGw1.out hg)
  have HZ := Lib.hid ((HX.out.alloc (.cells #[.slice A n cap, .int .i64 0, .int .u64 0] 59)).grown HGW.out (by omega))
  have HB := Lib.hid (show Below w.heap.size w w2 from (((Below.refl _ _).alloc (Nat.le_refl _) _).alloc (by simp) _).trans (grown_below HGW.out (by omega) (by simp; omega)))
  clear hc hg HGw1 HCw1 HC HX HK
  have z0 := HZ.out.cell (j := 0) rfl
  have z1 := HZ.out.cell (j := 1) rfl
  have z2 := HZ.out.cell (j := 2) rfl
  have z3 := HZ.out.cell (j := 3) rfl
  have z4 := HZ.out.cell (j := 4) rfl
  have zf := HZ.out.frozen
  have zl := HZ.out.lt
  go_wp2_with fail
  exact bodyPost_ret (v := .agg #[.int .i64 x.n, .int .i64 x.s, .int .i64 x.e, .int .i64 x.t, .int .i64 x.r]) (res_isc rfl (HZ.out.puts (us := Cbn.cells x) rfl)) rfl ⟨x, rfl, puts_below (g := w.heap.size) (Nat.le_refl _) (Cbn.cells x) _ 0 HB.out⟩
theorem drawCabinText_c (A : Option Addr) (n cap : Nat) (w : World) (hk : Codes w A n) : Calls Tryd.prog 5 #[.slice A n cap] w (CabOne w) := by
  have HK := Lib.hid (hk.carry ((Below.refl _ _).alloc (Nat.le_refl _) (.cells #[.int .i64 0, .int .i64 0, .int .i64 0, .int .i64 0, .int .i64 0] 25)))
  have HX := Lib.hid (Box.new w [.int .i64 0, .int .i64 0, .int .i64 0, .int .i64 0, .int .i64 0] 25)
  clear hk
  go_enter Tryd.func5, Tryd.ntmps5
  go_wp2_with fail
  refine (drawIsCabin_c _ _ _ _ HK.out).mono ?_
  rintro e w1 ⟨x, rfl, hb⟩
  have HZ := Lib.hid (HX.out.carry hb)
  have HB := Lib.hid (show Below w.heap.size w w1 from ((Below.refl w.heap.size w).alloc (Nat.le_refl _) _).trans (hb.mono (by simp)))
  clear hb HX HK
  have z0 := HZ.out.cell (j := 0) rfl
  have z1 := HZ.out.cell (j := 1) rfl
  have z2 := HZ.out.cell (j := 2) rfl
  have z3 := HZ.out.cell (j := 3) rfl
  have z4 := HZ.out.cell (j := 4) rfl
  have zf := HZ.out.frozen
  have zl := HZ.out.lt
  go_wp2_with fail
  exact bodyPost_ret (v := .agg #[.int .i64 x.n, .int .i64 x.s, .int .i64 x.e, .int .i64 x.t, .int .i64 x.r]) (res_txt rfl (HZ.out.puts (us := Cbn.cells x) rfl)) rfl ⟨x, rfl, puts_below (g := w.heap.size) (Nat.le_refl _) (Cbn.cells x) _ 0 HB.out⟩
def TextD (m : Nat) (w : World) (e : Ending) (w' : World) : Prop := ∃ v : ByteArray, e = .returned (.string v) ∧ v.size ≤ m ∧ Below w.heap.size w w'
theorem cabP_size (x : Cbn) : (cabP x).1.size ≤ 150 := by
  unfold cabP
  split
  · next h =>
    obtain ⟨h1, h2, h3, h4, h5⟩ := okC_true.1 h
    have l1 := num_len (n := x.n) (by omega) (by omega)
    have l2 := num_len (n := x.s) (by omega) (by omega)
    have l3 := num_len (n := x.e) (by omega) (by omega)
    have l4 := num_len (n := x.r) (by omega) (by omega)
    have l5 := stN_len x.t
    show (S (cabL x)).size ≤ 150
    rw [S_size]
    unfold cabL
    simp only [List.length_append, List.length_cons, List.length_nil]
    omega
  · decide
theorem drawParseCabin_c (A : Option Addr) (n cap : Nat) (w : World) (hk : Codes w A n) : Calls Tryd.prog 10 #[.slice A n cap] w (TextD 200 w) := by
  have HC := Lib.hid (hk.cur (cap := cap))
  clear hk
  go_enter Tryd.func10, Tryd.ntmps10
  go_wp2_with fail
  refine (among_n [1, 42, 99] 1 99 _ _ _ _ _ _ HC.out (by omega) (by simp) rfl rfl (by decide) (by decide) (by decide)).mono ?_
  rintro e w1 ⟨v, rfl, v1, v2, hcw1, hgw1⟩
  have HCw1 := Lib.hid hcw1
  have HGw1 := Lib.hid hgw1
  clear hcw1 hgw1
  go_wp2_with fail
  refine (cabin_c v _ _ _ HCw1.out (by omega)).mono ?_
  rintro e w2 ⟨x, rfl, _, hc, hg⟩
  have HC2 := Lib.hid hc
  have HG2 := Lib.hid (but_trans HGw1.out hg)
  have HP := Lib.hid (cabP_size x)
  clear hc hg
  go_wp2_with fail
  have hct := specCabinText_c x w2
  obtain ⟨⟨s, b⟩, hs⟩ : ∃ p, cabP x = p := ⟨_, rfl⟩
  rw [hs] at hct HP
  refine hct.mono ?_
  rintro e w3 ⟨rfl, hb3⟩
  have hsz : s.size ≤ 150 := HP.out
  have HC3 := Lib.hid (HC2.out.carry hb3)
  have HG3 := Lib.hid (but_below HG2.out (hb3.mono (by have := HG2.out.size; simpa using this)))
  clear hb3 hs
  go_wp2_with fail
  refine (one_c 4 _ _ _ HC3.out (by omega) (by omega) (by omega)).mono ?_
  rintro e w4 ⟨o, rfl, hcw4, hgw4⟩
  have HCw4 := Lib.hid hcw4
  have HGw4 := Lib.hid hgw4
  clear hcw4 hgw4
  rcases o with _ | _
  · have HB := Lib.hid (draw_end (but_trans HG3.out HGw4.out))
    go_wp2_with fail
    go_ret
    exact ⟨s, rfl, by omega, HB.out⟩
  · go_wp2_with fail
    refine (spoilt_c s _ _ _ _ HCw4.out (by omega) (by omega) (by decide) (by decide)).mono ?_
    rintro e w5 ⟨t, rfl, ht, hc5, hg5⟩
    have HB := Lib.hid (draw_end (but_trans (but_trans HG3.out HGw4.out) hg5))
    clear hc5 hg5
    go_wp2_with fail
    go_ret
    exact ⟨t, rfl, by omega, HB.out⟩
def MoveArgs (w : World) (e : Ending) (w' : World) : Prop := ∃ (g c : Nat) (l : List Cbn) (x s : Int), e = .returned (.tuple #[.slice (some ⟨g, 0, none⟩) l.length c, .int .i64 x, .int .i64 s]) ∧ l.length ≤ c ∧ l.length ≤ 14 ∧ Own w' w.heap.size 25 5 Cbn.cells (some ⟨g, 0, none⟩) l ∧ Below w.heap.size w w'
set_option maxHeartbeats 4000000 in
theorem drawMoveCabin_c (A : Option Addr) (n cap : Nat) (w : World) (hk : Codes w A n) : Calls Tryd.prog 12 #[.slice A n cap] w (MoveArgs w) := by
  have HK := Lib.hid hk
  clear hk
  go_enter Tryd.func12, Tryd.ntmps12
  go_wp2_with fail
  refine (cabins_c w.heap.size 0 _ HK.out.cur (by omega)).mono ?_
  rintro e w1 ⟨g1, c1, l, rfl, hc1, hl, ho1, hcw1, hgw1⟩
  have HO := Lib.hid ho1
  have HCw1 := Lib.hid hcw1
  have HGw1 := Lib.hid hgw1
  have hz1 : w.heap.size < w1.heap.size := by have := hgw1.size; simp at this; omega
  clear ho1 hcw1 hgw1
  go_wp2_with fail
  refine (among_c [0, 1, 50] 0 50 _ _ _ _ _ HCw1.out (by omega) rfl rfl (by decide) (by decide) (by decide)).mono ?_
  rintro e w2 ⟨x, rfl, x1, x2, hcw2, hgw2⟩
  have HCw2 := Lib.hid hcw2
  have HGw2 := Lib.hid hgw2
  clear hcw2 hgw2
  have HG2 := Lib.hid (but_trans HGw1.out HGw2.out)
  have HO2 := Lib.hid (HO.out.grown HGw2.out (by simp))
  clear HGw1 HGw2 HO
  by_cases h0 : l.length = 0
  · obtain rfl : l = [] := List.eq_nil_of_length_eq_zero h0
    have HCa := HCw2
    have HGa := HG2
    have HOa := HO2
    clear h0
    go_wp2_with fail
    have hza : w.heap.size < w2.heap.size := by have := HGa.out.size; simp at this; omega
    go_wp2_with fail
    refine (pick_c 24 _ _ _ (HCa.out.alloc _) (by omega) (by omega) (by omega)).mono ?_
    rintro e w7 ⟨v, rfl, v1, v2, hcw7, hgw7⟩
    have HCw7 := Lib.hid hcw7
    have HGw7 := Lib.hid hgw7
    clear hcw7 hgw7
    have HBL := Lib.hid (show w7.heap[w2.heap.size]? = some (.cells (([0, 1, 2, 3, -1, 4] : List Int).map (Value.int .i64)).toArray 3) from (HGw7.out.block _ (by simp) (by simp; omega)).trans (heap_alloc_new _ _))
    obtain ⟨j, hj⟩ : ∃ j : Nat, v / 11 = j := ⟨(v / 11).toNat, by omega⟩
    have hj2 : j ≤ 2 := by omega
    have a1 : IntKind.i64.wrap (v / 11) = j := by rw [hj]; exact IntWalk.i64_in _ (by omega)
    have a2 : IntKind.i64.wrap (4 + (j : Int)) = 4 + (j : Int) := IntWalk.i64_in _ (by omega)
    have a3 : ((4 : Int) + (j : Int)).toNat = 4 + j := by omega
    have a4 : (0 : Int) ≤ (4 : Int) + (j : Int) := by omega
    have a5 : (4 : Int) + (j : Int) ≤ 4 + 2 := by omega
    go_wp2_with fail
    refine (among_s [0, 1, 2, 3, -1, 4] (4 + j) (-1) 4 _ _ w2.heap.size _ _ HCw7.out (by omega) (by omega) HBL.out (by omega) (by simp; omega) (by decide) (by decide)).mono ?_
    rintro e w8 ⟨s, rfl, s1, s2, hcw8, hgw8⟩
    have HCw8 := Lib.hid hcw8
    have HGw8 := Lib.hid hgw8
    clear hcw8 hgw8
    have HG := Lib.hid (but_trans (but_trans HGa.out (but_below (World.grownBy.refl _ _) ((Below.refl _ _).alloc (Nat.le_refl _) (.cells (([0, 1, 2, 3, -1, 4] : List Int).map (Value.int .i64)).toArray 3)))) (but_trans HGw7.out HGw8.out))
    have HOn := Lib.hid (((HOa.out.carry ((Below.refl _ _).alloc (Nat.le_refl _) (.cells (([0, 1, 2, 3, -1, 4] : List Int).map (Value.int .i64)).toArray 3))).grown HGw7.out (by simp)).grown HGw8.out (by simp))
    go_wp2_with fail
    exact bodyPost_ret (v := .tuple #[.slice (some ⟨g1, 0, none⟩) (([] : List Cbn)).length c1, .int .i64 x, .int .i64 s]) (by simp [results, Tryd.results12, go_sem]) rfl ⟨g1, c1, ([] : List Cbn), x, s, rfl, hc1, hl, HOn.out.less (by simp), draw_end HG.out⟩
  have n0 : (0 : Int) < l.length := by omega
  go_wp2_with fail
  refine (one_c 8 _ _ _ HCw2.out (by omega) (by omega) (by omega)).mono ?_
  rintro e w3 ⟨o, rfl, hcw3, hgw3⟩
  have HCw3 := Lib.hid hcw3
  have HGw3 := Lib.hid hgw3
  clear hcw3 hgw3
  have HG3 := Lib.hid (but_trans HG2.out HGw3.out)
  have HO3 := Lib.hid (HO2.out.grown HGw3.out (by simp))
  clear HG2 HGw3 HO2
  rcases o with _ | _
  · go_wp2_with fail
    refine (pick_c l.length _ _ _ HCw3.out (by omega) (by omega) (by omega)).mono ?_
    rintro e w4 ⟨v, rfl, v1, v2, hcw4, hgw4⟩
    have HCw4 := Lib.hid hcw4
    have HGw4 := Lib.hid hgw4
    clear hcw4 hgw4
    have HGa := Lib.hid (but_trans HG3.out HGw4.out)
    have HOa := Lib.hid (HO3.out.grown HGw4.out (by simp))
    have HCa := HCw4
    obtain ⟨k, rfl⟩ : ∃ k : Nat, v = (k : Int) := ⟨v.toNat, by omega⟩
    have hkl : k < l.length := by omega
    obtain ⟨b', off', he, hb', hc0, hc1', hc2, hc3, hc4⟩ := Cbn.rd (HOa.out.rd fun _ => rfl) hkl
    simp only [Option.some.injEq, Addr.mk.injEq, and_true] at he
    obtain ⟨rfl, rfl⟩ := he
    rw [Nat.zero_add] at hc0 hc1' hc2 hc3 hc4
    obtain ⟨y, hy⟩ : ∃ y, (nth l k).n = y := ⟨_, rfl⟩
    rw [hy] at hc0
    clear hy HG3 HO3 HGw4 HCw3 HCw2 HCw1
    have hza : w.heap.size < w4.heap.size := by have := HGa.out.size; simp at this; omega
    go_wp2_with fail
    refine (pick_c 24 _ _ _ (HCa.out.alloc _) (by omega) (by omega) (by omega)).mono ?_
    rintro e w7 ⟨v, rfl, v1, v2, hcw7, hgw7⟩
    have HCw7 := Lib.hid hcw7
    have HGw7 := Lib.hid hgw7
    clear hcw7 hgw7
    have HBL := Lib.hid (show w7.heap[w4.heap.size]? = some (.cells (([0, 1, 2, 3, -1, 4] : List Int).map (Value.int .i64)).toArray 3) from (HGw7.out.block _ (by simp) (by simp; omega)).trans (heap_alloc_new _ _))
    obtain ⟨j, hj⟩ : ∃ j : Nat, v / 11 = j := ⟨(v / 11).toNat, by omega⟩
    have hj2 : j ≤ 2 := by omega
    have a1 : IntKind.i64.wrap (v / 11) = j := by rw [hj]; exact IntWalk.i64_in _ (by omega)
    have a2 : IntKind.i64.wrap (4 + (j : Int)) = 4 + (j : Int) := IntWalk.i64_in _ (by omega)
    have a3 : ((4 : Int) + (j : Int)).toNat = 4 + j := by omega
    have a4 : (0 : Int) ≤ (4 : Int) + (j : Int) := by omega
    have a5 : (4 : Int) + (j : Int) ≤ 4 + 2 := by omega
    go_wp2_with fail
    refine (among_s [0, 1, 2, 3, -1, 4] (4 + j) (-1) 4 _ _ w4.heap.size _ _ HCw7.out (by omega) (by omega) HBL.out (by omega) (by simp; omega) (by decide) (by decide)).mono ?_
    rintro e w8 ⟨s, rfl, s1, s2, hcw8, hgw8⟩
    have HCw8 := Lib.hid hcw8
    have HGw8 := Lib.hid hgw8
    clear hcw8 hgw8
    have HG := Lib.hid (but_trans (but_trans HGa.out (but_below (World.grownBy.refl _ _) ((Below.refl _ _).alloc (Nat.le_refl _) (.cells (([0, 1, 2, 3, -1, 4] : List Int).map (Value.int .i64)).toArray 3)))) (but_trans HGw7.out HGw8.out))
    have HOn := Lib.hid (((HOa.out.carry ((Below.refl _ _).alloc (Nat.le_refl _) (.cells (([0, 1, 2, 3, -1, 4] : List Int).map (Value.int .i64)).toArray 3))).grown HGw7.out (by simp)).grown HGw8.out (by simp))
    go_wp2_with fail
    exact bodyPost_ret (v := .tuple #[.slice (some ⟨g1, 0, none⟩) (l).length c1, .int .i64 y, .int .i64 s]) (by simp [results, Tryd.results12, go_sem]) rfl ⟨g1, c1, l, y, s, rfl, hc1, hl, HOn.out.less (by simp), draw_end HG.out⟩
  · have HCa := HCw3
    have HGa := HG3
    have HOa := HO3
    have hza : w.heap.size < w3.heap.size := by have := HGa.out.size; simp at this; omega
    go_wp2_with fail
    refine (pick_c 24 _ _ _ (HCa.out.alloc _) (by omega) (by omega) (by omega)).mono ?_
    rintro e w7 ⟨v, rfl, v1, v2, hcw7, hgw7⟩
    have HCw7 := Lib.hid hcw7
    have HGw7 := Lib.hid hgw7
    clear hcw7 hgw7
    have HBL := Lib.hid (show w7.heap[w3.heap.size]? = some (.cells (([0, 1, 2, 3, -1, 4] : List Int).map (Value.int .i64)).toArray 3) from (HGw7.out.block _ (by simp) (by simp; omega)).trans (heap_alloc_new _ _))
    obtain ⟨j, hj⟩ : ∃ j : Nat, v / 11 = j := ⟨(v / 11).toNat, by omega⟩
    have hj2 : j ≤ 2 := by omega
    have a1 : IntKind.i64.wrap (v / 11) = j := by rw [hj]; exact IntWalk.i64_in _ (by omega)
    have a2 : IntKind.i64.wrap (4 + (j : Int)) = 4 + (j : Int) := IntWalk.i64_in _ (by omega)
    have a3 : ((4 : Int) + (j : Int)).toNat = 4 + j := by omega
    have a4 : (0 : Int) ≤ (4 : Int) + (j : Int) := by omega
    have a5 : (4 : Int) + (j : Int) ≤ 4 + 2 := by omega
    go_wp2_with fail
    refine (among_s [0, 1, 2, 3, -1, 4] (4 + j) (-1) 4 _ _ w3.heap.size _ _ HCw7.out (by omega) (by omega) HBL.out (by omega) (by simp; omega) (by decide) (by decide)).mono ?_
    rintro e w8 ⟨s, rfl, s1, s2, hcw8, hgw8⟩
    have HCw8 := Lib.hid hcw8
    have HGw8 := Lib.hid hgw8
    clear hcw8 hgw8
    have HG := Lib.hid (but_trans (but_trans HGa.out (but_below (World.grownBy.refl _ _) ((Below.refl _ _).alloc (Nat.le_refl _) (.cells (([0, 1, 2, 3, -1, 4] : List Int).map (Value.int .i64)).toArray 3)))) (but_trans HGw7.out HGw8.out))
    have HOn := Lib.hid (((HOa.out.carry ((Below.refl _ _).alloc (Nat.le_refl _) (.cells (([0, 1, 2, 3, -1, 4] : List Int).map (Value.int .i64)).toArray 3))).grown HGw7.out (by simp)).grown HGw8.out (by simp))
    go_wp2_with fail
    exact bodyPost_ret (v := .tuple #[.slice (some ⟨g1, 0, none⟩) (l).length c1, .int .i64 x, .int .i64 s]) (by simp [results, Tryd.results12, go_sem]) rfl ⟨g1, c1, l, x, s, rfl, hc1, hl, HOn.out.less (by simp), draw_end HG.out⟩
end Go.Proofs.YteoajaichjojdaaDoor
