/- What the reference draws of cabins: a cabin, a list of cabins of the call's own; only the cursor's own block turns; no conditions but that the cursor has not gone very far. -/
import Derived.Test.YteoajaichjojdaaDoorVee
import Derived.Test.YteoajaichjojdaaDoorCbnArr
namespace Go.Proofs.YteoajaichjojdaaDoor
open Go.RowKit

/-- What is drawn: a cabin. -/
def CabD (gc K : Nat) (w : World) (e : Ending) (w' : World) : Prop := ∃ x : Cbn, e = .returned (.agg #[.int .i64 x.n, .int .i64 x.s, .int .i64 x.e, .int .i64 x.t, .int .i64 x.r]) ∧ (0 ≤ x.s ∧ x.s ≤ 17) ∧ Cur w' gc K ∧ w.grownBy w' (some gc)
theorem res_cab {ts : Array Value} {W : World} {b : Nat} {x : Cbn} (h : ts[4]?.getD undef = .pointer (some ⟨b, 0, none⟩)) (hB : Box W b 25 5 (Cbn.cells x)) :
    (results Tryd.f31 ts).run Tryd.prog W = .ok (.agg #[.int .i64 x.n, .int .i64 x.s, .int .i64 x.e, .int .i64 x.t, .int .i64 x.r]) W := by
  have c0 := hB.cell (j := 0) rfl
  have c1 := hB.cell (j := 1) rfl
  have c2 := hB.cell (j := 2) rfl
  have c3 := hB.cell (j := 3) rfl
  have c4 := hB.cell (j := 4) rfl
  simp [results, Tryd.results31, go_sem, h, c0, c1, c2, c3, c4]
set_option maxRecDepth 100000 in
set_option maxHeartbeats 8000000 in
theorem cabin_c (num : Int) (gc K : Nat) (w : World) (h : Cur w gc K) (hK : K ≤ 1000000) : Calls Tryd.prog 31 #[.pointer (some ⟨gc, 0, none⟩), .int .i64 num] w (CabD gc (K + 12) w) := by
  have HC := Lib.hid h
  have hlt := h.lt
  have HLT := Lib.hid hlt
  clear h
  have HZ := Lib.hid (Box.new w [.int .i64 0, .int .i64 0, .int .i64 0, .int .i64 0, .int .i64 0] 25)
  have HC0 := Lib.hid (HC.out.alloc (.cells #[.int .i64 0, .int .i64 0, .int .i64 0, .int .i64 0, .int .i64 0] 25))
  have HB0 := Lib.hid (but_alloc (a := w) (g := gc) (.cells #[.int .i64 0, .int .i64 0, .int .i64 0, .int .i64 0, .int .i64 0] 25))
  go_enter Tryd.func31, Tryd.ntmps31
  go_wp2_with fail
  refine (among_n [1, 4, 8, 8, 16] 1 16 gc _ _ _ _ _ HC0.out (by omega) (by simp) rfl rfl (by decide) (by decide) (by decide)).mono ?_
  rintro e w1 ⟨s, rfl, s1, s2, hcw1, hgw1⟩
  have HCw1 := Lib.hid hcw1
  have HGw1 := Lib.hid hgw1
  clear hcw1 hgw1
  go_wp2_with fail
  refine (among_c [100, 450, 2000] 100 2000 gc _ _ _ _ HCw1.out (by omega) rfl rfl (by decide) (by decide) (by decide)).mono ?_
  rintro e w2 ⟨q, rfl, q1, q2, hcw2, hgw2⟩
  have HCw2 := Lib.hid hcw2
  have HGw2 := Lib.hid hgw2
  clear hcw2 hgw2
  go_wp2_with fail
  refine (among_c [0, 0, 0, 1, 1, 2, 3] 0 3 gc _ _ _ _ HCw2.out (by omega) rfl rfl (by decide) (by decide) (by decide)).mono ?_
  rintro e w3 ⟨t, rfl, t1, t2, hcw3, hgw3⟩
  have HCw3 := Lib.hid hcw3
  have HGw3 := Lib.hid hgw3
  clear hcw3 hgw3
  go_wp2_with fail
  refine (among_c [0, 5, 5, 900, 99999] 0 99999 gc _ _ _ _ HCw3.out (by omega) rfl rfl (by decide) (by decide) (by decide)).mono ?_
  rintro e w4 ⟨r, rfl, r1, r2, hcw4, hgw4⟩
  have HCw4 := Lib.hid hcw4
  have HGw4 := Lib.hid hgw4
  clear hcw4 hgw4
  have HG := Lib.hid (but_trans (but_trans (but_trans HGw1.out HGw2.out) HGw3.out) HGw4.out)
  have HB4 := Lib.hid (but_trans HB0.out HG.out)
  have HZ4 := Lib.hid (HZ.out.grown HG.out (by omega))
  have HX := Lib.hid (Box.new w4 (Cbn.cells ⟨num, s, q, t, r⟩) 25)
  have HC5 := Lib.hid (HCw4.out.alloc (.cells (Cbn.cells ⟨num, s, q, t, r⟩).toArray 25))
  have lz := HZ4.out.lt
  clear HGw1 HGw2 HGw3 HGw4 HCw1 HCw2 HCw3 HCw4 HC0 HC HG HB0 HZ
  go_wp2_with fail
  refine (pick_c 70 gc _ _ HC5.out (by omega) (by omega) (by omega)).mono ?_
  rintro e w5 ⟨m, rfl, m1, m2, hcw5, hgw5⟩
  have HCw5 := Lib.hid hcw5
  have HGw5 := Lib.hid hgw5
  clear hcw5 hgw5
  have HX5 := Lib.hid (HX.out.grown HGw5.out (by omega))
  have HZ5 := Lib.hid ((HZ4.out.alloc _).grown HGw5.out (by omega))
  have HB5 := Lib.hid (but_trans (but_below HB4.out ((Below.refl _ _).alloc (by omega) (.cells (Cbn.cells ⟨num, s, q, t, r⟩).toArray 25))) HGw5.out)
  have lx := HX5.out.lt
  clear HGw5 HX HZ4 HB4 HC5
  by_cases hm0 : m = 0
  · subst hm0
    go_wp2_with fail
    refine (among_c [0, 99, 100] (0) 100 gc _ _ _ _ HCw5.out (by omega) rfl rfl (by decide) (by decide) (by decide)).mono ?_
    rintro e w6 ⟨v, rfl, v1, v2, hcw6, hgw6⟩
    have HCw6 := Lib.hid hcw6
    have HGw6 := Lib.hid hgw6
    clear hcw6 hgw6
    have hx6 := HX5.out.grown HGw6.out (by omega)
    have hz6 := HZ5.out.grown HGw6.out (by omega)
    have x0 := hx6.cell (j := 0) rfl
    have x1 := hx6.cell (j := 1) rfl
    have x2 := hx6.cell (j := 2) rfl
    have x3 := hx6.cell (j := 3) rfl
    have x4 := hx6.cell (j := 4) rfl
    have xf := hx6.frozen
    have z0 := hz6.cell (j := 0) rfl
    have z1 := hz6.cell (j := 1) rfl
    have z2 := hz6.cell (j := 2) rfl
    have z3 := hz6.cell (j := 3) rfl
    have z4 := hz6.cell (j := 4) rfl
    have zf := hz6.frozen
    have HX7 := Lib.hid (hx6.set 0 (.int .i64 v))
    have HZ7 := Lib.hid (hz6.far (p := ⟨w4.heap.size, 0, none⟩) (show w.heap.size ≠ w4.heap.size by omega) (.int .i64 v))
    have HE := Lib.hid (push_end (but_trans HB5.out HGw6.out) HCw6.out HLT.out (puts_below (g := w.heap.size) (Nat.le_refl _) (Cbn.cells (⟨v, s, q, t, r⟩ : Cbn)) _ 0 ((Below.refl w.heap.size w6).setCell (p := ⟨w4.heap.size, 0, none⟩) (by show w.heap.size ≤ w4.heap.size; omega) (.int .i64 v))))
    clear hx6 hz6
    go_wp2_with fail
    exact bodyPost_ret (v := .agg #[.int .i64 ((⟨v, s, q, t, r⟩ : Cbn)).n, .int .i64 ((⟨v, s, q, t, r⟩ : Cbn)).s, .int .i64 ((⟨v, s, q, t, r⟩ : Cbn)).e, .int .i64 ((⟨v, s, q, t, r⟩ : Cbn)).t, .int .i64 ((⟨v, s, q, t, r⟩ : Cbn)).r]) (res_cab (x := (⟨v, s, q, t, r⟩ : Cbn)) rfl (HZ7.out.puts (us := Cbn.cells (⟨v, s, q, t, r⟩ : Cbn)) rfl)) rfl ⟨(⟨v, s, q, t, r⟩ : Cbn), rfl, ⟨by show 0 ≤ s; omega, by show s ≤ 17; omega⟩, HE.out.1.mono (by omega), HE.out.2⟩
  by_cases hm1 : m = 1
  · subst hm1
    go_wp2_with fail
    refine (among_c [0, 17] (0) 17 gc _ _ _ _ HCw5.out (by omega) rfl rfl (by decide) (by decide) (by decide)).mono ?_
    rintro e w6 ⟨v, rfl, v1, v2, hcw6, hgw6⟩
    have HCw6 := Lib.hid hcw6
    have HGw6 := Lib.hid hgw6
    clear hcw6 hgw6
    have hx6 := HX5.out.grown HGw6.out (by omega)
    have hz6 := HZ5.out.grown HGw6.out (by omega)
    have x0 := hx6.cell (j := 0) rfl
    have x1 := hx6.cell (j := 1) rfl
    have x2 := hx6.cell (j := 2) rfl
    have x3 := hx6.cell (j := 3) rfl
    have x4 := hx6.cell (j := 4) rfl
    have xf := hx6.frozen
    have z0 := hz6.cell (j := 0) rfl
    have z1 := hz6.cell (j := 1) rfl
    have z2 := hz6.cell (j := 2) rfl
    have z3 := hz6.cell (j := 3) rfl
    have z4 := hz6.cell (j := 4) rfl
    have zf := hz6.frozen
    have HX7 := Lib.hid (hx6.set 1 (.int .i64 v))
    have HZ7 := Lib.hid (hz6.far (p := ⟨w4.heap.size, 1, none⟩) (show w.heap.size ≠ w4.heap.size by omega) (.int .i64 v))
    have HE := Lib.hid (push_end (but_trans HB5.out HGw6.out) HCw6.out HLT.out (puts_below (g := w.heap.size) (Nat.le_refl _) (Cbn.cells (⟨num, v, q, t, r⟩ : Cbn)) _ 0 ((Below.refl w.heap.size w6).setCell (p := ⟨w4.heap.size, 1, none⟩) (by show w.heap.size ≤ w4.heap.size; omega) (.int .i64 v))))
    clear hx6 hz6
    go_wp2_with fail
    exact bodyPost_ret (v := .agg #[.int .i64 ((⟨num, v, q, t, r⟩ : Cbn)).n, .int .i64 ((⟨num, v, q, t, r⟩ : Cbn)).s, .int .i64 ((⟨num, v, q, t, r⟩ : Cbn)).e, .int .i64 ((⟨num, v, q, t, r⟩ : Cbn)).t, .int .i64 ((⟨num, v, q, t, r⟩ : Cbn)).r]) (res_cab (x := (⟨num, v, q, t, r⟩ : Cbn)) rfl (HZ7.out.puts (us := Cbn.cells (⟨num, v, q, t, r⟩ : Cbn)) rfl)) rfl ⟨(⟨num, v, q, t, r⟩ : Cbn), rfl, ⟨by show 0 ≤ v; omega, by show v ≤ 17; omega⟩, HE.out.1.mono (by omega), HE.out.2⟩
  by_cases hm2 : m = 2
  · subst hm2
    go_wp2_with fail
    refine (among_c [99, 2001] (99) 2001 gc _ _ _ _ HCw5.out (by omega) rfl rfl (by decide) (by decide) (by decide)).mono ?_
    rintro e w6 ⟨v, rfl, v1, v2, hcw6, hgw6⟩
    have HCw6 := Lib.hid hcw6
    have HGw6 := Lib.hid hgw6
    clear hcw6 hgw6
    have hx6 := HX5.out.grown HGw6.out (by omega)
    have hz6 := HZ5.out.grown HGw6.out (by omega)
    have x0 := hx6.cell (j := 0) rfl
    have x1 := hx6.cell (j := 1) rfl
    have x2 := hx6.cell (j := 2) rfl
    have x3 := hx6.cell (j := 3) rfl
    have x4 := hx6.cell (j := 4) rfl
    have xf := hx6.frozen
    have z0 := hz6.cell (j := 0) rfl
    have z1 := hz6.cell (j := 1) rfl
    have z2 := hz6.cell (j := 2) rfl
    have z3 := hz6.cell (j := 3) rfl
    have z4 := hz6.cell (j := 4) rfl
    have zf := hz6.frozen
    have HX7 := Lib.hid (hx6.set 2 (.int .i64 v))
    have HZ7 := Lib.hid (hz6.far (p := ⟨w4.heap.size, 2, none⟩) (show w.heap.size ≠ w4.heap.size by omega) (.int .i64 v))
    have HE := Lib.hid (push_end (but_trans HB5.out HGw6.out) HCw6.out HLT.out (puts_below (g := w.heap.size) (Nat.le_refl _) (Cbn.cells (⟨num, s, v, t, r⟩ : Cbn)) _ 0 ((Below.refl w.heap.size w6).setCell (p := ⟨w4.heap.size, 2, none⟩) (by show w.heap.size ≤ w4.heap.size; omega) (.int .i64 v))))
    clear hx6 hz6
    go_wp2_with fail
    exact bodyPost_ret (v := .agg #[.int .i64 ((⟨num, s, v, t, r⟩ : Cbn)).n, .int .i64 ((⟨num, s, v, t, r⟩ : Cbn)).s, .int .i64 ((⟨num, s, v, t, r⟩ : Cbn)).e, .int .i64 ((⟨num, s, v, t, r⟩ : Cbn)).t, .int .i64 ((⟨num, s, v, t, r⟩ : Cbn)).r]) (res_cab (x := (⟨num, s, v, t, r⟩ : Cbn)) rfl (HZ7.out.puts (us := Cbn.cells (⟨num, s, v, t, r⟩ : Cbn)) rfl)) rfl ⟨(⟨num, s, v, t, r⟩ : Cbn), rfl, ⟨by show 0 ≤ s; omega, by show s ≤ 17; omega⟩, HE.out.1.mono (by omega), HE.out.2⟩
  by_cases hm3 : m = 3
  · subst hm3
    go_wp2_with fail
    refine (among_c [-1, 4] (-1) 4 gc _ _ _ _ HCw5.out (by omega) rfl rfl (by decide) (by decide) (by decide)).mono ?_
    rintro e w6 ⟨v, rfl, v1, v2, hcw6, hgw6⟩
    have HCw6 := Lib.hid hcw6
    have HGw6 := Lib.hid hgw6
    clear hcw6 hgw6
    have hx6 := HX5.out.grown HGw6.out (by omega)
    have hz6 := HZ5.out.grown HGw6.out (by omega)
    have x0 := hx6.cell (j := 0) rfl
    have x1 := hx6.cell (j := 1) rfl
    have x2 := hx6.cell (j := 2) rfl
    have x3 := hx6.cell (j := 3) rfl
    have x4 := hx6.cell (j := 4) rfl
    have xf := hx6.frozen
    have z0 := hz6.cell (j := 0) rfl
    have z1 := hz6.cell (j := 1) rfl
    have z2 := hz6.cell (j := 2) rfl
    have z3 := hz6.cell (j := 3) rfl
    have z4 := hz6.cell (j := 4) rfl
    have zf := hz6.frozen
    have HX7 := Lib.hid (hx6.set 3 (.int .i64 v))
    have HZ7 := Lib.hid (hz6.far (p := ⟨w4.heap.size, 3, none⟩) (show w.heap.size ≠ w4.heap.size by omega) (.int .i64 v))
    have HE := Lib.hid (push_end (but_trans HB5.out HGw6.out) HCw6.out HLT.out (puts_below (g := w.heap.size) (Nat.le_refl _) (Cbn.cells (⟨num, s, q, v, r⟩ : Cbn)) _ 0 ((Below.refl w.heap.size w6).setCell (p := ⟨w4.heap.size, 3, none⟩) (by show w.heap.size ≤ w4.heap.size; omega) (.int .i64 v))))
    clear hx6 hz6
    go_wp2_with fail
    exact bodyPost_ret (v := .agg #[.int .i64 ((⟨num, s, q, v, r⟩ : Cbn)).n, .int .i64 ((⟨num, s, q, v, r⟩ : Cbn)).s, .int .i64 ((⟨num, s, q, v, r⟩ : Cbn)).e, .int .i64 ((⟨num, s, q, v, r⟩ : Cbn)).t, .int .i64 ((⟨num, s, q, v, r⟩ : Cbn)).r]) (res_cab (x := (⟨num, s, q, v, r⟩ : Cbn)) rfl (HZ7.out.puts (us := Cbn.cells (⟨num, s, q, v, r⟩ : Cbn)) rfl)) rfl ⟨(⟨num, s, q, v, r⟩ : Cbn), rfl, ⟨by show 0 ≤ s; omega, by show s ≤ 17; omega⟩, HE.out.1.mono (by omega), HE.out.2⟩
  by_cases hm4 : m = 4
  · subst hm4
    go_wp2_with fail
    refine (among_c [-1, 100000] (-1) 100000 gc _ _ _ _ HCw5.out (by omega) rfl rfl (by decide) (by decide) (by decide)).mono ?_
    rintro e w6 ⟨v, rfl, v1, v2, hcw6, hgw6⟩
    have HCw6 := Lib.hid hcw6
    have HGw6 := Lib.hid hgw6
    clear hcw6 hgw6
    have hx6 := HX5.out.grown HGw6.out (by omega)
    have hz6 := HZ5.out.grown HGw6.out (by omega)
    have x0 := hx6.cell (j := 0) rfl
    have x1 := hx6.cell (j := 1) rfl
    have x2 := hx6.cell (j := 2) rfl
    have x3 := hx6.cell (j := 3) rfl
    have x4 := hx6.cell (j := 4) rfl
    have xf := hx6.frozen
    have z0 := hz6.cell (j := 0) rfl
    have z1 := hz6.cell (j := 1) rfl
    have z2 := hz6.cell (j := 2) rfl
    have z3 := hz6.cell (j := 3) rfl
    have z4 := hz6.cell (j := 4) rfl
    have zf := hz6.frozen
    have HX7 := Lib.hid (hx6.set 4 (.int .i64 v))
    have HZ7 := Lib.hid (hz6.far (p := ⟨w4.heap.size, 4, none⟩) (show w.heap.size ≠ w4.heap.size by omega) (.int .i64 v))
    have HE := Lib.hid (push_end (but_trans HB5.out HGw6.out) HCw6.out HLT.out (puts_below (g := w.heap.size) (Nat.le_refl _) (Cbn.cells (⟨num, s, q, t, v⟩ : Cbn)) _ 0 ((Below.refl w.heap.size w6).setCell (p := ⟨w4.heap.size, 4, none⟩) (by show w.heap.size ≤ w4.heap.size; omega) (.int .i64 v))))
    clear hx6 hz6
    go_wp2_with fail
    exact bodyPost_ret (v := .agg #[.int .i64 ((⟨num, s, q, t, v⟩ : Cbn)).n, .int .i64 ((⟨num, s, q, t, v⟩ : Cbn)).s, .int .i64 ((⟨num, s, q, t, v⟩ : Cbn)).e, .int .i64 ((⟨num, s, q, t, v⟩ : Cbn)).t, .int .i64 ((⟨num, s, q, t, v⟩ : Cbn)).r]) (res_cab (x := (⟨num, s, q, t, v⟩ : Cbn)) rfl (HZ7.out.puts (us := Cbn.cells (⟨num, s, q, t, v⟩ : Cbn)) rfl)) rfl ⟨(⟨num, s, q, t, v⟩ : Cbn), rfl, ⟨by show 0 ≤ s; omega, by show s ≤ 17; omega⟩, HE.out.1.mono (by omega), HE.out.2⟩
  have n0 : (m == 0) = false := beq_eq_false_iff_ne.2 hm0
  have n1 : (m == 1) = false := beq_eq_false_iff_ne.2 hm1
  have n2 : (m == 2) = false := beq_eq_false_iff_ne.2 hm2
  have n3 : (m == 3) = false := beq_eq_false_iff_ne.2 hm3
  have n4 : (m == 4) = false := beq_eq_false_iff_ne.2 hm4
  have hx6 := HX5.out
  have hz6 := HZ5.out
  have x0 := hx6.cell (j := 0) rfl
  have x1 := hx6.cell (j := 1) rfl
  have x2 := hx6.cell (j := 2) rfl
  have x3 := hx6.cell (j := 3) rfl
  have x4 := hx6.cell (j := 4) rfl
  have xf := hx6.frozen
  have z0 := hz6.cell (j := 0) rfl
  have z1 := hz6.cell (j := 1) rfl
  have z2 := hz6.cell (j := 2) rfl
  have z3 := hz6.cell (j := 3) rfl
  have z4 := hz6.cell (j := 4) rfl
  have zf := hz6.frozen
  have HE := Lib.hid (push_end HB5.out HCw5.out HLT.out (puts_below (g := w.heap.size) (Nat.le_refl _) (Cbn.cells ⟨num, s, q, t, r⟩) w5 0 (Below.refl _ _)))
  clear hx6 hz6 hm0 hm1 hm2 hm3 hm4
  go_wp2_with fail
  exact bodyPost_ret (v := .agg #[.int .i64 num, .int .i64 s, .int .i64 q, .int .i64 t, .int .i64 r]) (res_cab (x := ⟨num, s, q, t, r⟩) rfl (HZ5.out.puts (us := Cbn.cells ⟨num, s, q, t, r⟩) rfl)) rfl ⟨⟨num, s, q, t, r⟩, rfl, ⟨by show 0 ≤ s; omega, by show s ≤ 17; omega⟩, HE.out.1.mono (by omega), HE.out.2⟩
theorem flat_cbn (l : List Cbn) (x : Cbn) : (l.map Cbn.cells).flatten ++ Cbn.cells x = ((l ++ [x]).map Cbn.cells).flatten := by simp
/-- A list that something was appended to lies in a block. -/
theorem owns_at {w : World} {base k n : Nat} {T : TypeId} {v : Value} {xs : List Value} (h : w.ownsRow base T k v n xs) (hn : 0 < n) : ∃ g c, v = .slice (some ⟨g, 0, none⟩) n c ∧ n ≤ c := by
  rcases h.2 with ⟨_, h0⟩ | ⟨g, cap, cur, rfl, _, _, hnc, _⟩
  · omega
  · exact ⟨g, cap, rfl, hnc⟩
/-- What is drawn: a list of the call's own, in a block even if it is empty. -/
def CabinsD (gc K : Nat) (w : World) (e : Ending) (w' : World) : Prop := ∃ (g cap : Nat) (l : List Cbn), e = .returned (.slice (some ⟨g, 0, none⟩) l.length cap) ∧ l.length ≤ cap ∧ l.length ≤ 14 ∧ Own w' w.heap.size 25 5 Cbn.cells (some ⟨g, 0, none⟩) l ∧ Cur w' gc K ∧ w.grownBy w' (some gc)
set_option maxHeartbeats 8000000 in
theorem cabins_c (gc K : Nat) (w : World) (h : Cur w gc K) (hK : K ≤ 100000) : Calls Tryd.prog 37 #[.pointer (some ⟨gc, 0, none⟩)] w (CabinsD gc (K + 200) w) := by
  have HC := Lib.hid h
  have HLT := Lib.hid h.lt
  clear h
  go_enter Tryd.func37, Tryd.ntmps37
  go_wp2_with fail
  refine (pick_c 9 gc K _ (HC.out.alloc _) (by omega) (by omega) (by omega)).mono ?_
  rintro e w1 ⟨n, rfl, n1, n2, hcw1, hgw1⟩
  have HCw1 := Lib.hid hcw1
  have HGw1 := Lib.hid hgw1
  clear hcw1 hgw1
  have HO1 := Lib.hid (owns_grown (ownsRow_empty w 25 5) HGw1.out HLT.out)
  have HB1 := Lib.hid (but_trans (but_alloc _) HGw1.out)
  clear HGw1
  obtain ⟨n, rfl⟩ : ∃ n' : Nat, n = (n' : Int) := ⟨n.toNat, by omega⟩
  go_wp2_with fail
  go_loopw [3, 4, 5] (fun v nu i wr => ∃ (l : List Cbn) (k j g c : Nat) (num : Int), j + k ≤ 8 ∧ l.length ≤ j ∧ v = .slice (some ⟨g, 0, none⟩) l.length c ∧ l.length ≤ c ∧ nu = .int .i64 num ∧ -(j : Int) ≤ num ∧ num ≤ 3 * j ∧ i = .int .i64 k ∧ wr.ownsRow w.heap.size 25 5 (.slice (some ⟨g, 0, none⟩) l.length c) l.length ((l.map Cbn.cells).flatten) ∧ Cur wr gc (K + 2 + 16 * j) ∧ w.grownBy wr (some gc)) (fun _ _ i _ => (intOf i).toNat)
  case atStart => exact ⟨[], n, 0, w.heap.size, 0, 0, by omega, Nat.le_refl _, rfl, Nat.le_refl _, rfl, by omega, by omega, rfl, HO1.out, HCw1.out, HB1.out⟩
  case round =>
    obtain ⟨l, k, j, g, c, num, hjk, hl, rfl, hc, rfl, hn1, hn2, rfl, hown, hcur, hbut⟩ := hrel
    have HO := Lib.hid hown
    have HB := Lib.hid hbut
    have HR := Lib.hid hcur
    clear hown hbut hcur
    rcases k with _ | k
    · go_wp2_with fail
      refine (one_c 24 gc _ _ HR.out (by omega) (by omega) (by omega)).mono ?_
      rintro e w2 ⟨m, rfl, hcw2, hgw2⟩
      have HCw2 := Lib.hid hcw2
      have HGw2 := Lib.hid hgw2
      clear hcw2 hgw2
      have HO2 := Lib.hid (owns_grown HO.out HGw2.out HLT.out)
      have HB2 := Lib.hid (but_trans HB.out HGw2.out)
      clear HGw2 HO HB HR
      rcases m with _ | _
      · go_wp2_with fail
        go_ret
        exact ⟨g, c, l, rfl, hc, by omega, Own.of_row' HO2.out rfl rfl (fun _ => rfl), HCw2.out.mono (by omega), HB2.out⟩
      · go_wp2_with fail
        go_loopw [3, 4] (fun v nu wi => ∃ (l : List Cbn) (g c : Nat) (num : Int), l.length ≤ 13 ∧ v = .slice (some ⟨g, 0, none⟩) l.length c ∧ l.length ≤ c ∧ nu = .int .i64 num ∧ -100 ≤ num ∧ num ≤ 100 + l.length ∧ wi.ownsRow w.heap.size 25 5 (.slice (some ⟨g, 0, none⟩) l.length c) l.length ((l.map Cbn.cells).flatten) ∧ Cur wi gc (K + 150 + 2 * l.length) ∧ w.grownBy wi (some gc)) (fun v _ _ => match v with | .slice _ n _ => 14 - n | _ => 0)
        case atStart => exact ⟨l, g, c, num, by omega, rfl, hc, rfl, by omega, by omega, HO2.out, HCw2.out.mono (by omega), HB2.out⟩
        case round =>
          obtain ⟨l, g, c, num, hl, rfl, hc, rfl, hn1, hn2, hown, hcur, hbut⟩ := hrel
          have HO := Lib.hid hown
          have HB := Lib.hid hbut
          have HR := Lib.hid hcur
          clear hown hbut hcur
          go_wp2_with fail
          refine (pick_c 2 gc _ _ HR.out (by omega) (by omega) (by omega)).mono ?_
          rintro e w3 ⟨m, rfl, m1, m2, hcw3, hgw3⟩
          have HCw3 := Lib.hid hcw3
          have HGw3 := Lib.hid hgw3
          clear hcw3 hgw3
          have HO3 := Lib.hid (owns_grown HO.out HGw3.out HLT.out)
          have HB3 := Lib.hid (but_trans HB.out HGw3.out)
          have z3 := HB3.out.size
          clear HGw3 HO HB HR
          by_cases hlt : (l.length : Int) < 12 + m
          · have a1 : IntKind.i64.wrap (num + 1) = num + 1 := IntWalk.i64_in _ (by omega)
            go_wp2_with (at_builtin; refine wpList_push2 _ rfl _ _ 33 rfl w.heap.size 25 (.agg #[.int .i64 0, .int .i64 0, .int .i64 0, .int .i64 0, .int .i64 0]) 5 40 Tryd.underlying33 info_cbn rfl (by decide) (by decide) _ _ _ rfl (HO3.out.alloc _) w3.heap.size (Cbn.cells ⟨num + 1, 4, 300, 0, 0⟩) rfl rfl ?c1 ?c2 ?c3 ?c4 ?_)
            try case c1 =>
              intro j u hj
              match j, hj with
              | 0, hj => simp [Cbn.cells] at hj; subst hj; simp [go_sem]
              | 1, hj => simp [Cbn.cells] at hj; subst hj; simp [go_sem]
              | 2, hj => simp [Cbn.cells] at hj; subst hj; simp [go_sem]
              | 3, hj => simp [Cbn.cells] at hj; subst hj; simp [go_sem]
              | 4, hj => simp [Cbn.cells] at hj; subst hj; simp [go_sem]
            case c2 => intro u hu; simp [Cbn.cells] at hu; rcases hu with rfl | rfl | rfl | rfl | rfl <;> rfl
            case c3 => omega
            case c4 => first | omega | (simp; omega)
            intro v' w' hown' hb' _
            rw [flat_cbn] at hown'
            obtain ⟨e1, e2⟩ := push_end HB3.out HCw3.out HLT.out (((Below.refl _ _).alloc z3 _).trans hb')
            obtain ⟨g8, c8, hv8, hc8⟩ := owns_at hown' (by omega)
            subst hv8
            have E1 := Lib.hid e1
            have E2 := Lib.hid e2
            have E3 := Lib.hid hown'
            clear e1 e2 hown' hb'
            go_wp2_with fail
            go_roundw
            case rel => exact ⟨l ++ [⟨num + 1, 4, 300, 0, 0⟩], g8, c8, num + 1, by simp; omega, by simp, by simpa using hc8, rfl, by omega, by simp; omega, by simpa using E3.out, E1.out.mono (by simp; omega), E2.out⟩
            case measure => simp; omega
          · go_wp2_with fail
            go_ret
            exact ⟨g, c, l, rfl, hc, by omega, Own.of_row' HO3.out rfl rfl (fun _ => rfl), HCw3.out.mono (by omega), HB3.out⟩
    · have a1 : IntKind.i64.wrap (num + 1) = num + 1 := IntWalk.i64_in _ (by omega)
      go_wp2_with fail
      refine (pick_c 3 gc _ _ HR.out (by omega) (by omega) (by omega)).mono ?_
      rintro e w2 ⟨a, rfl, a1, a2, hcw2, hgw2⟩
      have HCw2 := Lib.hid hcw2
      have HGw2 := Lib.hid hgw2
      clear hcw2 hgw2
      have a2 : IntKind.i64.wrap (num + 1 + a) = num + 1 + a := IntWalk.i64_in _ (by omega)
      go_wp2_with fail
      refine (pick_c 80 gc _ _ HCw2.out (by omega) (by omega) (by omega)).mono ?_
      rintro e w3 ⟨b, rfl, b1, b2, hcw3, hgw3⟩
      have HCw3 := Lib.hid hcw3
      have HGw3 := Lib.hid hgw3
      clear hcw3 hgw3
      obtain ⟨d, hd⟩ : ∃ d, b / 79 = d := ⟨_, rfl⟩
      have d1 : 0 ≤ d ∧ d ≤ 1 := by omega
      have a3 : IntKind.i64.wrap (b / 79) = d := by rw [hd]; exact IntWalk.i64_in _ (by omega)
      have a4 : IntKind.i64.wrap (num + 1 + a - d) = num + 1 + a - d := IntWalk.i64_in _ (by omega)
      go_wp2_with fail
      refine (cabin_c (num + 1 + a - d) gc _ _ HCw3.out (by omega)).mono ?_
      rintro e w4 ⟨x, rfl, _, hc4, hg4⟩
      have HC4 := Lib.hid hc4
      have HG := Lib.hid (but_trans (but_trans HGw2.out HGw3.out) hg4)
      have HO4 := Lib.hid (owns_grown HO.out HG.out HLT.out)
      have HB4 := Lib.hid (but_trans HB.out HG.out)
      have z4 := HB4.out.size
      clear hc4 hg4 HG HGw2 HGw3 HO HB HR HCw2 HCw3
      go_wp2_with (at_builtin; refine wpList_push2 _ rfl _ _ 33 rfl w.heap.size 25 (.agg #[.int .i64 0, .int .i64 0, .int .i64 0, .int .i64 0, .int .i64 0]) 5 40 Tryd.underlying33 info_cbn rfl (by decide) (by decide) _ _ _ rfl (HO4.out.alloc _) w4.heap.size (Cbn.cells x) rfl rfl ?c1 ?c2 ?c3 ?c4 ?_)
      try case c1 =>
        intro j u hj
        match j, hj with
        | 0, hj => simp [Cbn.cells] at hj; subst hj; simp [go_sem]
        | 1, hj => simp [Cbn.cells] at hj; subst hj; simp [go_sem]
        | 2, hj => simp [Cbn.cells] at hj; subst hj; simp [go_sem]
        | 3, hj => simp [Cbn.cells] at hj; subst hj; simp [go_sem]
        | 4, hj => simp [Cbn.cells] at hj; subst hj; simp [go_sem]
      case c2 => intro u hu; simp [Cbn.cells] at hu; rcases hu with rfl | rfl | rfl | rfl | rfl <;> rfl
      case c3 => omega
      case c4 => first | omega | (simp; omega)
      intro v' w' hown' hb' _
      rw [flat_cbn] at hown'
      obtain ⟨e1, e2⟩ := push_end HB4.out HC4.out HLT.out (((Below.refl _ _).alloc z4 _).trans hb')
      obtain ⟨g8, c8, hv8, hc8⟩ := owns_at hown' (by omega)
      subst hv8
      have E1 := Lib.hid e1
      have E2 := Lib.hid e2
      have E3 := Lib.hid hown'
      clear e1 e2 hown' hb'
      go_wp2_with fail
      go_roundw
      case rel => exact ⟨l ++ [x], k, j + 1, g8, c8, num + 1 + a - d, by omega, by simp; omega, by simp, by simpa using hc8, rfl, by omega, by omega, by go_num, by simpa using E3.out, E1.out.mono (by omega), E2.out⟩
      case measure => simp [intOf]
end Go.Proofs.YteoajaichjojdaaDoor
