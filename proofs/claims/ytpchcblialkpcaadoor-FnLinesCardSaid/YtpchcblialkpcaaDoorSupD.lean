/- What the reference draws of lines: a list of supports of the call's own; only the cursor's own block turns; no conditions but that the cursor has not gone very far. -/
import Derived.Test.YtpchcblialkpcaaDoorVee
import Derived.Test.YtpchcblialkpcaaDoorSupArr
import Derived.Test.YtpchcblialkpcaaDoorOwnK
import Derived.Test.YtpchcblialkpcaaDoorSupClimb
import Derived.Test.YtpchcblialkpcaaDoorPush
namespace Go.Proofs.YtpchcblialkpcaaDoor
open Go.RowKit

theorem owns_leU {w : World} {base b2 n k : Nat} {T : TypeId} {v : Value} {xs : List Value} (h : w.ownsRow base T k v n xs) (hb : b2 ≤ base) : w.ownsRow b2 T k v n xs := by
  obtain ⟨hx, h | ⟨g, cap, cur, he, hg, r⟩⟩ := h
  · exact ⟨hx, .inl h⟩
  · exact ⟨hx, .inr ⟨g, cap, cur, he, by omega, r⟩⟩
theorem owns_atU {w : World} {base k n : Nat} {T : TypeId} {v : Value} {xs : List Value} (h : w.ownsRow base T k v n xs) (hn : 0 < n) : ∃ g c, v = .slice (some ⟨g, 0, none⟩) n c ∧ n ≤ c := by
  rcases h.2 with ⟨_, h0⟩ | ⟨g, cap, cur, rfl, _, _, hnc, _⟩
  · omega
  · exact ⟨g, cap, rfl, hnc⟩
theorem flat_sup (l : List Sup) (x : Sup) : (l.map Sup.cells).flatten ++ Sup.cells x = ((l ++ [x]).map Sup.cells).flatten := by simp
section
variable {w : World} {base n g c : Nat} {l : List Sup}
/-- One cell of one element is written over. -/
theorem owns_field (h : w.ownsRow base 33 3 (.slice (some ⟨g, 0, none⟩) n c) n ((l.map Sup.cells).flatten)) (hn : n = l.length) {i j : Nat} (hi : i < l.length) (hj : j < 3) {y : Sup} {v : Value} (hy : Sup.cells y = (Sup.cells (nth l i)).set j v) :
    (w.setCell ⟨g, i * 3 + j, none⟩ v).ownsRow base 33 3 (.slice (some ⟨g, 0, none⟩) n c) n (((l.set i y).map Sup.cells).flatten) ∧ base ≤ g ∧ g < w.heap.size := by
  subst hn
  obtain ⟨h1, _, _, h4, h5⟩ := owns_putk h (i := i * 3 + j) (by omega) v
  rw [flat_set (k := 3) (cells := Sup.cells) (fun _ => rfl) l i j v y hi hj hy] at h1
  exact ⟨h1, h4, h5⟩
theorem owns_cells (h : w.ownsRow base 33 3 (.slice (some ⟨g, 0, none⟩) n c) n ((l.map Sup.cells).flatten)) (hn : n = l.length) {i : Nat} (hi : i < l.length) :
    w.cell? ⟨g, i * 3, none⟩ = some (.int .i64 (nth l i).a) ∧ w.cell? ⟨g, i * 3 + 1, none⟩ = some (.int .i64 (nth l i).h) ∧ w.cell? ⟨g, i * 3 + 2, none⟩ = some (.bool (nth l i).s) ∧ (∀ t, w.frozen? ⟨g, t, none⟩ = false) ∧ base ≤ g ∧ g < w.heap.size := by
  subst hn
  have k0 := owns_putk h (i := i * 3) (by omega) undef
  have k1 := owns_putk h (i := i * 3 + 1) (by omega) undef
  have k2 := owns_putk h (i := i * 3 + 2) (by omega) undef
  refine ⟨k0.2.1.trans ?_, k1.2.1.trans ?_, k2.2.1.trans ?_, fun t => ?_, k0.2.2.2⟩
  · exact flat_get (k := 3) (fun _ => rfl) l i 0 _ hi (by decide) rfl
  · exact flat_get (k := 3) (fun _ => rfl) l i 1 _ hi (by decide) rfl
  · exact flat_get (k := 3) (fun _ => rfl) l i 2 _ hi (by decide) rfl
  · rcases h.2 with ⟨h1, _⟩ | ⟨g', cap, cur, he, hg, hh, _⟩
    · simp at h1
    · simp only [Value.slice.injEq, Option.some.injEq, Addr.mk.injEq, and_true, true_and] at he
      obtain ⟨rfl, rfl⟩ := he
      have r : w.rowIs g 33 cur.size (fun i => cur[i]?.getD undef) := ⟨cur, hh, rfl, fun i hi => by simp [hi]⟩
      exact r.frozen t
/-- One element is written over. -/
theorem owns_sup (h : w.ownsRow base 33 3 (.slice (some ⟨g, 0, none⟩) n c) n ((l.map Sup.cells).flatten)) (hn : n = l.length) {i : Nat} (hi : i < l.length) (x : Sup) :
    (((w.setCell ⟨g, i * 3, none⟩ (.int .i64 x.a)).setCell ⟨g, i * 3 + 1, none⟩ (.int .i64 x.h)).setCell ⟨g, i * 3 + 2, none⟩ (.bool x.s)).ownsRow base 33 3 (.slice (some ⟨g, 0, none⟩) n c) n (((l.set i x).map Sup.cells).flatten) := by
  have h0 := (owns_field h hn hi (j := 0) (by decide) (y := ⟨x.a, (nth l i).h, (nth l i).s⟩) (v := .int .i64 x.a) rfl).1
  have h1 := (owns_field h0 (by simpa using hn) (i := i) (by simpa using hi) (j := 1) (by decide) (y := ⟨x.a, x.h, (nth l i).s⟩) (v := .int .i64 x.h) (by rw [nth_setU hi, if_pos rfl]; rfl)).1
  rw [List.set_set] at h1
  have h2 := (owns_field h1 (by simpa using hn) (i := i) (by simpa using hi) (j := 2) (by decide) (y := x) (v := .bool x.s) (by rw [nth_setU hi, if_pos rfl]; rfl)).1
  rw [List.set_set] at h2
  exact h2
end
/-- What is drawn: a list of the call's own. -/
def LineD (gc K : Nat) (w : World) (e : Ending) (w' : World) : Prop := ∃ (g cap : Nat) (l : List Sup), e = .returned (.slice (some ⟨g, 0, none⟩) l.length cap) ∧ l.length ≤ cap ∧ l.length ≤ 14 ∧ Own w' w.heap.size 33 3 Sup.cells (some ⟨g, 0, none⟩) l ∧ Cur w' gc K ∧ w.grownBy w' (some gc)
theorem own_head {w : World} {base : Nat} {A : Option Addr} {l q : List Sup} (h : Own w base 33 3 Sup.cells A l) (hl : q.length ≤ l.length) (he : ∀ t, t < q.length → nth q t = nth l t) : Own w base 33 3 Sup.cells A q := fun h0 => by
  obtain ⟨g, N, f, e, hg, hN, hf, hc⟩ := h (by omega)
  exact ⟨g, N, f, e, hg, by omega, hf, fun i hi j v hj hv => hc i (by omega) j v hj (by rw [← he i hi]; exact hv)⟩
set_option maxRecDepth 100000 in
set_option maxHeartbeats 8000000 in
theorem line_c (gc K : Nat) (w : World) (h : Cur w gc K) (hK : K ≤ 100000) : Calls Tryd.prog 28 #[.pointer (some ⟨gc, 0, none⟩)] w (LineD gc (K + 200) w) := by
  have HC := Lib.hid h
  have HLT := Lib.hid h.lt
  clear h
  go_enter Tryd.func28, Tryd.ntmps28
  go_wp2_with fail
  refine (among_c [400, 500, 1000] 400 1000 gc _ _ _ _ HC.out (by omega) rfl rfl (by decide) (by decide) (by decide)).mono ?_
  rintro e w1 ⟨h0, rfl, h01, h02, hcw1, hgw1⟩
  have HCw1 := Lib.hid hcw1
  have HGw1 := Lib.hid hgw1
  clear hcw1 hgw1
  obtain ⟨w2, hw2⟩ : ∃ v, w1.alloc (.cells #[.int .i64 0, .int .i64 h0, .bool true] 33) = v := ⟨_, rfl⟩
  have HW2 := Lib.hid hw2
  have z1 := HGw1.out.size
  have HO2 := Lib.hid (owns_leU (show w2.ownsRow w1.heap.size 33 3 (.slice (some ⟨w1.heap.size, 0, none⟩) 1 1) 1 [.int .i64 0, .int .i64 h0, .bool true] from hw2 ▸ owns_lit (k := 3) (n := 1) rfl (by decide)) z1)
  have HE2 := Lib.hid (push_end HGw1.out HCw1.out HLT.out (show Below w.heap.size w1 w2 from hw2 ▸ (Below.refl _ _).alloc z1 _))
  obtain ⟨c0, c1, c2, cz, cg, cl⟩ := owns_cells (l := [⟨0, h0, true⟩]) HO2.out rfl (i := 0) (by simp)
  obtain ⟨g1, hg1⟩ : ∃ b, w1.heap.size = b := ⟨_, rfl⟩
  have c1 : w2.cell? ⟨g1, 1, none⟩ = some (.int .i64 h0) := hg1 ▸ c1
  rw [hg1] at cl HO2
  have HG1 := Lib.hid hg1
  clear hw2 HGw1 HCw1 c0 c2 cz cg
  go_wp2_with fail
  rw [HW2.out]
  refine wp_region_mem (by kernel_rfl) (by kernel_rfl) ?_
  repeat (go_big_quiet_step (fail))
  refine wpQuiet_nil ?_
  intro _ hw'
  obtain ⟨⟨wq, hbq⟩, hw''⟩ := hw'
  obtain rfl := hw''.symm
  obtain ⟨hcq, hfq, hzq⟩ := bcell hbq
  try simp [Nat.add_one_le_iff] at hzq
  have HOq := Lib.hid (ownsRow_below HO2.out hbq)
  have HEq := Lib.hid (push_end HE2.out.2 HE2.out.1 HLT.out (hbq.mono HE2.out.2.size))
  clear hcq hfq c1 hg1 HO2 HE2
  go_wp2_with fail
  refine (pick_c 4 gc _ _ HEq.out.1 (by omega) (by omega) (by omega)).mono ?_
  rintro e w3 ⟨n, rfl, n1, n2, hcw3, hgw3⟩
  have HCw3 := Lib.hid hcw3
  have HGw3 := Lib.hid hgw3
  clear hcw3 hgw3
  have HO3 := Lib.hid (owns_grown HOq.out HGw3.out HLT.out)
  have HB3 := Lib.hid (but_trans HEq.out.2 HGw3.out)
  clear HGw3 HOq HEq
  obtain ⟨n, rfl⟩ : ∃ n' : Nat, n = (n' : Int) := ⟨n.toNat, by omega⟩
  have a1 : IntKind.i64.wrap (1 + (n : Int)) = ((1 + n : Nat) : Int) := by rw [show 1 + (n : Int) = ((1 + n : Nat) : Int) by omega]; exact IntWalk.i64_in _ (by omega)
  go_wp2_with fail
  clear a1
  go_loopw [3, 4, 5, 6] (fun v at' ht i wr => ∃ (l : List Sup) (k j g c : Nat) (x y : Int), j + k ≤ 4 ∧ 1 ≤ l.length ∧ l.length ≤ 1 + j ∧ v = .slice (some ⟨g, 0, none⟩) l.length c ∧ l.length ≤ c ∧ at' = .int .i64 x ∧ 0 ≤ x ∧ x ≤ 400 * j ∧ ht = .int .i64 y ∧ 0 ≤ y ∧ y ≤ 1000 + 200 * j ∧ i = .int .i64 k ∧ wr.ownsRow w.heap.size 33 3 (.slice (some ⟨g, 0, none⟩) l.length c) l.length ((l.map Sup.cells).flatten) ∧ Cur wr gc (K + 4 + 6 * j) ∧ w.grownBy wr (some gc)) (fun _ _ _ i _ => (intOf i).toNat)
  case atStart => exact ⟨[⟨0, h0, true⟩], 1 + n, 0, g1, 1, 0, h0, by omega, by simp, by simp, rfl, by simp, rfl, by omega, by omega, rfl, by omega, by omega, rfl, HO3.out, HCw3.out.mono (by omega), HB3.out⟩
  case round =>
    obtain ⟨l, k, j, g, c, x, y, hjk, hl1, hl2, rfl, hc, rfl, hx1, hx2, rfl, hy1, hy2, rfl, hown, hcur, hbut⟩ := hrel
    have HO := Lib.hid hown
    have HB := Lib.hid hbut
    have HR := Lib.hid hcur
    clear hown hbut hcur
    rcases k with _ | k
    · obtain ⟨m, hm⟩ : ∃ m, l.length = m + 1 := ⟨l.length - 1, by omega⟩
      have HM := Lib.hid hm
      have ml : m < l.length := by omega
      obtain ⟨c0, c1, c2, cz, cg, cl⟩ := owns_cells HO.out rfl ml
      have HO2 := Lib.hid (owns_field HO.out rfl ml (j := 2) (by decide) (y := ⟨(nth l m).a, (nth l m).h, true⟩) (v := .bool true) rfl).1
      have hgn : g ≠ gc := by have := HLT.out; omega
      have a1 : IntKind.i64.wrap ((l.length : Int) - 1) = (m : Int) := by rw [show (l.length : Int) - 1 = m by omega]; exact IntWalk.i64_in _ (by omega)
      have i1 : (m : Int) < l.length := by omega
      have i0 : (0 : Int) ≤ (m : Int) := by omega
      obtain ⟨ws, hws⟩ : ∃ v, wr.setCell ⟨g, m * 3 + 2, none⟩ (.bool true) = v := ⟨_, rfl⟩
      have HWS := Lib.hid hws
      have HE2 := Lib.hid (push_end HB.out HR.out HLT.out (show Below w.heap.size wr ws from hws ▸ (Below.refl _ _).setCell (p := ⟨g, m * 3 + 2, none⟩) cg _))
      rw [hws] at HO2
      clear hm hws c0 c1
      obtain ⟨L, hL⟩ : ∃ L, l.set m ⟨(nth l m).a, (nth l m).h, true⟩ = L := ⟨_, rfl⟩
      have hLl : L.length = l.length := by rw [← hL]; simp
      rw [hL] at HO2
      have HLl := Lib.hid hLl
      clear hL hLl
      go_wp2_with fail
      rw [HWS.out]
      clear c2 cz
      refine (pick_c 40 gc _ _ HE2.out.1 (by omega) (by omega) (by omega)).mono ?_
      rintro e w4 ⟨d, rfl, d1, d2, hcw4, hgw4⟩
      have HCw4 := Lib.hid hcw4
      have HGw4 := Lib.hid hgw4
      clear hcw4 hgw4
      have HO4 := Lib.hid (owns_grown HO2.out HGw4.out HLT.out)
      have HB4 := Lib.hid (but_trans HE2.out.2 HGw4.out)
      have hgw := cg
      have hL1 : 1 ≤ L.length := by have := HLl.out; omega
      have hmL : m < L.length := by have := HLl.out; omega
      clear HGw4 HO2 HE2 HO HB HR
      by_cases hd0 : d = 0
      · subst hd0
        go_wp2_with fail
        refine (among_c [0, 1] 0 1 gc _ _ _ _ HCw4.out (by omega) rfl rfl (by decide) (by decide) (by decide)).mono ?_
        rintro e w5 ⟨p, rfl, p1, p2, hcw5, hgw5⟩
        have HCw5 := Lib.hid hcw5
        have HGw5 := Lib.hid hgw5
        clear hcw5 hgw5
        go_wp2_with fail
        refine (one_c 2 gc _ _ HCw5.out (by omega) (by omega) (by omega)).mono ?_
        rintro e w6 ⟨s, rfl, hcw6, hgw6⟩
        have HCw6 := Lib.hid hcw6
        have HGw6 := Lib.hid hgw6
        clear hcw6 hgw6
        have HO6 := Lib.hid (owns_grown (owns_grown HO4.out HGw5.out HLT.out) HGw6.out HLT.out)
        have HB6 := Lib.hid (but_trans (but_trans HB4.out HGw5.out) HGw6.out)
        obtain ⟨c0, c1, c2, cz, _, cl6⟩ := owns_cells HO6.out HLl.out.symm (show 0 < L.length by omega)
        simp only [Nat.zero_mul, Nat.zero_add] at c0 c1 c2
        have HO7 := Lib.hid (owns_sup HO6.out HLl.out.symm (show 0 < L.length by omega) ⟨p, 400, s⟩)
        obtain ⟨ws, hws⟩ : ∃ v, ((w6.setCell ⟨g, 0, none⟩ (.int .i64 p)).setCell ⟨g, 1, none⟩ (.int .i64 400)).setCell ⟨g, 2, none⟩ (.bool s) = v := ⟨_, rfl⟩
        have HE := Lib.hid (push_end HB6.out HCw6.out HLT.out (show Below w.heap.size w6 ws from hws ▸ (((Below.refl _ _).setCell (p := ⟨g, 0, none⟩) hgw _).setCell (p := ⟨g, 1, none⟩) hgw _).setCell (p := ⟨g, 2, none⟩) hgw _))
        have HO8 := Lib.hid (show ws.ownsRow w.heap.size 33 3 (.slice (some ⟨g, 0, none⟩) l.length c) l.length (((L.set 0 ⟨p, 400, s⟩).map Sup.cells).flatten) by rw [← hws]; simpa using HO7.out)
        have HWS2 := Lib.hid hws
        clear hws HO7
        go_wp2_with fail
        rw [HWS2.out]
        go_ret
        exact ⟨g, c, L.set 0 ⟨p, 400, s⟩, by rw [show (L.set 0 ⟨p, 400, s⟩).length = l.length by simp [HLl.out]]; rfl, by have := HLl.out; simp; omega, by have := HLl.out; simp; omega, Own.of_row' (HO8.out) (by simp [HLl.out]) rfl (fun _ => rfl), (HE.out.1).mono (by omega), HE.out.2⟩
      by_cases hd1 : d = 1
      · subst hd1
        go_wp2_with fail
        refine (among_c [3000, 3001, 0] 0 3001 gc _ _ _ _ HCw4.out (by omega) rfl rfl (by decide) (by decide) (by decide)).mono ?_
        rintro e w5 ⟨p, rfl, p1, p2, hcw5, hgw5⟩
        have HCw5 := Lib.hid hcw5
        have HGw5 := Lib.hid hgw5
        clear hcw5 hgw5
        go_wp2_with fail
        refine (among_c [2000, 2001, -1] (-1) 2001 gc _ _ _ _ HCw5.out (by omega) rfl rfl (by decide) (by decide) (by decide)).mono ?_
        rintro e w6 ⟨q, rfl, q1, q2, hcw6, hgw6⟩
        have HCw6 := Lib.hid hcw6
        have HGw6 := Lib.hid hgw6
        clear hcw6 hgw6
        have HO6 := Lib.hid (owns_grown (owns_grown HO4.out HGw5.out HLT.out) HGw6.out HLT.out)
        have HB6 := Lib.hid (but_trans (but_trans HB4.out HGw5.out) HGw6.out)
        obtain ⟨c0, c1, c2, cz, _, cl6⟩ := owns_cells HO6.out HLl.out.symm hmL
        have HO7 := Lib.hid (owns_sup HO6.out HLl.out.symm hmL ⟨p, q, true⟩)
        obtain ⟨ws, hws⟩ : ∃ v, ((w6.setCell ⟨g, m * 3, none⟩ (.int .i64 p)).setCell ⟨g, m * 3 + 1, none⟩ (.int .i64 q)).setCell ⟨g, m * 3 + 2, none⟩ (.bool true) = v := ⟨_, rfl⟩
        have HE := Lib.hid (push_end HB6.out HCw6.out HLT.out (show Below w.heap.size w6 ws from hws ▸ (((Below.refl _ _).setCell (p := ⟨g, m * 3, none⟩) hgw _).setCell (p := ⟨g, m * 3 + 1, none⟩) hgw _).setCell (p := ⟨g, m * 3 + 2, none⟩) hgw _))
        have HO8 := Lib.hid (show ws.ownsRow w.heap.size 33 3 (.slice (some ⟨g, 0, none⟩) l.length c) l.length (((L.set m ⟨p, q, true⟩).map Sup.cells).flatten) by rw [← hws]; exact HO7.out)
        have HWS2 := Lib.hid hws
        clear hws HO7
        go_wp2_with fail
        rw [HWS2.out]
        go_ret
        exact ⟨g, c, L.set m ⟨p, q, true⟩, by rw [show (L.set m ⟨p, q, true⟩).length = l.length by simp [HLl.out]]; rfl, by have := HLl.out; simp; omega, by have := HLl.out; simp; omega, Own.of_row' (HO8.out) (by simp [HLl.out]) rfl (fun _ => rfl), (HE.out.1).mono (by omega), HE.out.2⟩
      by_cases hd2 : d = 2
      · subst hd2
        obtain ⟨c0, c1, c2, cz, _, cl6⟩ := owns_cells HO4.out HLl.out.symm hmL
        have HO7 := Lib.hid (owns_field HO4.out HLl.out.symm hmL (j := 2) (by decide) (y := ⟨(nth L m).a, (nth L m).h, false⟩) (v := .bool false) rfl).1
        obtain ⟨ws, hws⟩ : ∃ v, w4.setCell ⟨g, m * 3 + 2, none⟩ (.bool false) = v := ⟨_, rfl⟩
        have HE := Lib.hid (push_end HB4.out HCw4.out HLT.out (show Below w.heap.size w4 ws from hws ▸ (Below.refl _ _).setCell (p := ⟨g, m * 3 + 2, none⟩) hgw _))
        have HO8 := Lib.hid (show ws.ownsRow w.heap.size 33 3 (.slice (some ⟨g, 0, none⟩) l.length c) l.length (((L.set m ⟨(nth L m).a, (nth L m).h, false⟩).map Sup.cells).flatten) by rw [← hws]; exact HO7.out)
        have HWS2 := Lib.hid hws
        clear hws HO7 c0 c1
        go_wp2_with fail
        rw [HWS2.out]
        go_ret
        exact ⟨g, c, L.set m ⟨(nth L m).a, (nth L m).h, false⟩, by rw [show (L.set m ⟨(nth L m).a, (nth L m).h, false⟩).length = l.length by simp [HLl.out]]; rfl, by have := HLl.out; simp; omega, by have := HLl.out; simp; omega, Own.of_row' (HO8.out) (by simp [HLl.out]) rfl (fun _ => rfl), (HE.out.1).mono (by omega), HE.out.2⟩
      by_cases hd3 : d = 3
      · subst hd3
        go_wp2_with fail
        go_loopw [3, 4] (fun v at' wi => ∃ (q : List Sup) (g c : Nat) (x : Int), 1 ≤ q.length ∧ q.length ≤ 9 ∧ v = .slice (some ⟨g, 0, none⟩) q.length c ∧ q.length ≤ c ∧ at' = .int .i64 x ∧ 0 ≤ x ∧ x ≤ 2000 + 50 * q.length ∧ wi.ownsRow w.heap.size 33 3 (.slice (some ⟨g, 0, none⟩) q.length c) q.length ((q.map Sup.cells).flatten) ∧ Cur wi gc (K + 40 + 2 * q.length) ∧ w.grownBy wi (some gc)) (fun v _ _ => match v with | .slice _ n _ => 14 - n | _ => 0)
        case atStart => exact ⟨L, g, c, x, hL1, by have := HLl.out; omega, by rw [HLl.out], by rw [HLl.out]; exact hc, rfl, hx1, by omega, by rw [HLl.out]; exact HO4.out, HCw4.out.mono (by omega), HB4.out⟩
        case round =>
          obtain ⟨q, g, c, x, hq1, hq9, rfl, hc, rfl, hx1, hx2, hown, hcur, hbut⟩ := hrel
          have HO := Lib.hid hown
          have HB := Lib.hid hbut
          have HR := Lib.hid hcur
          clear hown hbut hcur
          go_wp2_with fail
          refine (pick_c 2 gc _ _ HR.out (by omega) (by omega) (by omega)).mono ?_
          rintro e w5 ⟨e2, rfl, e21, e22, hcw5, hgw5⟩
          have HCw5 := Lib.hid hcw5
          have HGw5 := Lib.hid hgw5
          clear hcw5 hgw5
          have HO5 := Lib.hid (owns_grown HO.out HGw5.out HLT.out)
          have HB5 := Lib.hid (but_trans HB.out HGw5.out)
          have z5 := HB5.out.size
          clear HGw5 HO HB HR
          by_cases hlt : (q.length : Int) < 8 + e2
          · have a1 : IntKind.i64.wrap (x + 50) = x + 50 := IntWalk.i64_in _ (by omega)
            go_wp2_with (at_builtin; refine wpList_push2 _ rfl _ _ 24 rfl w.heap.size 33 (.agg #[.int .i64 0, .int .i64 0, .bool false]) 3 24 Tryd.underlying24 info_sup rfl (by decide) (by decide) _ _ _ rfl (HO5.out.alloc _) w5.heap.size (Sup.cells (⟨x + 50, y, true⟩ : Sup)) rfl rfl ?c1 ?c2 ?c3 ?c4 ?_)
            try case c1 =>
              intro j u hj
              match j, hj with
              | 0, hj => simp [Sup.cells] at hj; subst hj; simp [go_sem]
              | 1, hj => simp [Sup.cells] at hj; subst hj; simp [go_sem]
              | 2, hj => simp [Sup.cells] at hj; subst hj; simp [go_sem]
            case c2 => intro u hu; simp [Sup.cells] at hu; rcases hu with rfl | rfl | rfl <;> rfl
            case c3 => omega
            case c4 => first | omega | (simp; omega)
            intro v' w' hown' hb' _
            rw [flat_sup] at hown'
            obtain ⟨e1, e3⟩ := push_end HB5.out HCw5.out HLT.out (((Below.refl _ _).alloc z5 _).trans hb')
            obtain ⟨g8, c8, hv8, hc8⟩ := owns_atU hown' (by omega)
            subst hv8
            have E1 := Lib.hid e1
            have E2 := Lib.hid e3
            have E3 := Lib.hid hown'
            clear e1 e3 hown' hb'
            go_wp2_with fail
            go_roundw
            case rel => exact ⟨q ++ [⟨x + 50, y, true⟩], g8, c8, x + 50, by simp, by simp; omega, by simp, by simpa using hc8, rfl, by omega, by simp; omega, by simpa using E3.out, E1.out.mono (by simp; omega), E2.out⟩
            case measure => simp; omega
          · go_wp2_with fail
            go_ret
            exact ⟨g, c, q, rfl, hc, by omega, Own.of_row' HO5.out rfl rfl (fun _ => rfl), HCw5.out.mono (by omega), HB5.out⟩
      by_cases hd4 : d = 4
      · subst hd4
        have i9 : (1 : Int) ≤ c := by omega
        have HW := Lib.hid (own_head (q := L.take 1) (Own.of_row' (l := L) HO4.out HLl.out.symm rfl (fun _ => rfl)) (by rw [List.length_take]; omega) (fun t ht => by
          rw [List.length_take] at ht
          rw [nth_eq (by rw [List.length_take]; exact ht), nth_eq (by omega)]; simp))
        go_wp2_with fail
        go_ret
        exact ⟨g, c, L.take 1, by rw [show (L.take 1).length = 1 by rw [List.length_take]; omega]; rfl, by rw [List.length_take]; omega, by rw [List.length_take]; omega, HW.out, HCw4.out.mono (by omega), HB4.out⟩
      have e0 : (d == 0) = false := beq_eq_false_iff_ne.2 hd0
      have e1 : (d == 1) = false := beq_eq_false_iff_ne.2 hd1
      have e2 : (d == 2) = false := beq_eq_false_iff_ne.2 hd2
      have e3 : (d == 3) = false := beq_eq_false_iff_ne.2 hd3
      have e4 : (d == 4) = false := beq_eq_false_iff_ne.2 hd4
      clear hd0 hd1 hd2 hd3 hd4
      go_wp2_with fail
      go_ret
      exact ⟨g, c, L, by rw [show (L).length = l.length by simp [HLl.out]]; rfl, by have := HLl.out; simp; omega, by have := HLl.out; simp; omega, Own.of_row' (HO4.out) (by simp [HLl.out]) rfl (fun _ => rfl), (HCw4.out).mono (by omega), HB4.out⟩
    · go_wp2_with fail
      refine (among_c [10, 50, 100, 120, 300, 400] 10 400 gc _ _ _ _ HR.out (by omega) rfl rfl (by decide) (by decide) (by decide)).mono ?_
      rintro e w2 ⟨a, rfl, a1, a2, hcw2, hgw2⟩
      have HCw2 := Lib.hid hcw2
      have HGw2 := Lib.hid hgw2
      clear hcw2 hgw2
      have a1 : IntKind.i64.wrap (x + a) = x + a := IntWalk.i64_in _ (by omega)
      go_wp2_with fail
      refine (among_c [0, 10, 50, 100, 200, -20, -60] (-60) 200 gc _ _ _ _ HCw2.out (by omega) rfl rfl (by decide) (by decide) (by decide)).mono ?_
      rintro e w3 ⟨b, rfl, b1, b2, hcw3, hgw3⟩
      have HCw3 := Lib.hid hcw3
      have HGw3 := Lib.hid hgw3
      clear hcw3 hgw3
      have a2 : IntKind.i64.wrap (y + b) = y + b := IntWalk.i64_in _ (by omega)
      go_wp2_with fail
      refine (l1Most_c 0 (y + b) _).mono ?_
      rintro e w' ⟨rfl, rfl⟩
      obtain ⟨yy, hyy⟩ : ∃ yy, max 0 (y + b) = yy := ⟨_, rfl⟩
      have y1 : 0 ≤ yy ∧ yy ≤ 1200 + 200 * j := by omega
      rw [hyy]
      clear hyy
      go_wp2_with fail
      refine (one_c 4 gc _ _ HCw3.out (by omega) (by omega) (by omega)).mono ?_
      rintro e w4 ⟨s, rfl, hcw4, hgw4⟩
      have HCw4 := Lib.hid hcw4
      have HGw4 := Lib.hid hgw4
      clear hcw4 hgw4
      have HG := Lib.hid (but_trans (but_trans HGw2.out HGw3.out) HGw4.out)
      have HO4 := Lib.hid (owns_grown HO.out HG.out HLT.out)
      have HB4 := Lib.hid (but_trans HB.out HG.out)
      have z4 := HB4.out.size
      clear HG HGw2 HGw3 HGw4 HO HB HR HCw2 HCw3
      go_wp2_with (at_builtin; refine wpList_push2 _ rfl _ _ 24 rfl w.heap.size 33 (.agg #[.int .i64 0, .int .i64 0, .bool false]) 3 24 Tryd.underlying24 info_sup rfl (by decide) (by decide) _ _ _ rfl (HO4.out.alloc _) w4.heap.size (Sup.cells (⟨x + a, yy, s⟩ : Sup)) rfl rfl ?c1 ?c2 ?c3 ?c4 ?_)
      try case c1 =>
        intro j u hj
        match j, hj with
        | 0, hj => simp [Sup.cells] at hj; subst hj; simp [go_sem]
        | 1, hj => simp [Sup.cells] at hj; subst hj; simp [go_sem]
        | 2, hj => simp [Sup.cells] at hj; subst hj; simp [go_sem]
      case c2 => intro u hu; simp [Sup.cells] at hu; rcases hu with rfl | rfl | rfl <;> rfl
      case c3 => omega
      case c4 => first | omega | (simp; omega)
      intro v' w' hown' hb' _
      rw [flat_sup] at hown'
      obtain ⟨e1, e2⟩ := push_end HB4.out HCw4.out HLT.out (((Below.refl _ _).alloc z4 _).trans hb')
      obtain ⟨g8, c8, hv8, hc8⟩ := owns_atU hown' (by omega)
      subst hv8
      have E1 := Lib.hid e1
      have E2 := Lib.hid e2
      have E3 := Lib.hid hown'
      clear e1 e2 hown' hb'
      go_wp2_with fail
      go_roundw
      case rel => exact ⟨l ++ [⟨x + a, yy, s⟩], k, j + 1, g8, c8, x + a, yy, by omega, by simp, by simp; omega, by simp, by simpa using hc8, rfl, by omega, by omega, rfl, by omega, by omega, by go_num, by simpa using E3.out, E1.out.mono (by omega), E2.out⟩
      case measure => simp [intOf]
end Go.Proofs.YtpchcblialkpcaaDoor
