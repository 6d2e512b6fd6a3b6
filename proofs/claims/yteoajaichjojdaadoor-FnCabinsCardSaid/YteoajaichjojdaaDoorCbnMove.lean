/- MoveCabin of the program returns the plain answer; no conditions but the length. -/
import Derived.Test.YteoajaichjojdaaDoorCbnDel
import Derived.Test.YteoajaichjojdaaDoorCbnSum
namespace Go.Proofs.YteoajaichjojdaaDoor
open Go.RowKit Go.Lib

def CbnPost (p : List Cbn × Bool) (w : World) (e : Ending) (w' : World) : Prop := ∃ A cap, e = .returned (.tuple #[.slice A p.1.length cap, .bool p.2]) ∧ Own w' w.heap.size 25 5 Cbn.cells A p.1 ∧ Below w.heap.size w w'
theorem areCabins_n (l : List Cbn) (n : Nat) (A : Option Addr) (cap : Nat) (w : World) (hn : l.length = n) (hl : n ≤ 1048576) (hr : Rd w w.heap.size 5 Cbn.cells A l) :
    Calls Tryd.prog 41 #[.slice A n cap] w fun e w' => e = .returned (.bool (goodC l)) ∧ Below w.heap.size w w' := by
  subst hn
  exact AreCabins_c l A cap w hl hr
theorem canBecome_c (a b : Int) (w : World) : Calls Tryd.prog 42 #[.int .i64 a, .int .i64 b] w fun e w' => e = .returned (.bool (mayC a b)) ∧ w = w' := by
  by_cases b0 : b = 0
  · subst b0
    by_cases a1 : a = 1 <;> by_cases a2 : a = 2
    all_goals
      go_enter Tryd.func42, Tryd.ntmps42
      go_wp2
      go_ret
      exact ⟨retb (by simp [mayC, *]), rfl⟩
  by_cases b1 : b = 1
  · subst b1
    by_cases a1 : a = 0
    all_goals
      go_enter Tryd.func42, Tryd.ntmps42
      go_wp2
      go_ret
      exact ⟨retb (by simp [mayC, *]), rfl⟩
  by_cases b2 : b = 2
  · subst b2
    by_cases a1 : a = 0 <;> by_cases a2 : a = 3
    all_goals
      go_enter Tryd.func42, Tryd.ntmps42
      go_wp2
      go_ret
      exact ⟨retb (by simp [mayC, *]), rfl⟩
  by_cases b3 : b = 3
  · subst b3
    by_cases a1 : a = 3
    all_goals
      go_enter Tryd.func42, Tryd.ntmps42
      go_wp2
      go_ret
      exact ⟨retb (by simp [mayC, *]), rfl⟩
  · go_enter Tryd.func42, Tryd.ntmps42
    go_wp2
    go_ret
    exact ⟨retb (by simp [mayC, *]), rfl⟩
theorem moveClo_c (x : Cbn) (v : Int) (gb : Nat) (w : World) (hb : gb < w.heap.size) (hv : w.cell? ⟨gb, 0, none⟩ = some (.int .i64 v)) : Calls Tryd.prog 40 #[.agg #[.int .i64 x.n, .int .i64 x.s, .int .i64 x.e, .int .i64 x.t, .int .i64 x.r], .pointer (some ⟨gb, 0, none⟩)] w fun e w' => e = .returned (.bool (x.n == v)) ∧ Below w.heap.size w w' := by
  go_enter Tryd.func40, Tryd.ntmps40
  go_wp2_with fail
  go_ret
  exact ⟨rfl, (by repeat (first | (with_reducible exact Below.refl _ _) | ((with_reducible refine alloc_ ?_ ?_); (focus (first | exact Nat.le_refl _ | (simp; done) | (simp; omega) | omega))) | ((with_reducible refine set_ ?_ ?_); (focus (first | exact Nat.le_refl _ | (simp; done) | (simp; omega) | omega))) | (with_reducible refine Below.drew ?_) | ((with_reducible refine after_ ?_ (by assumption) ?_); (rotate_left; (focus (first | exact Nat.le_refl _ | (simp; done) | (simp; omega) | omega))))))⟩
theorem ArrC.setField {w : World} {g : Nat} {o : List Cbn} (h : ArrC w g o) {i j : Nat} (hi : i < o.length) (hj : j < 5) {y : Cbn} {v : Value} (hy : Cbn.cells y = (Cbn.cells (nth o i)).set j v) : ArrC (w.setCell ⟨g, i * 5 + j, none⟩ v) g (o.set i y) := by
  obtain ⟨N, f, hN, hf, hc⟩ := h
  refine ⟨N, _, by simpa using hN, hf.set _ _, fun t ht k u hk hu => ?_⟩
  simp only [List.length_set] at ht
  rw [nth_setC ht] at hu
  by_cases e : i = t
  · subst e
    rw [if_pos rfl, hy] at hu
    by_cases e2 : j = k
    · subst e2
      rw [List.getElem?_set_self (by simpa [Cbn.cells] using hj), Option.some.injEq] at hu
      rw [if_pos rfl, hu]
    · rw [List.getElem?_set_ne e2] at hu
      rw [if_neg (by omega)]; exact hc i hi k u hk hu
  · rw [if_neg e] at hu
    rw [if_neg (by omega)]; exact hc t ht k u hk hu
theorem retlC {p : List Cbn × Bool} {l : List Cbn} {b : Bool} {A : Option Addr} {cap : Nat} (h : p = (l, b)) : Ending.returned (.tuple #[.slice A l.length cap, .bool b]) = .returned (.tuple #[.slice A p.1.length cap, .bool p.2]) := by rw [h]
set_option maxHeartbeats 1600000 in
theorem implMoveCabin_c (l : List Cbn) (b off cap : Nat) (x t : Int) (w : World) (hl : l.length ≤ 1048576) (hr : Rd w w.heap.size 5 Cbn.cells (some ⟨b, off, none⟩) l) :
    Calls Tryd.prog 13 #[.slice (some ⟨b, off, none⟩) l.length cap, .int .i64 x, .int .i64 t] w (CbnPost (moveC l x t) w) := by
  have HR := Lib.hid hr
  clear hr
  go_enter Tryd.func13, Tryd.ntmps13
  go_wp2_with fail
  refine (idxMove_c l _ _ w.heap.size _ (by omega) (HR.out.carry ((Below.refl _ _).alloc (Nat.le_refl _) _)) (fun c => c.n == x) (fun c w' hw => moveClo_c c x _ _ (by have := hw.size; simp at this; omega) ((hw.cell (p := ⟨w.heap.size, 0, none⟩) (by simp)).trans (by simp [go_sem])))).mono ?_
  rintro e w1 ⟨r, rfl, hf, hb1⟩
  have hB1 := hb1
  have HB1 := Lib.hid (show Below w.heap.size w w1 from (by repeat (first | (with_reducible exact Below.refl _ _) | ((with_reducible refine alloc_ ?_ ?_); (focus (first | exact Nat.le_refl _ | (simp; done) | (simp; omega) | omega))) | ((with_reducible refine set_ ?_ ?_); (focus (first | exact Nat.le_refl _ | (simp; done) | (simp; omega) | omega))) | (with_reducible refine Below.drew ?_) | ((with_reducible refine after_ ?_ (by assumption) ?_); (rotate_left; (focus (first | exact Nat.le_refl _ | (simp; done) | (simp; omega) | omega)))))))
  have HR1 := Lib.hid (HR.out.carry HB1.out)
  have z1 := HB1.out.size
  clear hb1 hB1 HR
  have hat : r = atTo l x l.length := by
    rcases hf with ⟨rfl, h⟩ | ⟨k, rfl, h1, h2, h3⟩
    · exact (atTo_none fun j hj => by simpa using h j hj).symm
    · exact (atTo_hit (fun j hj => by simpa using h2 j hj) (by simpa using h3) h1).symm
  have HF := Lib.hid hf
  have HAT := Lib.hid hat
  clear hf hat
  rcases hg : goodC l with _ | _
  · have H := Lib.hid (show moveC l x t = ([], false) by simp [moveC, canMove, hg])
    go_wp2_with fail
    refine (AreCabins_c l _ _ _ hl HR1.out).mono ?_
    rintro e w2 ⟨rfl, hb2⟩
    rw [hg]
    clear hg
    go_wp2_with fail
    go_ret2
    exact ⟨none, 0, retlC H.out, by rw [H.out]; exact Own.nil, HB1.out.trans (hb2.mono z1)⟩
  have hl12 := (goodC_true hg).1
  have HG := Lib.hid hg
  rcases HF.out with ⟨rfl, h⟩ | ⟨k, rfl, h1, h2, h3⟩
  · have H := Lib.hid (show moveC l x t = ([], false) by simp [moveC, canMove, ← HAT.out])
    clear h
    go_wp2_with fail
    refine (AreCabins_c l _ _ _ hl HR1.out).mono ?_
    rintro e w2 ⟨rfl, hb2⟩
    rw [hg]
    clear hg
    go_wp2_with fail
    go_ret2
    exact ⟨none, 0, retlC H.out, by rw [H.out]; exact Own.nil, HB1.out.trans (hb2.mono z1)⟩
  clear h2 h3
  obtain ⟨b', off', he, hb, c0, c1, c2, c3, c4⟩ := Cbn.rd HR1.out h1
  simp only [Option.some.injEq, Addr.mk.injEq, and_true] at he
  obtain ⟨rfl, rfl⟩ := he
  have ha : (atTo l x l.length).toNat = k := by rw [← HAT.out]; rfl
  have i1 : (k : Int) < l.length := by omega
  have i2 : ¬ (k : Int) < 0 := by omega
  rcases hm : mayC (nth l k).t t with _ | _
  · have H := Lib.hid (show moveC l x t = ([], false) by simp [moveC, canMove, ha, hm])
    have HM := Lib.hid hm
    clear ha hm
    go_wp2_with fail
    refine (AreCabins_c l _ _ _ hl HR1.out).mono ?_
    rintro e w2 ⟨rfl, hb2⟩
    rw [hg]
    have d3 := (hb2.cell (p := ⟨b, off + k * 5 + 3, none⟩) hb).trans c3
    clear hg c0 c1 c2 c3 c4
    go_wp2_with fail
    refine (canBecome_c _ _ _).mono ?_
    rintro e w' ⟨rfl, rfl⟩
    rw [HM.out]
    go_wp2_with fail
    go_ret2
    exact ⟨none, 0, retlC H.out, by rw [H.out]; exact Own.nil, HB1.out.trans (hb2.mono z1)⟩
  have HML := Lib.hid (show moveL l x t = l.set k (movedC (nth l k) t) by rw [moveL, ha])
  have HCM := Lib.hid (show canMove l x t = true by simp [canMove, hg, ha, hm, ← HAT.out])
  have HM := Lib.hid hm
  have HOK := Lib.hid (okC_true.1 ((goodC_true hg).2.1 k h1))
  obtain ⟨r1, r2⟩ := HOK.out.2.2.2.2
  clear ha hm
  go_wp2_with fail
  refine (AreCabins_c l _ _ _ hl HR1.out).mono ?_
  rintro e w2 ⟨rfl, hb2⟩
  rw [hg]
  have d3 := (hb2.cell (p := ⟨b, off + k * 5 + 3, none⟩) hb).trans c3
  have HR2 := Lib.hid (HR1.out.carry hb2)
  have HB2 := Lib.hid (HB1.out.trans (hb2.mono z1))
  clear hg c0 c1 c2 c3 c4 hb2
  go_wp2_with fail
  refine (canBecome_c _ _ _).mono ?_
  rintro e w' ⟨rfl, rfl⟩
  rw [HM.out]
  clear d3
  go_wp2_with fail
  refine (cloneC_c l b off _ _ (by omega) HR2.out).mono ?_
  rintro e w3 ⟨g, gc, rfl, hgc, hg0, harr, hb3⟩
  obtain ⟨c0, c1, c2, c3, c4⟩ := harr.cell h1
  have glt := harr.lt
  have hz := harr.frozen
  have z2 := HB2.out.size
  have HA3 := Lib.hid harr
  have HB3 := Lib.hid (HB2.out.trans (hb3.mono z2))
  have hgw : w.heap.size ≤ g := by omega
  clear harr hb3
  obtain ⟨y, hy⟩ : ∃ y, nth l k = y := ⟨_, rfl⟩
  rw [hy] at c0 c1 c2 c3 c4 HML HOK r1 r2
  have HY := Lib.hid hy
  clear hy
  by_cases hcase : y.t = 1 ∧ t = 0
  · obtain ⟨e1, e2⟩ := hcase
    have e1' : (y.t == 1) = true := by simp [e1]
    have e2' : (t == 0) = true := by simp [e2]
    have HN := Lib.hid (show ArrC ((w3.setCell ⟨g, k * 5 + 4, none⟩ (.int .i64 (y.r + 1))).setCell ⟨g, k * 5 + 3, none⟩ (.int .i64 t)) g (l.set k (movedC y t)) by
      have h5 := HA3.out.setField (i := k) (j := 4) (y := ⟨y.n, y.s, y.e, y.t, y.r + 1⟩) (v := .int .i64 (y.r + 1)) h1 (by decide) (by rw [HY.out]; rfl)
      have h6 := h5.setField (i := k) (j := 3) (y := movedC y t) (v := .int .i64 t) (by simpa using h1) (by decide) (by rw [nth_setC h1, if_pos rfl]; simp [movedC, e1, e2, Cbn.cells])
      rwa [List.set_set] at h6)
    have HGR := Lib.hid (show Below w.heap.size w ((w3.setCell ⟨g, k * 5 + 4, none⟩ (.int .i64 (y.r + 1))).setCell ⟨g, k * 5 + 3, none⟩ (.int .i64 t)) from (HB3.out.setCell hgw _).setCell hgw _)
    clear e1 e2
    go_wp2_with fail
    obtain ⟨w4, hw4⟩ : ∃ w4, (w3.setCell ⟨g, k * 5 + 4, none⟩ (.int .i64 (y.r + 1))).setCell ⟨g, k * 5 + 3, none⟩ (.int .i64 t) = w4 := ⟨_, rfl⟩
    rw [hw4] at HN HGR ⊢
    clear hw4 c0 c1 c2 c3 c4 hz
    refine (areCabins_n (l.set k (movedC y t)) l.length _ _ _ (List.length_set ..) hl HN.out.rd).mono ?_
    rintro e w5 ⟨rfl, hb5⟩
    have HN5 := Lib.hid (HN.out.carry hb5)
    have HG5 := Lib.hid (HGR.out.trans (hb5.mono HGR.out.size))
    clear hb5
    rcases hgd : goodC (l.set k (movedC y t)) with _ | _
    · have H := Lib.hid (show moveC l x t = ([], false) by simp [moveC, HCM.out, HML.out, hgd])
      clear hgd
      go_wp2_with fail
      go_ret2
      exact ⟨none, 0, retlC H.out, by rw [H.out]; exact Own.nil, HG5.out⟩
    · have H := Lib.hid (show moveC l x t = (l.set k (movedC y t), true) by simp [moveC, HCM.out, HML.out, hgd])
      clear hgd
      go_wp2_with fail
      go_ret2
      exact ⟨some ⟨g, 0, none⟩, gc, by rw [H.out]; simp, by rw [H.out]; exact HN5.out.own hgw, HG5.out⟩
  · have hx : (y.t == 1 && t == 0) = false := by
      rcases h : (y.t == 1 && t == 0) with _ | _
      · rfl
      · simp at h; exact absurd h hcase
    have HN := Lib.hid (show ArrC (w3.setCell ⟨g, k * 5 + 3, none⟩ (.int .i64 t)) g (l.set k (movedC y t)) by
      have h6 := HA3.out.setField (i := k) (j := 3) (y := movedC y t) (v := .int .i64 t) h1 (by decide) (by rw [HY.out]; simp [movedC, hcase, Cbn.cells])
      exact h6)
    have HGR := Lib.hid (show Below w.heap.size w (w3.setCell ⟨g, k * 5 + 3, none⟩ (.int .i64 t)) from HB3.out.setCell hgw _)
    by_cases e1 : y.t = 1
    · have e1' : (y.t == 1) = true := by simp [e1]
      have e2' : (t == 0) = false := by rw [beq_eq_false_iff_ne]; exact fun q => hcase ⟨e1, q⟩
      clear hcase hx e1
      go_wp2_with fail
      obtain ⟨w4, hw4⟩ : ∃ w4, w3.setCell ⟨g, k * 5 + 3, none⟩ (.int .i64 t) = w4 := ⟨_, rfl⟩
      rw [hw4] at HN HGR ⊢
      clear hw4 c0 c1 c2 c3 c4 hz
      refine (areCabins_n (l.set k (movedC y t)) l.length _ _ _ (List.length_set ..) hl HN.out.rd).mono ?_
      rintro e w5 ⟨rfl, hb5⟩
      have HN5 := Lib.hid (HN.out.carry hb5)
      have HG5 := Lib.hid (HGR.out.trans (hb5.mono HGR.out.size))
      clear hb5
      rcases hgd : goodC (l.set k (movedC y t)) with _ | _
      · have H := Lib.hid (show moveC l x t = ([], false) by simp [moveC, HCM.out, HML.out, hgd])
        clear hgd
        go_wp2_with fail
        go_ret2
        exact ⟨none, 0, retlC H.out, by rw [H.out]; exact Own.nil, HG5.out⟩
      · have H := Lib.hid (show moveC l x t = (l.set k (movedC y t), true) by simp [moveC, HCM.out, HML.out, hgd])
        clear hgd
        go_wp2_with fail
        go_ret2
        exact ⟨some ⟨g, 0, none⟩, gc, by rw [H.out]; simp, by rw [H.out]; exact HN5.out.own hgw, HG5.out⟩
    · have e1' : (y.t == 1) = false := by rw [beq_eq_false_iff_ne]; exact e1
      clear hcase hx e1
      go_wp2_with fail
      obtain ⟨w4, hw4⟩ : ∃ w4, w3.setCell ⟨g, k * 5 + 3, none⟩ (.int .i64 t) = w4 := ⟨_, rfl⟩
      rw [hw4] at HN HGR ⊢
      clear hw4 c0 c1 c2 c3 c4 hz
      refine (areCabins_n (l.set k (movedC y t)) l.length _ _ _ (List.length_set ..) hl HN.out.rd).mono ?_
      rintro e w5 ⟨rfl, hb5⟩
      have HN5 := Lib.hid (HN.out.carry hb5)
      have HG5 := Lib.hid (HGR.out.trans (hb5.mono HGR.out.size))
      clear hb5
      rcases hgd : goodC (l.set k (movedC y t)) with _ | _
      · have H := Lib.hid (show moveC l x t = ([], false) by simp [moveC, HCM.out, HML.out, hgd])
        clear hgd
        go_wp2_with fail
        go_ret2
        exact ⟨none, 0, retlC H.out, by rw [H.out]; exact Own.nil, HG5.out⟩
      · have H := Lib.hid (show moveC l x t = (l.set k (movedC y t), true) by simp [moveC, HCM.out, HML.out, hgd])
        clear hgd
        go_wp2_with fail
        go_ret2
        exact ⟨some ⟨g, 0, none⟩, gc, by rw [H.out]; simp, by rw [H.out]; exact HN5.out.own hgw, HG5.out⟩
end Go.Proofs.YteoajaichjojdaaDoor
