/- slices.Reverse at supports: the list reversed in its own block; no conditions but the length. -/
import Derived.Test.YtpchcblialkpcaaDoorSupArr
import Derived.Test.YtpchcblialkpcaaDoorRelyC
namespace Go.Proofs.YtpchcblialkpcaaDoor
open Go.RowKit
theorem grown_putsU {w wr : World} {g : Nat} : ∀ (vs : List Value) (s : Nat), w.grownBy wr (some g) → w.grownBy (puts wr g s vs) (some g)
  | [], _, h => h
  | _ :: vs, s, h => grown_putsU vs (s + 1) (grown_set h)
theorem grown_of_belowU {w w' : World} {r : Option Nat} (h : Below w.heap.size w w') : w.grownBy w' r := ⟨h.os, h.tape, h.output, h.size, fun i hi _ => h.block i hi⟩
/-- The first k and the last k elements are exchanged. -/
def HalfRev (o cur : List Sup) (k : Nat) : Prop := cur.length = o.length ∧ ∀ t, t < o.length → nth cur t = if t < k ∨ o.length - k ≤ t then nth o (o.length - 1 - t) else nth o t
theorem HalfRev.done {o cur : List Sup} {k : Nat} (h : HalfRev o cur k) (hk : o.length ≤ 2 * k + 1) : cur = o.reverse := by
  apply List.ext_getElem (by rw [h.1]; simp)
  intro i h1 h2
  have hi : i < o.length := by rw [← h.1]; exact h1
  have := h.2 i hi
  rw [nth_eq h1] at this
  rw [this]
  have hr : o.reverse[i] = nth o (o.length - 1 - i) := by rw [nth_eq (by omega)]; simp
  rw [hr]
  split
  · rfl
  · rw [show o.length - 1 - i = i by omega]
theorem HalfRev.step {o cur : List Sup} {k m : Nat} (h : HalfRev o cur k) (hm : m + k + 1 = o.length) (hlt : k < m) : HalfRev o ((cur.set k (nth cur m)).set m (nth cur k)) (k + 1) := by
  refine ⟨by simp [h.1], fun t ht => ?_⟩
  have hcl := h.1
  rw [nth_setU (by rw [List.length_set]; omega), nth_setU (by omega)]
  have hk := h.2 k (by omega)
  have hmm := h.2 m (by omega)
  rw [if_neg (by omega)] at hk hmm
  by_cases e1 : m = t
  · subst e1
    rw [if_pos rfl, if_pos (by omega), hk]
    congr 1; omega
  · rw [if_neg e1]
    by_cases e2 : k = t
    · subst e2
      rw [if_pos rfl, if_pos (by omega), hmm]
      congr 1; omega
    · rw [if_neg e2, h.2 t ht]
      by_cases e3 : t < k ∨ o.length - k ≤ t
      · rw [if_pos e3, if_pos (by omega)]
      · rw [if_neg e3, if_neg (by omega)]
/-- What the operations of an exchange give. -/
def revV (g n cap k m : Nat) (x y : Sup) (i : Nat) (v : Value) : Prop := match i with
  | 0 => v = .slice (some ⟨g, 0, none⟩) n cap
  | 1 => v = .int .i64 (k : Int)
  | 2 => v = .slice (some ⟨g, 0, none⟩) n cap
  | 3 => v = .int .i64 (m : Int)
  | 4 => v = .slice (some ⟨g, 0, none⟩) n cap
  | 5 => v = .int .i64 (m : Int)
  | 6 => v = .pointer (some ⟨g, m * 3, none⟩)
  | 7 => v = .agg #[.int .i64 y.a, .int .i64 y.h, .bool y.s]
  | 8 => v = .slice (some ⟨g, 0, none⟩) n cap
  | 9 => v = .int .i64 (k : Int)
  | 10 => v = .pointer (some ⟨g, k * 3, none⟩)
  | 11 => v = .agg #[.int .i64 x.a, .int .i64 x.h, .bool x.s]
  | 12 => v = .pointer (some ⟨g, k * 3, none⟩)
  | 14 => v = .pointer (some ⟨g, m * 3, none⟩)
  | _ => True

set_option maxHeartbeats 3200000 in
theorem reverseU_c (o : List Sup) (g cap : Nat) (w : World) (h2 : 2 ≤ o.length) (hl : o.length ≤ 1000) (ha : ArrU w g o) :
    Calls Tryd.prog 20 #[.slice (some ⟨g, 0, none⟩) o.length cap] w fun e w' => e = .returned (.tuple #[]) ∧ ArrU w' g o.reverse ∧ w.grownBy w' (some g) := by
  have HA0 := Lib.hid ha
  clear ha
  obtain ⟨m0, hm0⟩ : ∃ m, o.length = m + 1 := ⟨o.length - 1, by omega⟩
  have a1 : IntKind.i64.wrap ((o.length : Int) - 1) = (m0 : Int) := by rw [show (o.length : Int) - 1 = m0 by omega]; exact IntWalk.i64_in _ (by omega)
  have HM0 := Lib.hid hm0
  clear hm0
  go_enter Tryd.func20, Tryd.ntmps20
  go_wp2_with fail
  go_loopw [2, 3] (fun i j wr => ∃ (k m : Nat) (cur : List Sup), m + k + 1 = o.length ∧ k ≤ m + 1 ∧ i = .int .i64 k ∧ j = .int .i64 m ∧ HalfRev o cur k ∧ ArrU wr g cur ∧ w.grownBy wr (some g)) (fun i j _ => (intOf j + 1 - intOf i).toNat)
  case atStart => exact ⟨0, m0, o, by rw [HM0.out], by omega, rfl, rfl, ⟨rfl, fun t ht => by rw [if_neg (by omega)]⟩, HA0.out, World.grownBy.refl _ _⟩
  case round =>
    obtain ⟨k, m, cur, hkm, hk2, rfl, rfl, hhalf, harr, hgr⟩ := hrel
    have HH := Lib.hid hhalf
    have HA3 := Lib.hid harr
    have HG := Lib.hid hgr
    have hcl := hhalf.1
    clear hgr hhalf
    by_cases hlt : k < m
    · obtain ⟨e0, e1, e2⟩ := harr.cell (i := k) (by omega)
      obtain ⟨d0, d1, d2⟩ := harr.cell (i := m) (by omega)
      have dz := harr.frozen
      have hglt := harr.lt
      obtain ⟨x, hx⟩ : ∃ x, nth cur k = x := ⟨_, rfl⟩
      obtain ⟨y, hy⟩ : ∃ y, nth cur m = y := ⟨_, rfl⟩
      have HST := Lib.hid (HH.out.step hkm hlt)
      rw [hx] at e0 e1 e2 HST
      rw [hy] at d0 d1 d2 HST
      have HYM := Lib.hid hy
      have i1 : (k : Int) < m := by omega
      have i2 : (k : Int) < o.length := by omega
      have i3 : (m : Int) < o.length := by omega
      have i4 : (0 : Int) ≤ (k : Int) := by omega
      have i5 : (0 : Int) ≤ (m : Int) := by omega
      have a2 : IntKind.i64.wrap ((k : Int) + 1) = (k : Int) + 1 := IntWalk.i64_in _ (by omega)
      have a3 : IntKind.i64.wrap ((m : Int) - 1) = (m : Int) - 1 := IntWalk.i64_in _ (by omega)
      clear harr hx hy
      go_wp2_with fail
      obtain ⟨wd, hwd⟩ : ∃ wd, wd = wr.drew := ⟨_, rfl⟩
      have d0' := (congrArg (fun w => World.cell? w _) hwd).trans d0
      have d1' := (congrArg (fun w => World.cell? w _) hwd).trans d1
      have d2' := (congrArg (fun w => World.cell? w _) hwd).trans d2
      have e0' := (congrArg (fun w => World.cell? w _) hwd).trans e0
      have e1' := (congrArg (fun w => World.cell? w _) hwd).trans e1
      have e2' := (congrArg (fun w => World.cell? w _) hwd).trans e2
      have dz' : ∀ i, wd.frozen? ⟨g, i, none⟩ = false := fun i => by rw [hwd]; exact dz i
      have HWD := Lib.hid hwd
      have hAm := (HA3.out.keep (w' := wd) (by rw [hwd]; rfl)).put k y
      have hAn := hAm.cell (i := m) (by rw [List.length_set]; omega)
      rw [nth_setU (by omega), if_neg (show ¬ k = m by omega), HYM.out] at hAn
      have HM0 := Lib.hid hAn.1
      have HM1 := Lib.hid hAn.2.1
      have HM2 := Lib.hid hAn.2.2
      have HMZ := Lib.hid hAm.frozen
      clear hAm hAn
      clear d0 d1 d2 e0 e1 e2 dz
      have hst : SwapJ 7 11 13 15 wd (puts wd g (k * 3) (Sup.cells y)) (puts (puts wd g (k * 3) (Sup.cells y)) g (m * 3) (Sup.cells x)) (Array.replicate 16 false) wr.drew := by rw [← hwd]; exact SwapJ.start
      clear hwd
      refine wp_region_relyC (revV g o.length cap k m x y) (fun L _ w => SwapJ 7 11 13 15 wd (puts wd g (k * 3) (Sup.cells y)) (puts (puts wd g (k * 3) (Sup.cells y)) g (m * 3) (Sup.cells x)) L w) (by kernel_rfl) (by kernel_rfl) hst ⟨?_, ?_, ?_, ?_, ?_, ?_, ?_, ?_, ?_, ?_, ?_, ?_, ?_, ?_, ?_, ?_, trivial⟩ ?_
      · intro L a' w' hs hsz hl hj hf hd KK hK
        have HJ := Lib.hid hj
        have e100 : a'.tmps[0]?.getD undef = .slice (some ⟨g, 0, none⟩) o.length cap := by simpa [Act.eval] using hf 0 (unwritten_of (by kernel_rfl))
        clear hf hd hj hs hl hsz
        go_simp
        exact hK _ _ rfl (HJ.out.put (by decide) (by decide))
      · intro L a' w' hs hsz hl hj hf hd KK hK
        have HJ := Lib.hid hj
        have e102 : a'.tmps[2]?.getD undef = .int .i64 (k : Int) := by simpa [Act.eval] using hf 2 (unwritten_of (by kernel_rfl))
        clear hf hd hj hs hl hsz
        go_simp
        exact hK _ _ rfl (HJ.out.put (by decide) (by decide))
      · intro L a' w' hs hsz hl hj hf hd KK hK
        have HJ := Lib.hid hj
        have e100 : a'.tmps[0]?.getD undef = .slice (some ⟨g, 0, none⟩) o.length cap := by simpa [Act.eval] using hf 0 (unwritten_of (by kernel_rfl))
        clear hf hd hj hs hl hsz
        go_simp
        exact hK _ _ rfl (HJ.out.put (by decide) (by decide))
      · intro L a' w' hs hsz hl hj hf hd KK hK
        have HJ := Lib.hid hj
        have e103 : a'.tmps[3]?.getD undef = .int .i64 (m : Int) := by simpa [Act.eval] using hf 3 (unwritten_of (by kernel_rfl))
        clear hf hd hj hs hl hsz
        go_simp
        exact hK _ _ rfl (HJ.out.put (by decide) (by decide))
      · intro L a' w' hs hsz hl hj hf hd KK hK
        have HJ := Lib.hid hj
        have e100 : a'.tmps[0]?.getD undef = .slice (some ⟨g, 0, none⟩) o.length cap := by simpa [Act.eval] using hf 0 (unwritten_of (by kernel_rfl))
        clear hf hd hj hs hl hsz
        go_simp
        exact hK _ _ rfl (HJ.out.put (by decide) (by decide))
      · intro L a' w' hs hsz hl hj hf hd KK hK
        have HJ := Lib.hid hj
        have e103 : a'.tmps[3]?.getD undef = .int .i64 (m : Int) := by simpa [Act.eval] using hf 3 (unwritten_of (by kernel_rfl))
        clear hf hd hj hs hl hsz
        go_simp
        exact hK _ _ rfl (HJ.out.put (by decide) (by decide))
      · intro L a' w' hs hsz hl hj hf hd KK hK
        have HJ := Lib.hid hj
        have e18 : revV g o.length cap k m x y 4 (a'.tmps[18]?.getD undef) := by simpa [Act.eval] using (relyC_dep hd 4 (by kernel_rfl)).2 18 (by kernel_rfl)
        simp only [revV] at e18
        have e19 : revV g o.length cap k m x y 5 (a'.tmps[19]?.getD undef) := by simpa [Act.eval] using (relyC_dep hd 5 (by kernel_rfl)).2 19 (by kernel_rfl)
        simp only [revV] at e19
        clear hf hd hj hs hl hsz
        go_simp
        exact hK _ _ rfl (HJ.out.put (by decide) (by decide))
      · intro L a' w' hs hsz hl hj hf hd KK hK
        have HJ := Lib.hid hj
        have e20 : revV g o.length cap k m x y 6 (a'.tmps[20]?.getD undef) := by simpa [Act.eval] using (relyC_dep hd 6 (by kernel_rfl)).2 20 (by kernel_rfl)
        simp only [revV] at e20
        obtain rfl := HJ.out.none (.inl hl)
        clear hf hd hj hs hl hsz
        go_simp
        exact hK _ _ rfl (HJ.out.put (by decide) (by decide))
      · intro L a' w' hs hsz hl hj hf hd KK hK
        have HJ := Lib.hid hj
        have e100 : a'.tmps[0]?.getD undef = .slice (some ⟨g, 0, none⟩) o.length cap := by simpa [Act.eval] using hf 0 (unwritten_of (by kernel_rfl))
        clear hf hd hj hs hl hsz
        go_simp
        exact hK _ _ rfl (HJ.out.put (by decide) (by decide))
      · intro L a' w' hs hsz hl hj hf hd KK hK
        have HJ := Lib.hid hj
        have e102 : a'.tmps[2]?.getD undef = .int .i64 (k : Int) := by simpa [Act.eval] using hf 2 (unwritten_of (by kernel_rfl))
        clear hf hd hj hs hl hsz
        go_simp
        exact hK _ _ rfl (HJ.out.put (by decide) (by decide))
      · intro L a' w' hs hsz hl hj hf hd KK hK
        have HJ := Lib.hid hj
        have e22 : revV g o.length cap k m x y 8 (a'.tmps[22]?.getD undef) := by simpa [Act.eval] using (relyC_dep hd 8 (by kernel_rfl)).2 22 (by kernel_rfl)
        simp only [revV] at e22
        have e23 : revV g o.length cap k m x y 9 (a'.tmps[23]?.getD undef) := by simpa [Act.eval] using (relyC_dep hd 9 (by kernel_rfl)).2 23 (by kernel_rfl)
        simp only [revV] at e23
        clear hf hd hj hs hl hsz
        go_simp
        exact hK _ _ rfl (HJ.out.put (by decide) (by decide))
      · intro L a' w' hs hsz hl hj hf hd KK hK
        have HJ := Lib.hid hj
        have e24 : revV g o.length cap k m x y 10 (a'.tmps[24]?.getD undef) := by simpa [Act.eval] using (relyC_dep hd 10 (by kernel_rfl)).2 24 (by kernel_rfl)
        simp only [revV] at e24
        obtain rfl := HJ.out.none (.inr (.inl hl))
        clear hf hd hj hs hl hsz
        go_simp
        exact hK _ _ rfl (HJ.out.put (by decide) (by decide))
      · intro L a' w' hs hsz hl hj hf hd KK hK
        have HJ := Lib.hid hj
        have e14 : revV g o.length cap k m x y 0 (a'.tmps[14]?.getD undef) := by simpa [Act.eval] using (relyC_dep hd 0 (by kernel_rfl)).2 14 (by kernel_rfl)
        simp only [revV] at e14
        have e15 : revV g o.length cap k m x y 1 (a'.tmps[15]?.getD undef) := by simpa [Act.eval] using (relyC_dep hd 1 (by kernel_rfl)).2 15 (by kernel_rfl)
        simp only [revV] at e15
        clear hf hd hj hs hl hsz
        go_simp
        exact hK _ _ rfl (HJ.out.put (by decide) (by decide))
      · intro L a' w' hs hsz hl hj hf hd KK hK
        have HJ := Lib.hid hj
        have e26 : revV g o.length cap k m x y 12 (a'.tmps[26]?.getD undef) := by simpa [Act.eval] using (relyC_dep hd 12 (by kernel_rfl)).2 26 (by kernel_rfl)
        simp only [revV] at e26
        have e21 : revV g o.length cap k m x y 7 (a'.tmps[21]?.getD undef) := by simpa [Act.eval] using (relyC_dep hd 7 (by kernel_rfl)).2 21 (by kernel_rfl)
        simp only [revV] at e21
        obtain rfl := HJ.out.none (.inr (.inr hl))
        have HN := Lib.hid (HJ.out.one hl (relyC_dep hd 7 (by kernel_rfl)).1 (relyC_dep hd 11 (by kernel_rfl)).1 (by decide) (by decide) (by decide))
        clear hf hd hj hs hl hsz
        go_simp
        exact hK (.bool false) _ trivial HN.out
      · intro L a' w' hs hsz hl hj hf hd KK hK
        have HJ := Lib.hid hj
        have e16 : revV g o.length cap k m x y 2 (a'.tmps[16]?.getD undef) := by simpa [Act.eval] using (relyC_dep hd 2 (by kernel_rfl)).2 16 (by kernel_rfl)
        simp only [revV] at e16
        have e17 : revV g o.length cap k m x y 3 (a'.tmps[17]?.getD undef) := by simpa [Act.eval] using (relyC_dep hd 3 (by kernel_rfl)).2 17 (by kernel_rfl)
        simp only [revV] at e17
        clear hf hd hj hs hl hsz
        go_simp
        exact hK _ _ rfl (HJ.out.put (by decide) (by decide))
      · intro L a' w' hs hsz hl hj hf hd KK hK
        have HJ := Lib.hid hj
        have e27 : revV g o.length cap k m x y 14 (a'.tmps[27]?.getD undef) := by simpa [Act.eval] using (relyC_dep hd 14 (by kernel_rfl)).2 27 (by kernel_rfl)
        simp only [revV] at e27
        have e25 : revV g o.length cap k m x y 11 (a'.tmps[25]?.getD undef) := by simpa [Act.eval] using (relyC_dep hd 11 (by kernel_rfl)).2 25 (by kernel_rfl)
        simp only [revV] at e25
        obtain rfl := HJ.out.mid hl (relyC_dep hd 13 (by kernel_rfl)).1
        have HN := Lib.hid (HJ.out.two hl (relyC_dep hd 13 (by kernel_rfl)).1 (by decide) (by decide) (by decide))
        obtain ⟨wm, hwm⟩ : ∃ wm, wm = (puts wd g (k * 3) (Sup.cells y)) := ⟨_, rfl⟩
        have m0 : wm.cell? ⟨g, m * 3, none⟩ = some (.int .i64 y.a) := by rw [hwm]; exact HM0.out
        have m1 : wm.cell? ⟨g, m * 3 + 1, none⟩ = some (.int .i64 y.h) := by rw [hwm]; exact HM1.out
        have m2 : wm.cell? ⟨g, m * 3 + 2, none⟩ = some (.bool y.s) := by rw [hwm]; exact HM2.out
        have mz : ∀ i, wm.frozen? ⟨g, i, none⟩ = false := fun i => by rw [hwm]; exact HMZ.out i
        have HWM := Lib.hid hwm
        rw [← hwm]
        clear hwm HJ hf hd hj hs hl hsz
        go_simp
        exact hK (.bool false) _ trivial (by rw [HWM.out]; exact HN.out)
      intro L a' w' hj hL hsz hdf hfr hvs
      obtain rfl := hj.done hL (by decide)
      obtain ⟨tm, df⟩ := a'
      obtain ⟨ts, rfl⟩ : ∃ ts : List Value, tm = ts.toArray := ⟨tm.toList, by simp⟩
      simp only at hdf
      subst hdf
      have hlen : ts.length = 28 := by simpa using hsz
      have f0 := hfr 0 (unwritten_of (by kernel_rfl))
      have f1 := hfr 1 (unwritten_of (by kernel_rfl))
      have f2 := hfr 2 (unwritten_of (by kernel_rfl))
      have f3 := hfr 3 (unwritten_of (by kernel_rfl))
      have f4 := hfr 4 (unwritten_of (by kernel_rfl))
      have f5 := hfr 5 (unwritten_of (by kernel_rfl))
      have f6 := hfr 6 (unwritten_of (by kernel_rfl))
      have f7 := hfr 7 (unwritten_of (by kernel_rfl))
      have f8 := hfr 8 (unwritten_of (by kernel_rfl))
      have f9 := hfr 9 (unwritten_of (by kernel_rfl))
      have f10 := hfr 10 (unwritten_of (by kernel_rfl))
      have f11 := hfr 11 (unwritten_of (by kernel_rfl))
      have f12 := hfr 12 (unwritten_of (by kernel_rfl))
      have f13 := hfr 13 (unwritten_of (by kernel_rfl))
      clear hfr hvs hsz hj hL
      rcases ts with _ | ⟨y0, ts⟩
      · simp at hlen
      rcases ts with _ | ⟨y1, ts⟩
      · simp at hlen
      rcases ts with _ | ⟨y2, ts⟩
      · simp at hlen
      rcases ts with _ | ⟨y3, ts⟩
      · simp at hlen
      rcases ts with _ | ⟨y4, ts⟩
      · simp at hlen
      rcases ts with _ | ⟨y5, ts⟩
      · simp at hlen
      rcases ts with _ | ⟨y6, ts⟩
      · simp at hlen
      rcases ts with _ | ⟨y7, ts⟩
      · simp at hlen
      rcases ts with _ | ⟨y8, ts⟩
      · simp at hlen
      rcases ts with _ | ⟨y9, ts⟩
      · simp at hlen
      rcases ts with _ | ⟨y10, ts⟩
      · simp at hlen
      rcases ts with _ | ⟨y11, ts⟩
      · simp at hlen
      rcases ts with _ | ⟨y12, ts⟩
      · simp at hlen
      rcases ts with _ | ⟨y13, ts⟩
      · simp at hlen
      rcases ts with _ | ⟨y14, ts⟩
      · simp at hlen
      rcases ts with _ | ⟨y15, ts⟩
      · simp at hlen
      rcases ts with _ | ⟨y16, ts⟩
      · simp at hlen
      rcases ts with _ | ⟨y17, ts⟩
      · simp at hlen
      rcases ts with _ | ⟨y18, ts⟩
      · simp at hlen
      rcases ts with _ | ⟨y19, ts⟩
      · simp at hlen
      rcases ts with _ | ⟨y20, ts⟩
      · simp at hlen
      rcases ts with _ | ⟨y21, ts⟩
      · simp at hlen
      rcases ts with _ | ⟨y22, ts⟩
      · simp at hlen
      rcases ts with _ | ⟨y23, ts⟩
      · simp at hlen
      rcases ts with _ | ⟨y24, ts⟩
      · simp at hlen
      rcases ts with _ | ⟨y25, ts⟩
      · simp at hlen
      rcases ts with _ | ⟨y26, ts⟩
      · simp at hlen
      rcases ts with _ | ⟨y27, ts⟩
      · simp at hlen
      obtain rfl : ts = [] := List.eq_nil_of_length_eq_zero (by simpa using hlen)
      simp only [Act.eval, Array.getD_eq_getD_getElem?, List.getElem?_toArray, List.getElem?_cons_succ, List.getElem?_cons_zero, Option.getD_some] at f0 f1 f2 f3 f4 f5 f6 f7 f8 f9 f10 f11 f12 f13
      subst f0 f1 f2 f3 f4 f5 f6 f7 f8 f9 f10 f11 f12 f13
      clear hlen
      go_wp2_with fail
      go_roundw
      case rel => exact ⟨k + 1, m - 1, (cur.set k y).set m x, by omega, by omega, by go_num, by first | go_num | (congr 1; omega), HST.out, ((HA3.out.put k y).put m x).keep (by rw [HWD.out]; rfl), by
        rw [HWD.out]
        exact grown_putsU _ _ (grown_putsU _ _ (HG.out.trans (grown_of_belowU (Below.refl _ _).drew)))⟩
      case measure => simp [intOf]; omega
    · have i1 : ¬ (k : Int) < m := by omega
      have HE := Lib.hid (HH.out.done (by omega))
      clear harr
      go_wp2_with fail
      go_end0
      exact ⟨rfl, by rw [← HE.out]; exact HA3.out, HG.out⟩
end Go.Proofs.YtpchcblialkpcaaDoor
