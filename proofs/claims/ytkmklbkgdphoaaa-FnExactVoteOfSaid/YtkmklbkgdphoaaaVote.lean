/- The vote of sensors: the program's way returns the plain answer; no conditions but the length. -/
import Derived.Test.YtkmklbkgdphoaaaSort
import Derived.Test.YtkmklbkgdphoaaaAllIn
import Derived.Test.YtkmklbkgdphoaaaFlat
import Derived.WalkSpells
import Derived.Lib.SliceRun
namespace Go.Proofs.Ytkmklbkgdphoaaa
open Go.RowKit Go.Lib

def posL (o : List Int) : List Int := o.filter fun v => decide (0 ≤ v)
theorem posL_le (o : List Int) : (posL o).length ≤ o.length := List.length_filter_le _ _
theorem take_snocI {o : List Int} {k : Nat} (hk : k < o.length) : o.take (k + 1) = o.take k ++ [nth o k] := by rw [List.take_succ_eq_append_getElem hk, nth_eq hk]
theorem posL_yes {o : List Int} {k : Nat} (hk : k < o.length) (h : 0 ≤ nth o k) : posL (o.take (k + 1)) = posL (o.take k) ++ [nth o k] := by
  rw [take_snocI hk]; simp [posL, List.filter_append, h]
theorem posL_no {o : List Int} {k : Nat} (hk : k < o.length) (h : ¬ 0 ≤ nth o k) : posL (o.take (k + 1)) = posL (o.take k) := by
  rw [take_snocI hk]; simp [posL, List.filter_append, h]
theorem posL_all {o : List Int} (h : ∀ j, j < o.length → 0 ≤ nth o j) : posL o = o := by
  unfold posL; rw [List.filter_eq_self]
  intro x hx
  obtain ⟨j, hj, rfl⟩ := List.getElem_of_mem hx
  have := h j hj
  rw [nth_eq hj] at this
  exact decide_eq_true this
theorem posL_take {o : List Int} : ∀ {k : Nat}, k ≤ o.length → (∀ j, j < k → 0 ≤ nth o j) → posL (o.take k) = o.take k
  | k, hk, h => posL_all fun j hj => by
    have hj2 : j < k := by simp at hj; omega
    rw [nth_take hj2]; exact h j hj2
theorem neg_c (v : Int) (w : World) : Calls Try.prog 23 #[.int .i64 v] w fun e w' => e = .returned (.bool (decide (v < 0))) ∧ w = w' := by
  go_enter Try.func23, Try.ntmps23
  go_wp2_with fail
  go_ret
  exact ⟨rfl, rfl⟩
def FirstNeg (o : List Int) (w : World) (e : Ending) (w' : World) : Prop := ∃ r : Int, e = .returned (.int .i64 r) ∧ ((r = -1 ∧ ∀ j, j < o.length → 0 ≤ nth o j) ∨ ∃ k : Nat, r = k ∧ k < o.length ∧ (∀ j, j < k → 0 ≤ nth o j) ∧ nth o k < 0) ∧ w = w'
theorem indexNeg_c (o : List Int) (A : Option Addr) (cap : Nat) (w : World) (hl : o.length ≤ 1048576) (hr : Rd w w.heap.size 1 intCells A o) :
    Calls Try.prog 25 #[.slice A o.length cap, .func (.func 23) #[] #[]] w (FirstNeg o w) := by
  go_enter Try.func25, Try.ntmps25
  go_wp2_with fail
  go_loop [5, 8] (fun _ i => ∃ k : Nat, k ≤ o.length ∧ i = .int .i64 k ∧ ∀ j, j < k → 0 ≤ nth o j) (fun _ i => o.length - (intOf i).toNat)
  case atStart => exact ⟨0, Nat.zero_le _, rfl, fun j hj => absurd hj (by omega)⟩
  case round =>
    obtain ⟨k, hk, rfl, hall⟩ := hrel
    have HA := Lib.hid hall
    clear hall
    by_cases hlt : k < o.length
    · obtain ⟨b, off, rfl, hb, hc⟩ := hr.int hlt
      by_cases hq : nth o k < 0
      · have H := Lib.hid hq
        go_wp2_with ((go_at_call 23); refine (neg_c _ _).mono ?_; rintro e w' ⟨rfl, rfl⟩)
        go_ret
        exact ⟨k, rfl, .inr ⟨k, rfl, hlt, HA.out, H.out⟩, rfl⟩
      · have H := Lib.hid (below_add (p := fun j => 0 ≤ nth o j) HA.out (by omega))
        have hq' : decide (nth o k < 0) = false := decide_eq_false hq
        clear hq
        go_wp2_with ((go_at_call 23); refine (neg_c _ _).mono ?_; rintro e w' ⟨rfl, rfl⟩)
        go_round
        case rel => exact ⟨k + 1, by omega, by go_num, H.out⟩
        case measure => simp [intOf]; omega
    · obtain rfl : k = o.length := by omega
      go_wp2_with fail
      go_ret
      exact ⟨-1, rfl, .inl ⟨rfl, HA.out⟩, rfl⟩
theorem arr_zeros {g : Nat} : ∀ (n a : Nat) (w : World) (cur : List Int), Arr w g cur → a + n ≤ cur.length → ∃ cur' : List Int, Arr (w.setCells g a (List.replicate n (.int .i64 0))) g cur' ∧ cur'.length = cur.length ∧ ∀ t, t < a → nth cur' t = nth cur t
  | 0, a, w, cur, h, _ => ⟨cur, h, rfl, fun _ _ => rfl⟩
  | n + 1, a, w, cur, h, hle => by
    obtain ⟨cur', h1, h2, h3⟩ := arr_zeros n (a + 1) _ (cur.set a 0) (h.set a 0) (by rw [List.length_set]; omega)
    refine ⟨cur', h1, by rw [h2, List.length_set], fun t ht => ?_⟩
    rw [h3 t (by omega), nth_setI (by omega), if_neg (by omega)]
theorem grown_zeros {w wr : World} {g : Nat} : ∀ (vs : List Value) (a : Nat) (wr : World), w.grownBy wr (some g) → w.grownBy (wr.setCells g a vs) (some g)
  | [], _, _, h => h
  | _ :: vs, _, _, h => grown_zeros (wr := wr) vs _ _ (grown_set h)
theorem Arr.head {w : World} {g : Nat} {cur p : List Int} (h : Arr w g cur) (hl : p.length ≤ cur.length) (he : ∀ t, t < p.length → nth p t = nth cur t) : Arr w g p := by
  obtain ⟨N, f, hN, hf, hc⟩ := h
  exact ⟨N, f, by omega, hf, fun i hi => by rw [hc i (by omega), he i hi]⟩
def Kept (o : List Int) (g : Nat) (w : World) (e : Ending) (w' : World) : Prop := ∃ cap, e = .returned (.slice (some ⟨g, 0, none⟩) (posL o).length cap) ∧ Arr w' g (posL o) ∧ w.grownBy w' (some g)
theorem grown_refl (w : World) (r : Option Nat) : w.grownBy w r := ⟨rfl, rfl, rfl, Nat.le_refl _, fun _ _ _ => rfl⟩
set_option maxHeartbeats 800000 in
theorem deleteNeg_c (o : List Int) (g cap : Nat) (w : World) (hl : o.length ≤ 1000) (hcap : o.length ≤ cap) (ha : Arr w g o) :
    Calls Try.prog 21 #[.slice (some ⟨g, 0, none⟩) o.length cap, .func (.func 23) #[] #[]] w (Kept o g w) := by
  have HA := Lib.hid ha
  clear ha
  go_enter Try.func21, Try.ntmps21
  go_wp2_with fail
  refine (indexNeg_c o _ _ w (by omega) HA.out.rd).mono ?_
  rintro e w1 ⟨r, rfl, hr, rfl⟩
  rcases hr with ⟨rfl, hall⟩ | ⟨k0, rfl, hk0, hlo, hneg⟩
  · have H := Lib.hid (posL_all hall)
    clear hall
    go_wp2_with fail
    go_ret
    exact ⟨cap, by rw [H.out]; rfl, by rw [H.out]; exact HA.out, grown_refl _ _⟩
  · have Hlo := Lib.hid (posL_take (o := o) (k := k0) (by omega) hlo)
    have H1 := Lib.hid (posL_no hk0 (by omega))
    have hne : ((k0 : Int) == -1) = false := beq_eq_false_iff_ne.2 (by omega)
    clear hlo hneg
    go_wp2_with fail
    go_loopw [5, 6, 7] (fun i j _ wr => ∃ (k a : Nat) (cur : List Int), k ≤ o.length ∧ a < k ∧ i = .int .i64 a ∧ j = .int .i64 k ∧ cur.length = o.length ∧ a = (posL (o.take k)).length ∧ (∀ t, t < a → nth cur t = nth (posL (o.take k)) t) ∧ (∀ t, k ≤ t → t < o.length → nth cur t = nth o t) ∧ Arr wr g cur ∧ w.grownBy wr (some g)) (fun _ j _ _ => o.length - (intOf j).toNat)
    case atStart => exact ⟨k0 + 1, k0, o, by omega, by omega, rfl, by first | rfl | go_num, rfl, by rw [H1.out, Hlo.out, List.length_take]; omega, fun t ht => by rw [H1.out, Hlo.out, nth_take ht], fun _ _ _ => rfl, HA.out, grown_refl _ _⟩
    case round =>
      obtain ⟨k, a, cur, hk, hak, rfl, rfl, hcl, hal, hhd, htl, harr, hgr⟩ := hrel
      have HAr := Lib.hid harr
      have HGr := Lib.hid hgr
      have HHd := Lib.hid hhd
      have HTl := Lib.hid htl
      have HCl := Lib.hid hcl
      have HAl := Lib.hid hal
      clear hhd hal
      by_cases hlt : k < o.length
      · have hc := harr.cell (show k < cur.length by omega)
        rw [htl k (Nat.le_refl _) hlt] at hc
        have hca := harr.cell (show a < cur.length by omega)
        have hz := harr.frozen a
        have i1 : (a : Int) < o.length := by omega
        have i2 : (k : Int) < o.length := by omega
        clear htl harr hgr hcl
        by_cases hq : nth o k < 0
        · have H := Lib.hid (posL_no hlt (by omega))
          go_wp2_with ((go_at_call 23); refine (neg_c _ _).mono ?_; rintro e w' ⟨rfl, rfl⟩)
          go_roundw
          case rel => exact ⟨k + 1, a, cur, by omega, by omega, rfl, by go_num, HCl.out, by rw [H.out]; exact HAl.out, fun t ht => by rw [H.out]; exact HHd.out t ht, fun t h1 h2 => HTl.out t (by omega) h2, HAr.out, HGr.out⟩
          case measure => simp [intOf]; omega
        · have H := Lib.hid (posL_yes hlt (by omega))
          have hq' : decide (nth o k < 0) = false := decide_eq_false hq
          clear hq
          go_wp2_with ((go_at_call 23); refine (neg_c _ _).mono ?_; rintro e w' ⟨rfl, rfl⟩)
          go_roundw
          case rel => exact ⟨k + 1, a + 1, cur.set a (nth o k), by omega, by omega, by go_num, by go_num, by rw [List.length_set]; exact HCl.out, by rw [H.out, List.length_append, ← HAl.out]; rfl, fun t ht => by
            have h1 := HCl.out
            have h2 := HAl.out
            rw [nth_setI (by omega), H.out]
            by_cases e : a = t
            · subst e; rw [if_pos rfl, nth_eq (l := posL (o.take k) ++ [nth o k]) (i := a) (by rw [List.length_append, List.length_singleton]; omega), List.getElem_append_right (by omega), List.getElem_singleton]
            · rw [if_neg e, HHd.out t (by omega), nth_eq (l := posL (o.take k)) (i := t) (by omega), nth_eq (l := posL (o.take k) ++ [nth o k]) (i := t) (by rw [List.length_append, List.length_singleton]; omega), List.getElem_append_left (by omega)], fun t h1 h2 => by
            rw [nth_setI (by have := HCl.out; omega), if_neg (by omega)]; exact HTl.out t (by omega) h2, HAr.out.set a _, grown_set HGr.out⟩
          case measure => simp [intOf]; omega
      · obtain rfl : k = o.length := by omega
        have H := Lib.hid (show posL (o.take o.length) = posL o by rw [List.take_length])
        have hclr : ∀ (ty : TypeId) (c : Nat), (Builtin.clear_ #[22] ty #[.slice (some ⟨g, a, none⟩) (o.length - a) c]).run Try.prog wr = .ok (.tuple #[]) (wr.setCells g a (List.replicate (o.length - a) (.int .i64 0))) := fun ty c =>
          run_clear_slice wr 22 3 ty (.int .i64 0) Try.underlying22 (fun w => by kernel_rfl) rfl rfl g a (o.length - a) c (by omega) (fun j hj => by rw [harr.cell (by omega)]; rfl) (fun j _ => harr.frozen _)
        have hca : ¬ cap = a := by omega
        have i1 : (a : Int) ≤ o.length := by omega
        have i2 : (a : Int) ≤ cap := by omega
        obtain ⟨cur', hz1, hz2, hz3⟩ := arr_zeros (o.length - a) a wr cur HAr.out (by omega)
        have HZ1 := Lib.hid hz1
        have HZ2 := Lib.hid hz2
        have HZ3 := Lib.hid hz3
        clear htl harr hgr hcl hz1 hz2 hz3
        go_wp2_with fail
        go_ret
        exact ⟨cap, by rw [← H.out, ← HAl.out]; rfl, HZ1.out.head (by have h1 := posL_le o; have h2 := HZ2.out; have h3 := HCl.out; omega) (fun t ht => by
          have h1 := HAl.out
          rw [H.out] at h1
          rw [HZ3.out t (by omega), HHd.out t (by omega), H.out]), grown_zeros (wr := wr) _ _ _ HGr.out⟩
end Go.Proofs.Ytkmklbkgdphoaaa
