/- The library's search and its deletion over a slice of cabins of the call's own; no conditions but the length. -/
import Derived.Test.YtcmbbhdoienkoaaCbnSort
namespace Go.Proofs.Ytcmbbhdoienkoaa
open Go.RowKit Go.Lib

/-- The first that a test takes. -/
def FirstP (o : List Cbn) (p : Cbn → Bool) (w : World) (e : Ending) (w' : World) : Prop := ∃ r : Int, e = .returned (.int .i64 r) ∧ ((r = -1 ∧ ∀ j, j < o.length → p (nth o j) = false) ∨ ∃ k : Nat, r = k ∧ k < o.length ∧ (∀ j, j < k → p (nth o j) = false) ∧ p (nth o k) = true) ∧ Below w.heap.size w w'
theorem idxFew_c (o : List Cbn) (A : Option Addr) (cap : Nat)  (w : World) (hl : o.length ≤ 1048576) (hr : Rd w w.heap.size 5 Cbn.cells A o) (p : Cbn → Bool)
    (hclo : ∀ (x : Cbn) (w' : World), Below w.heap.size w w' → Calls Try.prog 31 #[.agg #[.int .i64 x.n, .int .i64 x.s, .int .i64 x.e, .int .i64 x.t, .int .i64 x.r]] w' fun e w'' => e = .returned (.bool (p x)) ∧ Below w'.heap.size w' w'') :
    Calls Try.prog 40 #[.slice A o.length cap, .func (.func 31) #[] #[]] w (FirstP o p w) := by
  have HC := Lib.hid hclo
  clear hclo
  go_enter Try.func40, Try.ntmps40
  go_wp2_with fail
  go_loopw [5, 8] (fun _ i wr => ∃ k : Nat, k ≤ o.length ∧ i = .int .i64 k ∧ (∀ j, j < k → p (nth o j) = false) ∧ Below w.heap.size w wr) (fun _ i _ => o.length - (intOf i).toNat)
  case atStart => exact ⟨0, Nat.zero_le _, rfl, fun j hj => absurd hj (by omega), Below.refl _ _⟩
  case round =>
    obtain ⟨k, hk, rfl, hall, hbel⟩ := hrel
    have HB := Lib.hid hbel
    have HA := Lib.hid hall
    clear hall
    by_cases hlt : k < o.length
    · obtain ⟨b, off, rfl, hb1, hcs⟩ := Cbn.rd (hr.below hbel (Nat.le_refl _)) hlt
      have z1 := hbel.size
      clear hbel
      go_wp2_with fail
      refine (HC.out (nth o k) _ HB.out).mono ?_
      rintro e w1 ⟨rfl, hb2⟩
      have HB2 := Lib.hid (HB.out.trans (hb2.mono z1))
      clear hb2
      rcases hp : p (nth o k) with _ | _
      · have HP := Lib.hid hp
        clear hp
        go_wp2_with fail
        go_roundw
        case rel => exact ⟨k + 1, by omega, by go_num, below_add HA.out HP.out, HB2.out⟩
        case measure => simp [intOf]; omega
      · have HP := Lib.hid hp
        clear hp
        go_wp2_with fail
        go_ret
        exact ⟨k, rfl, .inr ⟨k, rfl, hlt, HA.out, HP.out⟩, HB2.out⟩
    · clear hbel
      obtain rfl : k = o.length := by omega
      go_wp2_with fail
      go_ret
      exact ⟨-1, rfl, .inl ⟨rfl, HA.out⟩, HB.out⟩
theorem idxWorn_c (o : List Cbn) (A : Option Addr) (cap : Nat) (gb : Nat) (w : World) (hl : o.length ≤ 1048576) (hr : Rd w w.heap.size 5 Cbn.cells A o) (p : Cbn → Bool)
    (hclo : ∀ (x : Cbn) (w' : World), Below w.heap.size w w' → Calls Try.prog 43 #[.agg #[.int .i64 x.n, .int .i64 x.s, .int .i64 x.e, .int .i64 x.t, .int .i64 x.r], .pointer (some ⟨gb, 0, none⟩)] w' fun e w'' => e = .returned (.bool (p x)) ∧ Below w'.heap.size w' w'') :
    Calls Try.prog 40 #[.slice A o.length cap, .func (.func 43) #[] #[.pointer (some ⟨gb, 0, none⟩)]] w (FirstP o p w) := by
  have HC := Lib.hid hclo
  clear hclo
  go_enter Try.func40, Try.ntmps40
  go_wp2_with fail
  go_loopw [5, 8] (fun _ i wr => ∃ k : Nat, k ≤ o.length ∧ i = .int .i64 k ∧ (∀ j, j < k → p (nth o j) = false) ∧ Below w.heap.size w wr) (fun _ i _ => o.length - (intOf i).toNat)
  case atStart => exact ⟨0, Nat.zero_le _, rfl, fun j hj => absurd hj (by omega), Below.refl _ _⟩
  case round =>
    obtain ⟨k, hk, rfl, hall, hbel⟩ := hrel
    have HB := Lib.hid hbel
    have HA := Lib.hid hall
    clear hall
    by_cases hlt : k < o.length
    · obtain ⟨b, off, rfl, hb1, hcs⟩ := Cbn.rd (hr.below hbel (Nat.le_refl _)) hlt
      have z1 := hbel.size
      clear hbel
      go_wp2_with fail
      refine (HC.out (nth o k) _ HB.out).mono ?_
      rintro e w1 ⟨rfl, hb2⟩
      have HB2 := Lib.hid (HB.out.trans (hb2.mono z1))
      clear hb2
      rcases hp : p (nth o k) with _ | _
      · have HP := Lib.hid hp
        clear hp
        go_wp2_with fail
        go_roundw
        case rel => exact ⟨k + 1, by omega, by go_num, below_add HA.out HP.out, HB2.out⟩
        case measure => simp [intOf]; omega
      · have HP := Lib.hid hp
        clear hp
        go_wp2_with fail
        go_ret
        exact ⟨k, rfl, .inr ⟨k, rfl, hlt, HA.out, HP.out⟩, HB2.out⟩
    · clear hbel
      obtain rfl : k = o.length := by omega
      go_wp2_with fail
      go_ret
      exact ⟨-1, rfl, .inl ⟨rfl, HA.out⟩, HB.out⟩
theorem idxMove_c (o : List Cbn) (A : Option Addr) (cap : Nat) (gb : Nat) (w : World) (hl : o.length ≤ 1048576) (hr : Rd w w.heap.size 5 Cbn.cells A o) (p : Cbn → Bool)
    (hclo : ∀ (x : Cbn) (w' : World), Below w.heap.size w w' → Calls Try.prog 41 #[.agg #[.int .i64 x.n, .int .i64 x.s, .int .i64 x.e, .int .i64 x.t, .int .i64 x.r], .pointer (some ⟨gb, 0, none⟩)] w' fun e w'' => e = .returned (.bool (p x)) ∧ Below w'.heap.size w' w'') :
    Calls Try.prog 40 #[.slice A o.length cap, .func (.func 41) #[] #[.pointer (some ⟨gb, 0, none⟩)]] w (FirstP o p w) := by
  have HC := Lib.hid hclo
  clear hclo
  go_enter Try.func40, Try.ntmps40
  go_wp2_with fail
  go_loopw [5, 8] (fun _ i wr => ∃ k : Nat, k ≤ o.length ∧ i = .int .i64 k ∧ (∀ j, j < k → p (nth o j) = false) ∧ Below w.heap.size w wr) (fun _ i _ => o.length - (intOf i).toNat)
  case atStart => exact ⟨0, Nat.zero_le _, rfl, fun j hj => absurd hj (by omega), Below.refl _ _⟩
  case round =>
    obtain ⟨k, hk, rfl, hall, hbel⟩ := hrel
    have HB := Lib.hid hbel
    have HA := Lib.hid hall
    clear hall
    by_cases hlt : k < o.length
    · obtain ⟨b, off, rfl, hb1, hcs⟩ := Cbn.rd (hr.below hbel (Nat.le_refl _)) hlt
      have z1 := hbel.size
      clear hbel
      go_wp2_with fail
      refine (HC.out (nth o k) _ HB.out).mono ?_
      rintro e w1 ⟨rfl, hb2⟩
      have HB2 := Lib.hid (HB.out.trans (hb2.mono z1))
      clear hb2
      rcases hp : p (nth o k) with _ | _
      · have HP := Lib.hid hp
        clear hp
        go_wp2_with fail
        go_roundw
        case rel => exact ⟨k + 1, by omega, by go_num, below_add HA.out HP.out, HB2.out⟩
        case measure => simp [intOf]; omega
      · have HP := Lib.hid hp
        clear hp
        go_wp2_with fail
        go_ret
        exact ⟨k, rfl, .inr ⟨k, rfl, hlt, HA.out, HP.out⟩, HB2.out⟩
    · clear hbel
      obtain rfl : k = o.length := by omega
      go_wp2_with fail
      go_ret
      exact ⟨-1, rfl, .inl ⟨rfl, HA.out⟩, HB.out⟩

def keptC (p : Cbn → Bool) (o : List Cbn) : List Cbn := o.filter fun c => !p c
theorem keptC_le {p : Cbn → Bool} (o : List Cbn) : (keptC p o).length ≤ o.length := List.length_filter_le _ _
theorem take_snocC {o : List Cbn} {k : Nat} (hk : k < o.length) : o.take (k + 1) = o.take k ++ [nth o k] := by rw [List.take_succ_eq_append_getElem hk, nth_eq hk]
theorem keptC_yes {p : Cbn → Bool} {o : List Cbn} {k : Nat} (hk : k < o.length) (h : p (nth o k) = false) : keptC p (o.take (k + 1)) = keptC p (o.take k) ++ [nth o k] := by
  rw [take_snocC hk]; simp [keptC, List.filter_append, h]
theorem keptC_no {p : Cbn → Bool} {o : List Cbn} {k : Nat} (hk : k < o.length) (h : p (nth o k) = true) : keptC p (o.take (k + 1)) = keptC p (o.take k) := by
  rw [take_snocC hk]; simp [keptC, List.filter_append, h]
theorem keptC_all {p : Cbn → Bool} {o : List Cbn} (h : ∀ j, j < o.length → p (nth o j) = false) : keptC p o = o := by
  unfold keptC; rw [List.filter_eq_self]
  intro x hx
  obtain ⟨j, hj, rfl⟩ := List.getElem_of_mem hx
  have := h j hj
  rw [nth_eq hj] at this
  simp [this]
theorem keptC_take {p : Cbn → Bool} {o : List Cbn} {k : Nat} (hk : k ≤ o.length) (h : ∀ j, j < k → p (nth o j) = false) : keptC p (o.take k) = o.take k :=
  keptC_all fun j hj => by
    have hj2 : j < k := by simp at hj; omega
    rw [nth_take hj2]; exact h j hj2
theorem setCells_puts {g : Nat} : ∀ (vs : List Value) (s : Nat) (w : World), w.setCells g s vs = puts w g s vs
  | [], _, _ => rfl
  | _ :: vs, s, _ => setCells_puts vs (s + 1) _
theorem ArrC.past {w : World} {g : Nat} {o : List Cbn} (h : ArrC w g o) {s : Nat} (hs : o.length * 5 ≤ s) (vs : List Value) : ArrC (puts w g s vs) g o := by
  obtain ⟨N, f, hN, hf, hc⟩ := h
  obtain ⟨f', h1, _, h3⟩ := puts_row vs w s f hf
  refine ⟨N, f', hN, h1, fun i hi j v hj hv => ?_⟩
  rw [h3 (i * 5 + j) (.inl (by omega))]
  exact hc i hi j v hj hv
theorem ArrC.isSome {w : World} {g : Nat} {o : List Cbn} (h : ArrC w g o) {j : Nat} (hj : j < o.length * 5) : (w.cell? ⟨g, j, none⟩).isSome = true := by
  obtain ⟨N, f, hN, hf, _⟩ := h
  rw [hf.cell (by omega)]; rfl
theorem run_clear_C (w : World) (ty : TypeId) (b o n c : Nat) (hn : 0 < n) (hc : ∀ j, j < n * 5 → (w.cell? ⟨b, o + j, none⟩).isSome = true) (hf : ∀ j, j < n * 5 → w.frozen? ⟨b, o + j, none⟩ = false) :
    (Builtin.clear_ #[24] ty #[.slice (some ⟨b, o, none⟩) n c]).run Try.prog w = .ok (.tuple #[]) (w.setCells b o (List.replicate (n * 5) (.int .i64 0))) := by
  have hv : ∀ w, (zeroValue 33).run Try.prog w = .ok (.agg #[.int .i64 0, .int .i64 0, .int .i64 0, .int .i64 0, .int .i64 0]) w := fun w => by kernel_rfl
  have hzc : (Builtin.zeroCells (Value.agg #[.int .i64 0, .int .i64 0, .int .i64 0, .int .i64 0, .int .i64 0]).cells n).toList = List.replicate (n * 5) (.int .i64 0) := by
    apply List.ext_getElem
    · simp [Builtin.zeroCells, Value.cells]
    · intro i h1 h2
      have h5 : i % 5 = 0 ∨ i % 5 = 1 ∨ i % 5 = 2 ∨ i % 5 = 3 ∨ i % 5 = 4 := by omega
      simp only [Builtin.zeroCells, Value.cells, Array.getElem_toList, Array.getElem_map, Array.getElem_range, List.getElem_replicate]
      rcases h5 with h | h | h | h | h <;> simp [h]
  have hst := run_storeCells_cells (P := Try.prog) b o (List.replicate (n * 5) (.int .i64 0)) 0 w (by simpa using hc) (by simpa using hf) (by intro v hv'; rw [List.eq_of_mem_replicate hv']; rfl)
  simp only [Nat.add_zero] at hst
  obtain ⟨m, rfl⟩ : ∃ m, n = m + 1 := ⟨n - 1, by omega⟩
  simp [Builtin.clear_, run_underlying Try.underlying24, hv, hzc, hst]
def KeptPost (p : Cbn → Bool) (o : List Cbn) (g : Nat) (w : World) (e : Ending) (w' : World) : Prop := ∃ cap, e = .returned (.slice (some ⟨g, 0, none⟩) (keptC p o).length cap) ∧ ArrC w' g (keptC p o) ∧ w.grownBy w' (some g)
set_option maxHeartbeats 1600000 in
theorem delFew_c (o : List Cbn) (g cap : Nat)  (w : World) (hl : o.length ≤ 1000) (hcap : o.length ≤ cap) (ha : ArrC w g o) (p : Cbn → Bool)
    (hclo : ∀ (x : Cbn) (w' : World), w.grownBy w' (some g) → Calls Try.prog 31 #[.agg #[.int .i64 x.n, .int .i64 x.s, .int .i64 x.e, .int .i64 x.t, .int .i64 x.r]] w' fun e w'' => e = .returned (.bool (p x)) ∧ Below w'.heap.size w' w'') :
    Calls Try.prog 29 #[.slice (some ⟨g, 0, none⟩) o.length cap, .func (.func 31) #[] #[]] w (KeptPost p o g w) := by
  have HA := Lib.hid ha
  have HC := Lib.hid hclo
  clear ha hclo
  go_enter Try.func29, Try.ntmps29
  go_wp2_with fail
  refine (idxFew_c o _ _  w (by omega) HA.out.rd p fun x w' hw => HC.out x w' (grown_of_below hw)).mono ?_
  rintro e w1 ⟨r, rfl, hr, hb1⟩
  have HA1 := Lib.hid (HA.out.carry hb1)
  have HG1 := Lib.hid (grown_of_below (r := some g) hb1)
  clear hb1
  rcases hr with ⟨rfl, hall⟩ | ⟨k0, rfl, hk0, hlo, hneg⟩
  · have H := Lib.hid (keptC_all hall)
    clear hall
    go_wp2_with fail
    go_ret
    exact ⟨cap, by rw [H.out]; rfl, by rw [H.out]; exact HA1.out, HG1.out⟩
  · have Hlo := Lib.hid (keptC_take (o := o) (k := k0) (by omega) hlo)
    have H1 := Lib.hid (keptC_no hk0 hneg)
    have hne : ((k0 : Int) == -1) = false := beq_eq_false_iff_ne.2 (by omega)
    clear hlo hneg
    go_wp2_with fail
    go_loopw [5, 6, 7] (fun i j _ wr => ∃ (k a : Nat) (cur : List Cbn), k ≤ o.length ∧ a < k ∧ i = .int .i64 a ∧ j = .int .i64 k ∧ cur.length = o.length ∧ a = (keptC p (o.take k)).length ∧ (∀ t, t < a → nth cur t = nth (keptC p (o.take k)) t) ∧ (∀ t, k ≤ t → t < o.length → nth cur t = nth o t) ∧ ArrC wr g cur ∧ w.grownBy wr (some g)) (fun _ j _ _ => o.length - (intOf j).toNat)
    case atStart => exact ⟨k0 + 1, k0, o, by omega, by omega, rfl, by first | rfl | go_num, rfl, by rw [H1.out, Hlo.out, List.length_take]; omega, fun t ht => by rw [H1.out, Hlo.out, nth_take ht], fun _ _ _ => rfl, HA1.out, HG1.out⟩
    case round =>
      obtain ⟨k, a, cur, hk, hak, rfl, rfl, hcl, hal, hhd, htl, harr, hgr⟩ := hrel
      have HAr := Lib.hid harr
      have HGr := Lib.hid hgr
      have HHd := Lib.hid hhd
      have HTl := Lib.hid htl
      have HCl := Lib.hid hcl
      have HAl := Lib.hid hal
      clear hhd hal
      by_cases hlt : k < o.length
      · obtain ⟨c0, c1, c2, c3, c4⟩ := harr.cell (show k < cur.length by omega)
        rw [htl k (Nat.le_refl _) hlt] at c0 c1 c2 c3 c4
        obtain ⟨s0, s1, s2, s3, s4⟩ := harr.cell (show a < cur.length by omega)
        have glt := harr.lt
        have hz := harr.frozen
        have i1 : (a : Int) < o.length := by omega
        have i2 : (k : Int) < o.length := by omega
        obtain ⟨x, hx⟩ : ∃ x, nth o k = x := ⟨_, rfl⟩
        rw [hx] at c0 c1 c2 c3 c4
        have HX := Lib.hid hx
        clear htl harr hgr hcl hx
        go_wp2_with fail
        refine (HC.out x _ (HGr.out.trans (grown_of_below (by repeat (first | (with_reducible exact Below.refl _ _) | ((with_reducible refine alloc_ ?_ ?_); (focus (first | exact Nat.le_refl _ | (simp; done) | (simp; omega) | omega))) | ((with_reducible refine set_ ?_ ?_); (focus (first | exact Nat.le_refl _ | (simp; done) | (simp; omega) | omega))) | (with_reducible refine Below.drew ?_) | ((with_reducible refine after_ ?_ (by assumption) ?_); (rotate_left; (focus (first | exact Nat.le_refl _ | (simp; done) | (simp; omega) | omega))))))))).mono ?_
        rintro e w2 ⟨rfl, hb2⟩
        have HB2 := Lib.hid (show Below wr.heap.size wr w2 from (by repeat (first | (with_reducible exact Below.refl _ _) | ((with_reducible refine alloc_ ?_ ?_); (focus (first | exact Nat.le_refl _ | (simp; done) | (simp; omega) | omega))) | ((with_reducible refine set_ ?_ ?_); (focus (first | exact Nat.le_refl _ | (simp; done) | (simp; omega) | omega))) | (with_reducible refine Below.drew ?_) | ((with_reducible refine after_ ?_ (by assumption) ?_); (rotate_left; (focus (first | exact Nat.le_refl _ | (simp; done) | (simp; omega) | omega)))))))
        rcases hq : p x with _ | _
        · have H := Lib.hid (keptC_yes (p := p) hlt (by rw [HX.out]; exact hq))
          have d0 := (HB2.out.cell (p := ⟨g, a * 5, none⟩) glt).trans s0
          have d1 := (HB2.out.cell (p := ⟨g, a * 5 + 1, none⟩) glt).trans s1
          have d2 := (HB2.out.cell (p := ⟨g, a * 5 + 2, none⟩) glt).trans s2
          have d3 := (HB2.out.cell (p := ⟨g, a * 5 + 3, none⟩) glt).trans s3
          have d4 := (HB2.out.cell (p := ⟨g, a * 5 + 4, none⟩) glt).trans s4
          have dz := fun i => (HB2.out.frozen (p := ⟨g, i, none⟩) glt).trans (hz i)
          have b0 := hb2.cell (p := ⟨wr.heap.size, 0, none⟩) (by simp)
          have b1 := hb2.cell (p := ⟨wr.heap.size, 1, none⟩) (by simp)
          have b2 := hb2.cell (p := ⟨wr.heap.size, 2, none⟩) (by simp)
          have b3 := hb2.cell (p := ⟨wr.heap.size, 3, none⟩) (by simp)
          have b4 := hb2.cell (p := ⟨wr.heap.size, 4, none⟩) (by simp)
          simp [go_sem] at b0 b1 b2 b3 b4
          clear hb2 s0 s1 s2 s3 s4 hz hq
          go_wp2_with fail
          go_roundw
          case rel => exact ⟨k + 1, a + 1, cur.set a x, by omega, by omega, by go_num, by go_num, by rw [List.length_set]; exact HCl.out, by rw [H.out, List.length_append, ← HAl.out]; rfl, fun t ht => by
            have h1 := HCl.out
            have h2 := HAl.out
            rw [nth_setC (by omega), H.out, HX.out]
            by_cases e : a = t
            · subst e; rw [if_pos rfl, nth_eq (l := keptC p (o.take k) ++ [x]) (i := a) (by rw [List.length_append, List.length_singleton]; omega), List.getElem_append_right (by omega), List.getElem_singleton]
            · rw [if_neg e, HHd.out t (by omega), nth_eq (l := keptC p (o.take k)) (i := t) (by omega), nth_eq (l := keptC p (o.take k) ++ [x]) (i := t) (by rw [List.length_append, List.length_singleton]; omega), List.getElem_append_left (by omega)], fun t h1 h2 => by
            rw [nth_setC (by have := HCl.out; omega), if_neg (by omega)]; exact HTl.out t (by omega) h2, (HAr.out.carry HB2.out).put a x, grown_puts (Cbn.cells x) (a * 5) (HGr.out.trans (grown_of_below HB2.out))⟩
          case measure => simp [intOf]; omega
        · have H := Lib.hid (keptC_no (p := p) hlt (by rw [HX.out]; exact hq))
          clear hb2 hq
          go_wp2_with fail
          go_roundw
          case rel => exact ⟨k + 1, a, cur, by omega, by omega, rfl, by go_num, HCl.out, by rw [H.out]; exact HAl.out, fun t ht => by rw [H.out]; exact HHd.out t ht, fun t h1 h2 => HTl.out t (by omega) h2, HAr.out.carry HB2.out, HGr.out.trans (grown_of_below HB2.out)⟩
          case measure => simp [intOf]; omega
      · obtain rfl : k = o.length := by omega
        have H := Lib.hid (show keptC p (o.take o.length) = keptC p o by rw [List.take_length])
        have hclr : ∀ (ty : TypeId) (c : Nat), (Builtin.clear_ #[24] ty #[.slice (some ⟨g, a * 5, none⟩) (o.length - a) c]).run Try.prog wr = .ok (.tuple #[]) (wr.setCells g (a * 5) (List.replicate ((o.length - a) * 5) (.int .i64 0))) := fun ty c =>
          run_clear_C wr ty g (a * 5) (o.length - a) c (by omega) (fun j hj => by
            exact harr.isSome (by omega)) (fun j _ => harr.frozen _)
        have hca : ¬ cap = a := by omega
        have i1 : (a : Int) ≤ o.length := by omega
        have i2 : (a : Int) ≤ cap := by omega
        have HE := Lib.hid (HAr.out.head (q := keptC p o) (by have h1 := keptC_le (p := p) o; have h3 := HCl.out; omega) (fun t ht => by
          have h1 := HAl.out
          rw [H.out] at h1
          rw [HHd.out t (by omega), H.out]))
        clear htl harr hgr hcl
        go_wp2_with fail
        go_ret
        exact ⟨cap, by rw [← H.out, ← HAl.out]; rfl, by
          rw [setCells_puts]
          exact HE.out.past (by rw [← H.out, ← HAl.out]; exact Nat.le_refl _) _, by
          rw [setCells_puts]
          exact grown_puts _ _ HGr.out⟩
set_option maxHeartbeats 1600000 in
theorem delWorn_c (o : List Cbn) (g cap : Nat) (gb : Nat) (w : World) (hl : o.length ≤ 1000) (hcap : o.length ≤ cap) (ha : ArrC w g o) (p : Cbn → Bool)
    (hclo : ∀ (x : Cbn) (w' : World), w.grownBy w' (some g) → Calls Try.prog 43 #[.agg #[.int .i64 x.n, .int .i64 x.s, .int .i64 x.e, .int .i64 x.t, .int .i64 x.r], .pointer (some ⟨gb, 0, none⟩)] w' fun e w'' => e = .returned (.bool (p x)) ∧ Below w'.heap.size w' w'') :
    Calls Try.prog 29 #[.slice (some ⟨g, 0, none⟩) o.length cap, .func (.func 43) #[] #[.pointer (some ⟨gb, 0, none⟩)]] w (KeptPost p o g w) := by
  have HA := Lib.hid ha
  have HC := Lib.hid hclo
  clear ha hclo
  go_enter Try.func29, Try.ntmps29
  go_wp2_with fail
  refine (idxWorn_c o _ _ gb w (by omega) HA.out.rd p fun x w' hw => HC.out x w' (grown_of_below hw)).mono ?_
  rintro e w1 ⟨r, rfl, hr, hb1⟩
  have HA1 := Lib.hid (HA.out.carry hb1)
  have HG1 := Lib.hid (grown_of_below (r := some g) hb1)
  clear hb1
  rcases hr with ⟨rfl, hall⟩ | ⟨k0, rfl, hk0, hlo, hneg⟩
  · have H := Lib.hid (keptC_all hall)
    clear hall
    go_wp2_with fail
    go_ret
    exact ⟨cap, by rw [H.out]; rfl, by rw [H.out]; exact HA1.out, HG1.out⟩
  · have Hlo := Lib.hid (keptC_take (o := o) (k := k0) (by omega) hlo)
    have H1 := Lib.hid (keptC_no hk0 hneg)
    have hne : ((k0 : Int) == -1) = false := beq_eq_false_iff_ne.2 (by omega)
    clear hlo hneg
    go_wp2_with fail
    go_loopw [5, 6, 7] (fun i j _ wr => ∃ (k a : Nat) (cur : List Cbn), k ≤ o.length ∧ a < k ∧ i = .int .i64 a ∧ j = .int .i64 k ∧ cur.length = o.length ∧ a = (keptC p (o.take k)).length ∧ (∀ t, t < a → nth cur t = nth (keptC p (o.take k)) t) ∧ (∀ t, k ≤ t → t < o.length → nth cur t = nth o t) ∧ ArrC wr g cur ∧ w.grownBy wr (some g)) (fun _ j _ _ => o.length - (intOf j).toNat)
    case atStart => exact ⟨k0 + 1, k0, o, by omega, by omega, rfl, by first | rfl | go_num, rfl, by rw [H1.out, Hlo.out, List.length_take]; omega, fun t ht => by rw [H1.out, Hlo.out, nth_take ht], fun _ _ _ => rfl, HA1.out, HG1.out⟩
    case round =>
      obtain ⟨k, a, cur, hk, hak, rfl, rfl, hcl, hal, hhd, htl, harr, hgr⟩ := hrel
      have HAr := Lib.hid harr
      have HGr := Lib.hid hgr
      have HHd := Lib.hid hhd
      have HTl := Lib.hid htl
      have HCl := Lib.hid hcl
      have HAl := Lib.hid hal
      clear hhd hal
      by_cases hlt : k < o.length
      · obtain ⟨c0, c1, c2, c3, c4⟩ := harr.cell (show k < cur.length by omega)
        rw [htl k (Nat.le_refl _) hlt] at c0 c1 c2 c3 c4
        obtain ⟨s0, s1, s2, s3, s4⟩ := harr.cell (show a < cur.length by omega)
        have glt := harr.lt
        have hz := harr.frozen
        have i1 : (a : Int) < o.length := by omega
        have i2 : (k : Int) < o.length := by omega
        obtain ⟨x, hx⟩ : ∃ x, nth o k = x := ⟨_, rfl⟩
        rw [hx] at c0 c1 c2 c3 c4
        have HX := Lib.hid hx
        clear htl harr hgr hcl hx
        go_wp2_with fail
        refine (HC.out x _ (HGr.out.trans (grown_of_below (by repeat (first | (with_reducible exact Below.refl _ _) | ((with_reducible refine alloc_ ?_ ?_); (focus (first | exact Nat.le_refl _ | (simp; done) | (simp; omega) | omega))) | ((with_reducible refine set_ ?_ ?_); (focus (first | exact Nat.le_refl _ | (simp; done) | (simp; omega) | omega))) | (with_reducible refine Below.drew ?_) | ((with_reducible refine after_ ?_ (by assumption) ?_); (rotate_left; (focus (first | exact Nat.le_refl _ | (simp; done) | (simp; omega) | omega))))))))).mono ?_
        rintro e w2 ⟨rfl, hb2⟩
        have HB2 := Lib.hid (show Below wr.heap.size wr w2 from (by repeat (first | (with_reducible exact Below.refl _ _) | ((with_reducible refine alloc_ ?_ ?_); (focus (first | exact Nat.le_refl _ | (simp; done) | (simp; omega) | omega))) | ((with_reducible refine set_ ?_ ?_); (focus (first | exact Nat.le_refl _ | (simp; done) | (simp; omega) | omega))) | (with_reducible refine Below.drew ?_) | ((with_reducible refine after_ ?_ (by assumption) ?_); (rotate_left; (focus (first | exact Nat.le_refl _ | (simp; done) | (simp; omega) | omega)))))))
        rcases hq : p x with _ | _
        · have H := Lib.hid (keptC_yes (p := p) hlt (by rw [HX.out]; exact hq))
          have d0 := (HB2.out.cell (p := ⟨g, a * 5, none⟩) glt).trans s0
          have d1 := (HB2.out.cell (p := ⟨g, a * 5 + 1, none⟩) glt).trans s1
          have d2 := (HB2.out.cell (p := ⟨g, a * 5 + 2, none⟩) glt).trans s2
          have d3 := (HB2.out.cell (p := ⟨g, a * 5 + 3, none⟩) glt).trans s3
          have d4 := (HB2.out.cell (p := ⟨g, a * 5 + 4, none⟩) glt).trans s4
          have dz := fun i => (HB2.out.frozen (p := ⟨g, i, none⟩) glt).trans (hz i)
          have b0 := hb2.cell (p := ⟨wr.heap.size, 0, none⟩) (by simp)
          have b1 := hb2.cell (p := ⟨wr.heap.size, 1, none⟩) (by simp)
          have b2 := hb2.cell (p := ⟨wr.heap.size, 2, none⟩) (by simp)
          have b3 := hb2.cell (p := ⟨wr.heap.size, 3, none⟩) (by simp)
          have b4 := hb2.cell (p := ⟨wr.heap.size, 4, none⟩) (by simp)
          simp [go_sem] at b0 b1 b2 b3 b4
          clear hb2 s0 s1 s2 s3 s4 hz hq
          go_wp2_with fail
          go_roundw
          case rel => exact ⟨k + 1, a + 1, cur.set a x, by omega, by omega, by go_num, by go_num, by rw [List.length_set]; exact HCl.out, by rw [H.out, List.length_append, ← HAl.out]; rfl, fun t ht => by
            have h1 := HCl.out
            have h2 := HAl.out
            rw [nth_setC (by omega), H.out, HX.out]
            by_cases e : a = t
            · subst e; rw [if_pos rfl, nth_eq (l := keptC p (o.take k) ++ [x]) (i := a) (by rw [List.length_append, List.length_singleton]; omega), List.getElem_append_right (by omega), List.getElem_singleton]
            · rw [if_neg e, HHd.out t (by omega), nth_eq (l := keptC p (o.take k)) (i := t) (by omega), nth_eq (l := keptC p (o.take k) ++ [x]) (i := t) (by rw [List.length_append, List.length_singleton]; omega), List.getElem_append_left (by omega)], fun t h1 h2 => by
            rw [nth_setC (by have := HCl.out; omega), if_neg (by omega)]; exact HTl.out t (by omega) h2, (HAr.out.carry HB2.out).put a x, grown_puts (Cbn.cells x) (a * 5) (HGr.out.trans (grown_of_below HB2.out))⟩
          case measure => simp [intOf]; omega
        · have H := Lib.hid (keptC_no (p := p) hlt (by rw [HX.out]; exact hq))
          clear hb2 hq
          go_wp2_with fail
          go_roundw
          case rel => exact ⟨k + 1, a, cur, by omega, by omega, rfl, by go_num, HCl.out, by rw [H.out]; exact HAl.out, fun t ht => by rw [H.out]; exact HHd.out t ht, fun t h1 h2 => HTl.out t (by omega) h2, HAr.out.carry HB2.out, HGr.out.trans (grown_of_below HB2.out)⟩
          case measure => simp [intOf]; omega
      · obtain rfl : k = o.length := by omega
        have H := Lib.hid (show keptC p (o.take o.length) = keptC p o by rw [List.take_length])
        have hclr : ∀ (ty : TypeId) (c : Nat), (Builtin.clear_ #[24] ty #[.slice (some ⟨g, a * 5, none⟩) (o.length - a) c]).run Try.prog wr = .ok (.tuple #[]) (wr.setCells g (a * 5) (List.replicate ((o.length - a) * 5) (.int .i64 0))) := fun ty c =>
          run_clear_C wr ty g (a * 5) (o.length - a) c (by omega) (fun j hj => by
            exact harr.isSome (by omega)) (fun j _ => harr.frozen _)
        have hca : ¬ cap = a := by omega
        have i1 : (a : Int) ≤ o.length := by omega
        have i2 : (a : Int) ≤ cap := by omega
        have HE := Lib.hid (HAr.out.head (q := keptC p o) (by have h1 := keptC_le (p := p) o; have h3 := HCl.out; omega) (fun t ht => by
          have h1 := HAl.out
          rw [H.out] at h1
          rw [HHd.out t (by omega), H.out]))
        clear htl harr hgr hcl
        go_wp2_with fail
        go_ret
        exact ⟨cap, by rw [← H.out, ← HAl.out]; rfl, by
          rw [setCells_puts]
          exact HE.out.past (by rw [← H.out, ← HAl.out]; exact Nat.le_refl _) _, by
          rw [setCells_puts]
          exact grown_puts _ _ HGr.out⟩
end Go.Proofs.Ytcmbbhdoienkoaa
