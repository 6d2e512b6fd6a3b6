/- WornCabins and FewestCabins of the program return the plain answers; no conditions but the length. -/
import Derived.Test.YtcmbbhdoienkoaaCbnDel
import Derived.Test.YtcmbbhdoienkoaaCbnSum
import Derived.Test.YtcmbbhdoienkoaaSort
import Derived.Deep.RegionLaw
import Derived.Deep.AppendLies
import Derived.Deep.DeepCutAuto
namespace Go.Proofs.Ytcmbbhdoienkoaa
open Go.RowKit Go.Lib

theorem arr_of_some {w : World} {base g k c : Nat} {o : List Int} (h : w.ownsRow base 3 1 (.slice (some ⟨g, 0, none⟩) k c) k (o.map (Value.int .i64))) (hk : o.length = k) : base ≤ g ∧ Arr w g o := by
  obtain ⟨hx, ⟨h0, _⟩ | ⟨g', cap, cur, he, hg, hh, hnc, hmax, hcs, htk⟩⟩ := h
  · cases h0
  · injection he with e1 e2 e3
    injection e1 with e1
    injection e1 with e1
    subst e1
    refine ⟨hg, cur.size, fun i => cur[i]?.getD undef, by omega, ⟨cur, hh, rfl, fun i hi => by simp [hi]⟩, fun i hi => ?_⟩
    have h2 : (o.map (Value.int .i64))[i]? = some (.int .i64 (nth o i)) := by simp [nth_eq hi, hi]
    rw [← htk, List.getElem?_take, if_pos (by omega)] at h2
    simp only [Array.getElem?_toList] at h2
    simp [h2]
theorem sort_n (o : List Int) (n g cap : Nat) (w : World) (hn : o.length = n) (hl : n ≤ 12) (ha : Arr w g o) : Calls Try.prog 35 #[.slice (some ⟨g, 0, none⟩) n cap] w (SortPost o g w) := by
  subst hn
  exact sort_c o g cap w hl ha
theorem retn {p : List Int × Bool} {l : List Int} {b : Bool} {A : Option Addr} {n cap : Nat} (h : p = (l, b)) (hn : l.length = n) : Ending.returned (.tuple #[.slice A n cap, .bool b]) = .returned (.tuple #[.slice A p.1.length cap, .bool p.2]) := by rw [h, ← hn]
theorem wornClo_c (x : Cbn) (m : Int) (gb : Nat) (w : World) (hb : gb < w.heap.size) (hv : w.cell? ⟨gb, 0, none⟩ = some (.int .i64 m)) : Calls Try.prog 43 #[.agg #[.int .i64 x.n, .int .i64 x.s, .int .i64 x.e, .int .i64 x.t, .int .i64 x.r], .pointer (some ⟨gb, 0, none⟩)] w fun e w' => e = .returned (.bool (x.t == 3 || decide (x.r < m))) ∧ Below w.heap.size w w' := by
  rcases h : (x.t == 3) with _ | _
  · go_enter Try.func43, Try.ntmps43
    go_wp2_with fail
    go_ret
    exact ⟨rfl, (by repeat (first | (with_reducible exact Below.refl _ _) | ((with_reducible refine alloc_ ?_ ?_); (focus (first | exact Nat.le_refl _ | (simp; done) | (simp; omega) | omega))) | ((with_reducible refine set_ ?_ ?_); (focus (first | exact Nat.le_refl _ | (simp; done) | (simp; omega) | omega))) | (with_reducible refine Below.drew ?_) | ((with_reducible refine after_ ?_ (by assumption) ?_); (rotate_left; (focus (first | exact Nat.le_refl _ | (simp; done) | (simp; omega) | omega))))))⟩
  · go_enter Try.func43, Try.ntmps43
    go_wp2_with fail
    go_ret
    exact ⟨rfl, (by repeat (first | (with_reducible exact Below.refl _ _) | ((with_reducible refine alloc_ ?_ ?_); (focus (first | exact Nat.le_refl _ | (simp; done) | (simp; omega) | omega))) | ((with_reducible refine set_ ?_ ?_); (focus (first | exact Nat.le_refl _ | (simp; done) | (simp; omega) | omega))) | (with_reducible refine Below.drew ?_) | ((with_reducible refine after_ ?_ (by assumption) ?_); (rotate_left; (focus (first | exact Nat.le_refl _ | (simp; done) | (simp; omega) | omega))))))⟩
theorem fewClo_c (x : Cbn) (w : World) : Calls Try.prog 31 #[.agg #[.int .i64 x.n, .int .i64 x.s, .int .i64 x.e, .int .i64 x.t, .int .i64 x.r]] w fun e w' => e = .returned (.bool (x.t != 0)) ∧ Below w.heap.size w w' := by
  go_enter Try.func31, Try.ntmps31
  go_wp2_with fail
  go_ret
  exact ⟨rfl, (by repeat (first | (with_reducible exact Below.refl _ _) | ((with_reducible refine alloc_ ?_ ?_); (focus (first | exact Nat.le_refl _ | (simp; done) | (simp; omega) | omega))) | ((with_reducible refine set_ ?_ ?_); (focus (first | exact Nat.le_refl _ | (simp; done) | (simp; omega) | omega))) | (with_reducible refine Below.drew ?_) | ((with_reducible refine after_ ?_ (by assumption) ?_); (rotate_left; (focus (first | exact Nat.le_refl _ | (simp; done) | (simp; omega) | omega))))))⟩
theorem worn_kept {l : List Cbn} {m : Int} (hg : goodC l = true) (hm : inR m 1 99999 = true) : wornC l m = ((ordC Cbn.r (keptC (fun x => x.t == 3 || decide (x.r < m)) l)).map Cbn.n, true) := by
  rw [wornC, hg, hm]
  simp only [Bool.and_self, if_true, keptC]
  rw [ordC_filter]
  congr 3
  funext c
  rw [Bool.eq_iff_iff]
  simp
theorem few_kept {l : List Cbn} {p : Int} (hg : goodC l = true) (hp : inR p 0 200 = true) : fewest l p = if (pickC (ordC Cbn.s (keptC (fun x => x.t != 0) l)) p).2 ≤ 0 then (isort (pickC (ordC Cbn.s (keptC (fun x => x.t != 0) l)) p).1, true) else ([], false) := by
  have e : pickC (ordC Cbn.s (keptC (fun x => x.t != 0) l)) p = pickC (ordC Cbn.s l) p := by
    unfold keptC
    rw [ordC_filter, pickC, pickC, ← fold_ready (ordC Cbn.s l)]
    congr 2
    funext c
    rw [Bool.eq_iff_iff]
    simp
  rw [e, fewest, hg, hp]
  simp
theorem pick_kept_t {l : List Cbn} {k : Nat} (hk : k < (ordC Cbn.s (keptC (fun x => x.t != 0) l)).length) : (nth (ordC Cbn.s (keptC (fun x => x.t != 0) l)) k).t = 0 := by
  have h1 := nth_mem hk
  have h2 := (ordC_perm (key := Cbn.s) _).mem_iff.1 h1
  have h3 := (List.mem_filter.1 h2).2
  simpa using h3
theorem pick_len {o : List Cbn} {p : Int} : ∀ k, k ≤ o.length → (pickC (o.take k) p).1.length ≤ k
  | 0, _ => by simp [pickC]
  | k + 1, hk => by
    have h := pick_len (o := o) (p := p) k (by omega)
    rw [pickC_snoc (by omega), stepC]
    split
    · simp; omega
    · omega
theorem pick_room {o : List Cbn} {p : Int} (h : ∀ i, i < o.length → 1 ≤ (nth o i).s ∧ (nth o i).s ≤ 16) : ∀ k, k ≤ o.length → p - k * 16 ≤ (pickC (o.take k) p).2 ∧ (pickC (o.take k) p).2 ≤ p
  | 0, _ => by simp [pickC]
  | k + 1, hk => by
    have h1 := pick_room h k (by omega) (p := p)
    have h2 := h k (by omega)
    rw [pickC_snoc (by omega), stepC]
    split
    · simp only; omega
    · omega
theorem kept_ok {l : List Cbn} {p : Cbn → Bool} {key : Cbn → Int} (hg : goodC l = true) {i : Nat} (hi : i < (ordC key (keptC p l)).length) : okC (nth (ordC key (keptC p l)) i) = true := by
  have h1 := nth_mem hi
  have h2 := (ordC_perm (key := key) _).mem_iff.1 h1
  obtain ⟨j, hj, e⟩ := List.getElem_of_mem (List.mem_filter.1 h2).1
  rw [← e, ← nth_eq hj]
  exact (goodC_true hg).2.1 j hj
set_option maxHeartbeats 1600000 in
theorem implWornCabins_c (l : List Cbn) (b off cap : Nat) (m : Int) (w : World) (hl : l.length ≤ 1048576) (hr : Rd w w.heap.size 5 Cbn.cells (some ⟨b, off, none⟩) l) :
    Calls Try.prog 17 #[.slice (some ⟨b, off, none⟩) l.length cap, .int .i64 m] w (ListPost (wornC l m) w) := by
  have hr0 := hr.alloc (.cells #[.int .i64 m] 3)
  rcases hg : goodC l with _ | _
  · have H := Lib.hid (show wornC l m = ([], false) by simp [wornC, hg])
    go_enter Try.func17, Try.ntmps17
    go_wp2_with fail
    refine (AreCabins_c l _ _ _ hl hr0).mono ?_
    rintro e w1 ⟨rfl, hb1⟩
    rw [hg]
    clear hg
    go_wp2_with fail
    go_ret2
    exact ⟨none, 0, retl H.out, by rw [H.out]; exact Own.nil, (by repeat (first | (with_reducible exact Below.refl _ _) | ((with_reducible refine alloc_ ?_ ?_); (focus (first | exact Nat.le_refl _ | (simp; done) | (simp; omega) | omega))) | ((with_reducible refine set_ ?_ ?_); (focus (first | exact Nat.le_refl _ | (simp; done) | (simp; omega) | omega))) | (with_reducible refine Below.drew ?_) | ((with_reducible refine after_ ?_ (by assumption) ?_); (rotate_left; (focus (first | exact Nat.le_refl _ | (simp; done) | (simp; omega) | omega))))))⟩
  rcases h1 : inR m 1 99999 with _ | _
  · have H := Lib.hid (show wornC l m = ([], false) by simp [wornC, h1])
    go_enter Try.func17, Try.ntmps17
    go_wp2_with fail
    refine (AreCabins_c l _ _ _ hl hr0).mono ?_
    rintro e w1 ⟨rfl, hb1⟩
    rw [hg]
    have c1 := hb1.cell (p := ⟨w.heap.size, 0, none⟩) (by simp)
    simp [go_sem] at c1
    clear hg
    go_wp2_with (go_at_call 28; refine (within_c _ _ _ _).mono ?_; rintro e w' ⟨rfl, rfl⟩)
    go_ret2
    exact ⟨none, 0, retl H.out, by rw [H.out]; exact Own.nil, (by repeat (first | (with_reducible exact Below.refl _ _) | ((with_reducible refine alloc_ ?_ ?_); (focus (first | exact Nat.le_refl _ | (simp; done) | (simp; omega) | omega))) | ((with_reducible refine set_ ?_ ?_); (focus (first | exact Nat.le_refl _ | (simp; done) | (simp; omega) | omega))) | (with_reducible refine Below.drew ?_) | ((with_reducible refine after_ ?_ (by assumption) ?_); (rotate_left; (focus (first | exact Nat.le_refl _ | (simp; done) | (simp; omega) | omega))))))⟩
  have H := Lib.hid (worn_kept hg h1)
  have hl12 := (goodC_true hg).1
  have hkl := keptC_le (p := fun x => x.t == 3 || decide (x.r < m)) l
  go_enter Try.func17, Try.ntmps17
  go_wp2_with fail
  refine (AreCabins_c l _ _ _ hl hr0).mono ?_
  rintro e w1 ⟨rfl, hb1⟩
  rw [hg]
  have c1 := hb1.cell (p := ⟨w.heap.size, 0, none⟩) (by simp)
  simp [go_sem] at c1
  have HC1 := Lib.hid c1
  have HB1 := Lib.hid (show Below w.heap.size w w1 from (by repeat (first | (with_reducible exact Below.refl _ _) | ((with_reducible refine alloc_ ?_ ?_); (focus (first | exact Nat.le_refl _ | (simp; done) | (simp; omega) | omega))) | ((with_reducible refine set_ ?_ ?_); (focus (first | exact Nat.le_refl _ | (simp; done) | (simp; omega) | omega))) | (with_reducible refine Below.drew ?_) | ((with_reducible refine after_ ?_ (by assumption) ?_); (rotate_left; (focus (first | exact Nat.le_refl _ | (simp; done) | (simp; omega) | omega)))))))
  have HR1 := Lib.hid (hr0.carry hb1)
  have l1 : w.heap.size < w1.heap.size := by have := hb1.size; simp at this; omega
  clear hg hb1 hr hr0
  go_wp2_with (go_at_call 28; refine (within_c _ _ _ _).mono ?_; rintro e w' ⟨rfl, rfl⟩)
  clear h1 c1
  refine (cloneC_c l b off _ _ (by omega) HR1.out).mono ?_
  rintro e w2 ⟨g, gc, rfl, hgc, hg0, harr, hb2⟩
  have HA2 := Lib.hid harr
  have HB2 := Lib.hid (HB1.out.trans (hb2.mono HB1.out.size))
  have HC2 := Lib.hid ((hb2.cell (p := ⟨w.heap.size, 0, none⟩) l1).trans HC1.out)
  have l2 : w.heap.size < w2.heap.size := Nat.lt_of_lt_of_le l1 hb2.size
  have hgw : w.heap.size < g := by omega
  clear harr hb2 HC1 HR1 HB1
  go_wp2_with fail
  refine (delWorn_c l g gc w.heap.size w2 (by omega) hgc HA2.out (fun x => x.t == 3 || decide (x.r < m)) (fun x w' hw => wornClo_c x m _ w' (Nat.lt_of_lt_of_le l2 hw.size) ((World.cell?_of_block (a := ⟨w.heap.size, 0, none⟩) (hw.block _ l2 (by simp; omega))).trans HC2.out))).mono ?_
  rintro e w3 ⟨c3, rfl, harr, hgr⟩
  obtain ⟨K, hK⟩ : ∃ K, keptC (fun x => x.t == 3 || decide (x.r < m)) l = K := ⟨_, rfl⟩
  rw [hK] at harr hkl H ⊢
  have HA3 := Lib.hid harr
  have HB3 := Lib.hid (HB2.out.trans (grown_below hgr (by omega) HB2.out.size))
  clear harr hgr hK HB2 HC2
  go_wp2_with fail
  refine (sortWorn_c K g c3 w3 (by omega) HA3.out).mono ?_
  rintro e w4 ⟨rfl, harr, hgr⟩
  obtain ⟨q, hq⟩ : ∃ q, ordC Cbn.r K = q := ⟨_, rfl⟩
  have HQ := Lib.hid (show q.length = K.length by rw [← hq]; exact ordC_len K)
  rw [hq] at harr H
  obtain ⟨n, hn⟩ : ∃ n, K.length = n := ⟨_, rfl⟩
  rw [hn] at HQ hkl ⊢
  have HA4 := Lib.hid harr
  have HB4 := Lib.hid (HB3.out.trans (grown_below hgr (by omega) HB3.out.size))
  have glt := harr.lt
  clear harr hgr hq hn HB3 HA3
  go_wp2_with fail
  go_loopw [7, 9, 27] (fun v _ i wr => ∃ k : Nat, k ≤ n ∧ i = .int .i64 k ∧ wr.ownsRow w4.heap.size 3 1 v k (((q.take k).map Cbn.n).map (Value.int .i64)) ∧ Below w4.heap.size w4 wr) (fun _ _ i _ => n - (intOf i).toNat)
  case atStart => exact ⟨0, Nat.zero_le _, rfl, ownsRow_empty w4 3 1, (by repeat (first | (with_reducible exact Below.refl _ _) | ((with_reducible refine alloc_ ?_ ?_); (focus (first | exact Nat.le_refl _ | (simp; done) | (simp; omega) | omega))) | ((with_reducible refine set_ ?_ ?_); (focus (first | exact Nat.le_refl _ | (simp; done) | (simp; omega) | omega))) | (with_reducible refine Below.drew ?_) | ((with_reducible refine after_ ?_ (by assumption) ?_); (rotate_left; (focus (first | exact Nat.le_refl _ | (simp; done) | (simp; omega) | omega))))))⟩
  case round =>
    obtain ⟨k, hk, rfl, hown, hbel⟩ := hrel
    have HB := Lib.hid hbel
    have HO := Lib.hid hown
    have z1 := hbel.size
    by_cases hlt : k < n
    · have hlq : k < q.length := by rw [HQ.out]; exact hlt
      obtain ⟨hc0, hc1, hc2, hc3, hc4⟩ := (HA4.out.below hbel glt).cell hlq
      have HY := Lib.hid (show ((q.take (k + 1)).map Cbn.n).map (Value.int .i64) = ((q.take k).map Cbn.n).map (Value.int .i64) ++ [.int .i64 (nth q k).n] by rw [take_snocC hlq]; simp)
      have l3 : g < wr.heap.size := by omega
      obtain ⟨x, hx⟩ : ∃ x, nth q k = x := ⟨_, rfl⟩
      rw [hx] at HY hc0 hc1 hc2 hc3 hc4
      clear hbel hown hlq hx
      go_wp2_with (at_builtin; refine wpList_push _ rfl _ _ 27 rfl w4.heap.size 3 (.int .i64 0) 1 8 Try.underlying27 info_int rfl (by decide) (by decide) _ _ _ rfl ((ownsRow_below HO.out (by repeat (first | (with_reducible exact Below.refl _ _) | ((with_reducible refine alloc_ ?_ ?_); (focus (first | exact Nat.le_refl _ | (simp; done) | (simp; omega) | omega))) | ((with_reducible refine set_ ?_ ?_); (focus (first | exact Nat.le_refl _ | (simp; done) | (simp; omega) | omega))) | (with_reducible refine Below.drew ?_) | ((with_reducible refine after_ ?_ (by assumption) ?_); (rotate_left; (focus (first | exact Nat.le_refl _ | (simp; done) | (simp; omega) | omega))))))).alloc _) (wr.heap.size + 1) [.int .i64 x.n] rfl rfl ?c1 ?c2 ?c3 ?c4 ?_)
      try case c1 =>
        intro j u hj
        match j, hj with
        | 0, hj => simp at hj; subst hj; simp [go_sem]
      case c2 => first | rfl | (intro u hu; simp at hu; subst hu; rfl)
      case c3 => omega
      case c4 => first | omega | (simp; omega)
      intro v' w' hown' hb'
      have HO' := Lib.hid hown'
      have HB' := Lib.hid (show Below w4.heap.size w4 w' from HB.out.trans (((((Below.refl _ _).alloc (Nat.le_refl _) _).alloc (by simp) _).mono z1).trans (hb'.mono (by simp))))
      clear hown' hb'
      go_wp2_with fail
      go_roundw
      case rel => exact ⟨k + 1, by omega, by go_num, by rw [HY.out]; simpa using HO'.out, HB'.out⟩
      case measure => simp [intOf]; omega
    · obtain rfl : k = n := by omega
      have HE := Lib.hid (show (q.take k).map Cbn.n = q.map Cbn.n by rw [← HQ.out, List.take_length])
      have HL := Lib.hid (show (q.map Cbn.n).length = k by rw [List.length_map]; exact HQ.out)
      clear hbel
      obtain ⟨A', cap', rfl⟩ := ownsRow_shape hown
      clear hown
      go_wp2_with fail
      go_ret2
      exact ⟨A', cap', retn H.out HL.out, by rw [H.out]; exact (Own.of_row' (l := q.map Cbn.n) HO.out HL.out.symm (by rw [HE.out, flat_ints]) fun _ => rfl).less HB4.out.size, HB4.out.trans (HB.out.mono HB4.out.size)⟩
set_option maxHeartbeats 3200000 in
theorem implFewestCabins_c (l : List Cbn) (b off cap : Nat) (p : Int) (w : World) (hl : l.length ≤ 1048576) (hr : Rd w w.heap.size 5 Cbn.cells (some ⟨b, off, none⟩) l) :
    Calls Try.prog 6 #[.slice (some ⟨b, off, none⟩) l.length cap, .int .i64 p] w (ListPost (fewest l p) w) := by
  rcases hg : goodC l with _ | _
  · have H := Lib.hid (show fewest l p = ([], false) by simp [fewest, hg])
    go_enter Try.func6, Try.ntmps6
    go_wp2_with fail
    refine (AreCabins_c l _ _ _ hl hr).mono ?_
    rintro e w1 ⟨rfl, hb1⟩
    rw [hg]
    clear hg
    go_wp2_with fail
    go_ret2
    exact ⟨none, 0, retl H.out, by rw [H.out]; exact Own.nil, (by repeat (first | (with_reducible exact Below.refl _ _) | ((with_reducible refine alloc_ ?_ ?_); (focus (first | exact Nat.le_refl _ | (simp; done) | (simp; omega) | omega))) | ((with_reducible refine set_ ?_ ?_); (focus (first | exact Nat.le_refl _ | (simp; done) | (simp; omega) | omega))) | (with_reducible refine Below.drew ?_) | ((with_reducible refine after_ ?_ (by assumption) ?_); (rotate_left; (focus (first | exact Nat.le_refl _ | (simp; done) | (simp; omega) | omega))))))⟩
  rcases h1 : inR p 0 200 with _ | _
  · have H := Lib.hid (show fewest l p = ([], false) by simp [fewest, h1])
    go_enter Try.func6, Try.ntmps6
    go_wp2_with fail
    refine (AreCabins_c l _ _ _ hl hr).mono ?_
    rintro e w1 ⟨rfl, hb1⟩
    rw [hg]
    clear hg
    go_wp2_with (go_at_call 28; refine (within_c _ _ _ _).mono ?_; rintro e w' ⟨rfl, rfl⟩)
    go_ret2
    exact ⟨none, 0, retl H.out, by rw [H.out]; exact Own.nil, (by repeat (first | (with_reducible exact Below.refl _ _) | ((with_reducible refine alloc_ ?_ ?_); (focus (first | exact Nat.le_refl _ | (simp; done) | (simp; omega) | omega))) | ((with_reducible refine set_ ?_ ?_); (focus (first | exact Nat.le_refl _ | (simp; done) | (simp; omega) | omega))) | (with_reducible refine Below.drew ?_) | ((with_reducible refine after_ ?_ (by assumption) ?_); (rotate_left; (focus (first | exact Nat.le_refl _ | (simp; done) | (simp; omega) | omega))))))⟩
  have H := Lib.hid (few_kept hg h1)
  have hl12 := (goodC_true hg).1
  have hkl := keptC_le (p := fun x => x.t != 0) l
  have HT := Lib.hid (fun k (hk : k < (ordC Cbn.s (keptC (fun x => x.t != 0) l)).length) => pick_kept_t (l := l) hk)
  have HK := Lib.hid (fun k (hk : k < (ordC Cbn.s (keptC (fun x => x.t != 0) l)).length) => (okC_true.1 (kept_ok hg hk)).2.1)
  obtain ⟨p0, p1⟩ := inR_true.1 h1
  go_enter Try.func6, Try.ntmps6
  go_wp2_with fail
  refine (AreCabins_c l _ _ _ hl hr).mono ?_
  rintro e w1 ⟨rfl, hb1⟩
  rw [hg]
  have HB1 := Lib.hid hb1
  have HR1 := Lib.hid (hr.carry hb1)
  clear hg hb1 hr
  go_wp2_with (go_at_call 28; refine (within_c _ _ _ _).mono ?_; rintro e w' ⟨rfl, rfl⟩)
  clear h1
  refine (cloneC_c l b off _ _ (by omega) HR1.out).mono ?_
  rintro e w2 ⟨g, gc, rfl, hgc, hg0, harr, hb2⟩
  have HA2 := Lib.hid harr
  have HB2 := Lib.hid (HB1.out.trans (hb2.mono HB1.out.size))
  have hgw : w.heap.size ≤ g := by have := HB1.out.size; omega
  clear harr hb2 HR1 HB1
  go_wp2_with fail
  refine (delFew_c l g gc w2 (by omega) hgc HA2.out (fun x => x.t != 0) (fun x w' _ => fewClo_c x w')).mono ?_
  rintro e w3 ⟨c3, rfl, harr, hgr⟩
  obtain ⟨K, hK⟩ : ∃ K, keptC (fun x => x.t != 0) l = K := ⟨_, rfl⟩
  rw [hK] at harr hkl H HT HK ⊢
  have HA3 := Lib.hid harr
  have HB3 := Lib.hid (HB2.out.trans (grown_below hgr hgw HB2.out.size))
  clear harr hgr hK HB2
  go_wp2_with fail
  refine (sortFew_c K g c3 w3 (by omega) HA3.out).mono ?_
  rintro e w4 ⟨rfl, harr, hgr⟩
  obtain ⟨q, hq⟩ : ∃ q, ordC Cbn.s K = q := ⟨_, rfl⟩
  have HQ := Lib.hid (show q.length = K.length by rw [← hq]; exact ordC_len K)
  rw [hq] at harr H HT HK
  obtain ⟨n, hn⟩ : ∃ n, K.length = n := ⟨_, rfl⟩
  rw [hn] at HQ hkl ⊢
  have HA4 := Lib.hid harr
  have HB4 := Lib.hid (HB3.out.trans (grown_below hgr hgw HB3.out.size))
  have glt := harr.lt
  clear harr hgr hq hn HB3 HA3
  go_wp2_with fail
  go_loopw [7, 8, 10, 27] (fun v s _ i wr => ∃ (k g1 c1 : Nat), k ≤ n ∧ i = .int .i64 k ∧ v = .slice (some ⟨g1, 0, none⟩) k c1 ∧ (pickC (q.take k) p).1.length = k ∧ s = .int .i64 (p - (pickC (q.take k) p).2) ∧ wr.ownsRow w4.heap.size 3 1 v k ((pickC (q.take k) p).1.map (Value.int .i64)) ∧ Below w4.heap.size w4 wr) (fun _ _ _ i _ => n - (intOf i).toNat)
  case atStart => exact ⟨0, w4.heap.size, 0, Nat.zero_le _, rfl, rfl, rfl, by simp [pickC], ownsRow_empty w4 3 1, (by repeat (first | (with_reducible exact Below.refl _ _) | ((with_reducible refine alloc_ ?_ ?_); (focus (first | exact Nat.le_refl _ | (simp; done) | (simp; omega) | omega))) | ((with_reducible refine set_ ?_ ?_); (focus (first | exact Nat.le_refl _ | (simp; done) | (simp; omega) | omega))) | (with_reducible refine Below.drew ?_) | ((with_reducible refine after_ ?_ (by assumption) ?_); (rotate_left; (focus (first | exact Nat.le_refl _ | (simp; done) | (simp; omega) | omega))))))⟩
  case round =>
    obtain ⟨k, g1, c1, hk, rfl, rfl, hpl, rfl, hown, hbel⟩ := hrel
    have HB := Lib.hid hbel
    have HO := Lib.hid hown
    have HPL := Lib.hid hpl
    have z1 := hbel.size
    obtain ⟨b1, b2⟩ := pick_room (o := q) (p := p) HK.out k (by have := HQ.out; omega)
    obtain ⟨S, hS⟩ : ∃ S, pickC (q.take k) p = S := ⟨_, rfl⟩
    rw [hS] at HO HPL b1 b2
    rw [hS]
    have HS := Lib.hid hS
    obtain ⟨hu, hrr⟩ := S
    simp only at b1 b2
    clear hS hpl hown
    by_cases hlt : k < n
    · have hlq : k < q.length := by rw [HQ.out]; exact hlt
      obtain ⟨hc0, hc1, hc2, hc3, hc4⟩ := (HA4.out.below hbel glt).cell hlq
      have hkt := HT.out k hlq
      obtain ⟨e1, e2⟩ := HK.out k hlq
      have l3 : g < wr.heap.size := by omega
      have HN := Lib.hid (pickC_snoc (p := p) hlq)
      obtain ⟨x, hx⟩ : ∃ x, nth q k = x := ⟨_, rfl⟩
      rw [hx] at HN hkt e1 e2 hc0 hc1 hc2 hc3 hc4
      have HX := Lib.hid hx
      have HKT := Lib.hid hkt
      clear hbel hlq hx hkt
      by_cases hr0 : hrr ≤ 0
      · have r1 : p ≤ p - hrr := by omega
        have HP := Lib.hid (show pickC q p = (hu, hrr) by rw [pickC_stay (k := k) (by rw [HS.out]; exact hr0), HS.out])
        have HBX := Lib.hid (show Below w4.heap.size w4 (wr.alloc (.cells #[.int .i64 x.n, .int .i64 x.s, .int .i64 x.e, .int .i64 x.t, .int .i64 x.r] 33)) from HB.out.alloc z1 _)
        have HOX := Lib.hid (HO.out.alloc (.cells #[.int .i64 x.n, .int .i64 x.s, .int .i64 x.e, .int .i64 x.t, .int .i64 x.r] 33))
        have r2 : ¬ p - hrr < p := by omega
        have hkc : k ≤ 12 := by omega
        go_wp2_with fail
        have H2 := Lib.hid (show fewest l p = (isort hu, true) by rw [H.out, HP.out, if_pos hr0])
        obtain ⟨g1lt, harr⟩ := arr_of_some HOX.out HPL.out
        have HAR := Lib.hid harr
        clear harr
        refine (sort_n hu k g1 c1 _ HPL.out hkc HAR.out).mono ?_
        rintro e w5 ⟨rfl, harr, hgr⟩
        have HA5 := Lib.hid harr
        have HB5 := Lib.hid ((HB4.out.trans (HBX.out.mono HB4.out.size)).trans (grown_below hgr (Nat.le_trans HB4.out.size g1lt) (Nat.le_trans HB4.out.size HBX.out.size)))
        clear harr hgr
        go_wp2_with fail
        go_ret2
        exact ⟨some ⟨g1, 0, none⟩, c1, retn H2.out (by rw [isort_len]; exact HPL.out), by rw [H2.out]; exact HA5.out.own (Nat.le_trans HB4.out.size g1lt), HB5.out⟩
      · have r1 : ¬ p ≤ p - hrr := by omega
        have HN2 := Lib.hid (show pickC (q.take (k + 1)) p = (hu ++ [x.n], hrr - x.s) by rw [HN.out, HS.out, stepC, if_pos ⟨by simp only; omega, HKT.out⟩])
        obtain ⟨wb, hwb⟩ : ∃ wb, wr.alloc (.cells #[.int .i64 x.n, .int .i64 x.s, .int .i64 x.e, .int .i64 x.t, .int .i64 x.r] 33) = wb := ⟨_, rfl⟩
        have HWB := Lib.hid (hwb ▸ Box.new wr (Cbn.cells x) 33 : Box wb wr.heap.size 33 5 (Cbn.cells x))
        have HBw := Lib.hid (show Below w4.heap.size w4 wb by rw [← hwb]; exact HB.out.alloc z1 _)
        have HOw := Lib.hid (show wb.ownsRow w4.heap.size 3 1 (.slice (some ⟨g1, 0, none⟩) k c1) k (hu.map (Value.int .i64)) by rw [← hwb]; exact HO.out.alloc _)
        have g1lt := (arr_of_some HO.out HPL.out).2.lt
        have hne : (Value.slice (some ⟨g1, 0, none⟩) k c1).ownBlock ≠ some wr.heap.size := by simp only [Value.ownBlock, ne_eq, Option.some.injEq]; omega
        have q0 := HWB.out.cell (j := 0) rfl
        have q1 := HWB.out.cell (j := 1) rfl
        have ql := HWB.out.lt
        have zb := HBw.out.size
        go_wp2_with fail
        try rw [hwb]
        clear hc0 hc1 hc2 hc3 hc4 hwb
        have f1 : IntKind.i64.wrap (p - hrr + x.s) = p - hrr + x.s := IntWalk.i64_in _ (by omega)
        go_region_law (first
          | (refine step_extend rfl (.tmp 34) (.tmp 37) 27 rfl w4.heap.size 3 (.int .i64 0) 1 8 Try.underlying27 info_int rfl (by decide) (by decide) _ k _ rfl (ownsRow_below HOw.out (by repeat (first | (with_reducible exact Below.refl _ _) | ((with_reducible refine alloc_ ?_ ?_); (focus (first | exact Nat.le_refl _ | (simp; done) | (simp; omega) | omega))) | ((with_reducible refine set_ ?_ ?_); (focus (first | exact Nat.le_refl _ | (simp; done) | (simp; omega) | omega))) | (with_reducible refine Below.drew ?_) | ((with_reducible refine after_ ?_ (by assumption) ?_); (rotate_left; (focus (first | exact Nat.le_refl _ | (simp; done) | (simp; omega) | omega))))))) wb.heap.size 0 1 1 [.int .i64 x.n] rfl rfl (news_one (cs := #[.int .i64 x.n]) (by first | exact heap_alloc_new _ _ | exact heap_new' _ _ rfl)) (ints_one' [_]) (by omega) (by first | omega | (simp; omega)) ?_; intro v' w' hown' hb' hk'; obtain ⟨g', c', rfl⟩ := Joins.ownsRow_form hown' (by omega); have HO' := Lib.hid hown'; have HB' := Lib.hid hb'; have x0 := ((HWB.out.carry (show Below wb.heap.size wb _ from (by repeat (first | (with_reducible exact Below.refl _ _) | ((with_reducible refine alloc_ ?_ ?_); (focus (first | exact Nat.le_refl _ | (simp; done) | (simp; omega) | omega))) | ((with_reducible refine set_ ?_ ?_); (focus (first | exact Nat.le_refl _ | (simp; done) | (simp; omega) | omega))) | (with_reducible refine Below.drew ?_) | ((with_reducible refine after_ ?_ (by assumption) ?_); (rotate_left; (focus (first | exact Nat.le_refl _ | (simp; done) | (simp; omega) | omega)))))))).keep (hk' wr.heap.size (by first | omega | (simp; omega)) hne).1).cell (j := 1) rfl; clear hown' hk'))
        all_goals
          have HBn := Lib.hid (HBw.out.trans ((((Below.refl _ _).alloc (Nat.le_refl _) (.cells #[.int .i64 x.n] 3)).drew.mono zb).trans HB'.out))
          clear q0 q1 x0
          go_wp2_with fail
          go_roundw
          case rel => exact ⟨k + 1, g', c', by omega, by go_num, rfl, by rw [HN2.out]; simp [HPL.out], by rw [HN2.out]; simp only; congr 1; omega, by rw [HN2.out]; simpa using HO'.out, HBn.out⟩
          case measure => simp [intOf]; omega
    · obtain rfl : k = n := by omega
      have HP := Lib.hid (show pickC q p = (hu, hrr) by rw [← HS.out, ← HQ.out, List.take_length])
      clear hbel
      by_cases hr0 : hrr ≤ 0
      · have r2 : ¬ p - hrr < p := by omega
        have hkc : k ≤ 12 := by omega
        go_wp2_with fail
        have H2 := Lib.hid (show fewest l p = (isort hu, true) by rw [H.out, HP.out, if_pos hr0])
        obtain ⟨g1lt, harr⟩ := arr_of_some HO.out HPL.out
        have HAR := Lib.hid harr
        clear harr
        refine (sort_n hu k g1 c1 _ HPL.out hkc HAR.out).mono ?_
        rintro e w5 ⟨rfl, harr, hgr⟩
        have HA5 := Lib.hid harr
        have HB5 := Lib.hid ((HB4.out.trans (HB.out.mono HB4.out.size)).trans (grown_below hgr (Nat.le_trans HB4.out.size g1lt) (Nat.le_trans HB4.out.size HB.out.size)))
        clear harr hgr
        go_wp2_with fail
        go_ret2
        exact ⟨some ⟨g1, 0, none⟩, c1, retn H2.out (by rw [isort_len]; exact HPL.out), by rw [H2.out]; exact HA5.out.own (Nat.le_trans HB4.out.size g1lt), HB5.out⟩
      · have r2 : p - hrr < p := by omega
        have H2 := Lib.hid (show fewest l p = ([], false) by rw [H.out, HP.out, if_neg hr0])
        go_wp2_with fail
        go_ret2
        exact ⟨none, 0, retl H2.out, by rw [H2.out]; exact Own.nil, HB4.out.trans (HB.out.mono HB4.out.size)⟩
end Go.Proofs.Ytcmbbhdoienkoaa
