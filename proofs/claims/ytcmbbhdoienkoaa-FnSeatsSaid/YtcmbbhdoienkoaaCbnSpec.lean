/- WornCabins and FewestCabins of the reference return the plain answers; no conditions but the length. -/
import Derived.Test.YtcmbbhdoienkoaaCbnOrd
import Derived.Test.YtcmbbhdoienkoaaCbnSum
import Derived.Test.YtcmbbhdoienkoaaCbnFew
namespace Go.Proofs.Ytcmbbhdoienkoaa
open Go.RowKit Go.Lib

def wornF (m : Int) (c : Cbn) : Bool := !decide (c.t = 3) && decide (m ≤ c.r)
def wornTo (q : List Cbn) (m : Int) (k : Nat) : List Int := ((q.take k).filter (wornF m)).map Cbn.n
theorem wornTo_yes {q : List Cbn} {m : Int} {k : Nat} (hk : k < q.length) (h : wornF m (nth q k) = true) : wornTo q m (k + 1) = wornTo q m k ++ [(nth q k).n] := by
  unfold wornTo; rw [take_snocC hk]; simp [List.filter_append, h]
theorem wornTo_no {q : List Cbn} {m : Int} {k : Nat} (hk : k < q.length) (h : wornF m (nth q k) = false) : wornTo q m (k + 1) = wornTo q m k := by
  unfold wornTo; rw [take_snocC hk]; simp [List.filter_append, h]
theorem wornTo_len {q : List Cbn} {m : Int} {k : Nat} : (wornTo q m k).length ≤ k := by
  unfold wornTo
  rw [List.length_map]
  exact Nat.le_trans (List.length_filter_le _ _) (by rw [List.length_take]; omega)
set_option maxHeartbeats 1600000 in
theorem specWornCabins_c (l : List Cbn) (A : Option Addr) (cap : Nat) (m : Int) (w : World) (hl : l.length ≤ 1048576) (hr : Rd w w.heap.size 5 Cbn.cells A l) :
    Calls Try.prog 18 #[.slice A l.length cap, .int .i64 m] w (ListPost (wornC l m) w) := by
  have hr0 := hr.alloc (.cells #[] 3)
  rcases hg : goodC l with _ | _
  · have H := Lib.hid (show wornC l m = ([], false) by simp [wornC, hg])
    go_enter Try.func18, Try.ntmps18
    go_wp2_with fail
    refine (l5Good_c l _ _ _ hl hr0).mono ?_
    rintro e w1 ⟨rfl, hb1⟩
    rw [hg]
    clear hg
    go_wp2_with fail
    go_ret2
    exact ⟨_, 0, retl H.out, by rw [H.out]; exact Own.nil, (by repeat (first | (with_reducible exact Below.refl _ _) | ((with_reducible refine alloc_ ?_ ?_); (focus (first | exact Nat.le_refl _ | (simp; done) | (simp; omega) | omega))) | ((with_reducible refine set_ ?_ ?_); (focus (first | exact Nat.le_refl _ | (simp; done) | (simp; omega) | omega))) | (with_reducible refine Below.drew ?_) | ((with_reducible refine after_ ?_ (by assumption) ?_); (rotate_left; (focus (first | exact Nat.le_refl _ | (simp; done) | (simp; omega) | omega))))))⟩
  rcases h1 : inR m 1 99999 with _ | _
  · have H := Lib.hid (show wornC l m = ([], false) by simp [wornC, h1])
    go_enter Try.func18, Try.ntmps18
    go_wp2_with fail
    refine (l5Good_c l _ _ _ hl hr0).mono ?_
    rintro e w1 ⟨rfl, hb1⟩
    rw [hg]
    clear hg
    go_wp2_with (go_at_call 37; refine (l1In_c _ _ _ _).mono ?_; rintro e w' ⟨rfl, rfl⟩)
    go_ret2
    exact ⟨_, 0, retl H.out, by rw [H.out]; exact Own.nil, (by repeat (first | (with_reducible exact Below.refl _ _) | ((with_reducible refine alloc_ ?_ ?_); (focus (first | exact Nat.le_refl _ | (simp; done) | (simp; omega) | omega))) | ((with_reducible refine set_ ?_ ?_); (focus (first | exact Nat.le_refl _ | (simp; done) | (simp; omega) | omega))) | (with_reducible refine Below.drew ?_) | ((with_reducible refine after_ ?_ (by assumption) ?_); (rotate_left; (focus (first | exact Nat.le_refl _ | (simp; done) | (simp; omega) | omega))))))⟩
  have H := Lib.hid (show wornC l m = (wornTo (ordC Cbn.r l) m (ordC Cbn.r l).length, true) by
    rw [wornC, hg, h1, wornTo, List.take_length]; rfl)
  have hl12 := (goodC_true hg).1
  have hll := ordC_len (key := Cbn.r) l
  go_enter Try.func18, Try.ntmps18
  go_wp2_with fail
  refine (l5Good_c l _ _ _ hl hr0).mono ?_
  rintro e w1 ⟨rfl, hb1⟩
  rw [hg]
  have HE1 := Lib.hid (ownsRow_below (ownsRow_empty w 3 1) hb1)
  have HB1 := Lib.hid (show Below w.heap.size w w1 from (by repeat (first | (with_reducible exact Below.refl _ _) | ((with_reducible refine alloc_ ?_ ?_); (focus (first | exact Nat.le_refl _ | (simp; done) | (simp; omega) | omega))) | ((with_reducible refine set_ ?_ ?_); (focus (first | exact Nat.le_refl _ | (simp; done) | (simp; omega) | omega))) | (with_reducible refine Below.drew ?_) | ((with_reducible refine after_ ?_ (by assumption) ?_); (rotate_left; (focus (first | exact Nat.le_refl _ | (simp; done) | (simp; omega) | omega)))))))
  have HR1 := Lib.hid (hr0.carry hb1)
  have l1 : w.heap.size < w1.heap.size := by have := hb1.size; simp at this; omega
  clear hg hb1 hr hr0
  go_wp2_with (go_at_call 37; refine (l1In_c _ _ _ _).mono ?_; rintro e w' ⟨rfl, rfl⟩)
  clear h1
  refine (orderTrips_c l _ _ _ hl12 HR1.out).mono ?_
  rintro e w2 ⟨g, gc, rfl, hgc, hg0, harr, hb2⟩
  obtain ⟨q, hq⟩ : ∃ q, ordC Cbn.r l = q := ⟨_, rfl⟩
  rw [hq] at harr hll hgc H ⊢
  obtain ⟨n, hn⟩ : ∃ n, q.length = n := ⟨_, rfl⟩
  rw [hn] at hll hgc H ⊢
  have HQ := Lib.hid hn
  have HA2 := Lib.hid harr
  have HE2 := Lib.hid (ownsRow_below HE1.out hb2)
  have HB2 := Lib.hid (HB1.out.trans (hb2.mono HB1.out.size))
  clear harr hb2 HE1 HB1 HR1 hq hn
  go_wp2_with fail
  go_loopw [6, 8] (fun v i wr => ∃ k : Nat, k ≤ n ∧ i = .int .i64 k ∧ wr.ownsRow w.heap.size 3 1 v (wornTo q m k).length ((wornTo q m k).map (Value.int .i64)) ∧ Below w.heap.size w wr ∧ ArrC wr g q ∧ v.ownBlock ≠ some g) (fun _ i _ => n - (intOf i).toNat)
  case atStart => exact ⟨0, Nat.zero_le _, rfl, HE2.out, HB2.out, HA2.out, by simp [Value.ownBlock]; omega⟩
  case round =>
    obtain ⟨k, hk, rfl, hown, hbel, harr, hne⟩ := hrel
    have HB := Lib.hid hbel
    have HO := Lib.hid hown
    have HA := Lib.hid harr
    have HN := Lib.hid hne
    have z1 := hbel.size
    clear hne
    by_cases hlt : k < n
    · have hlq : k < q.length := by rw [HQ.out]; exact hlt
      obtain ⟨hc0, hc1, hc2, hc3, hc4⟩ := harr.cell hlq
      have l2 := harr.lt
      have hle := wornTo_len (q := q) (m := m) (k := k)
      have HQk := Lib.hid hlq
      obtain ⟨x, hx⟩ : ∃ x, nth q k = x := ⟨_, rfl⟩
      rw [hx] at hc0 hc1 hc2 hc3 hc4
      have HX := Lib.hid hx
      clear hbel hown harr hlq hx
      by_cases ht : x.t = 3
      · have ht' : (x.t != 3) = false := by simp [ht]
        have HY := Lib.hid (wornTo_no (m := m) HQk.out (by rw [HX.out]; simp [wornF, ht]))
        clear ht
        go_wp2_with fail
        go_roundw
        case rel => exact ⟨k + 1, by omega, by go_num, by rw [HY.out]; exact HO.out, HB.out, HA.out, HN.out⟩
        case measure => simp [intOf]; omega
      have ht' : (x.t != 3) = true := by rw [bne_iff_ne]; exact ht
      by_cases hm : m ≤ x.r
      · have HY := Lib.hid (wornTo_yes (m := m) HQk.out (by rw [HX.out]; simp [wornF, ht, hm]))
        rw [HX.out] at HY
        clear ht
        go_wp2_with (at_builtin; refine wpList_push2 _ rfl _ _ 27 rfl w.heap.size 3 (.int .i64 0) 1 8 Try.underlying27 info_int rfl (by decide) (by decide) _ _ _ rfl (HO.out.alloc _) wr.heap.size [.int .i64 x.n] rfl rfl ?c1 ?c2 ?c3 ?c4 ?_)
        try case c1 =>
          intro j u hj
          match j, hj with
          | 0, hj => simp at hj; subst hj; simp [go_sem]
        case c2 => first | rfl | (intro u hu; simp at hu; subst hu; rfl)
        case c3 => omega
        case c4 => first | omega | (simp; omega)
        intro v' w' hown' hb' hk'
        have HO' := Lib.hid hown'
        have HB' := Lib.hid (HB.out.trans ((((Below.refl _ _).alloc (Nat.le_refl _) _).mono z1).trans hb'))
        have HK := Lib.hid (hk' g (by first | omega | (simp; omega)) HN.out)
        have HAa := Lib.hid ((HA.out.carry ((Below.refl _ _).alloc (Nat.le_refl _) (.cells #[.int .i64 x.n] 3))).keep HK.out.1)
        clear hown' hb' hk'
        go_wp2_with fail
        go_roundw
        case rel => exact ⟨k + 1, by omega, by go_num, by rw [HY.out]; simpa using HO'.out, HB'.out, HAa.out, HK.out.2⟩
        case measure => simp [intOf]; omega
      · have HY := Lib.hid (wornTo_no (m := m) HQk.out (by rw [HX.out]; simp [wornF, hm]))
        clear ht
        go_wp2_with fail
        go_roundw
        case rel => exact ⟨k + 1, by omega, by go_num, by rw [HY.out]; exact HO.out, HB.out, HA.out, HN.out⟩
        case measure => simp [intOf]; omega
    · obtain rfl : k = n := by omega
      clear hbel harr
      obtain ⟨A', cap', rfl⟩ := ownsRow_shape hown
      clear hown
      go_wp2_with fail
      go_ret2
      exact ⟨A', cap', retl H.out, by rw [H.out]; exact Own.of_row' HO.out rfl (flat_ints _).symm fun _ => rfl, HB.out⟩
theorem pick_sub {o : List Cbn} {p : Int} : ∀ k, k ≤ o.length → ∀ z ∈ (pickC (o.take k) p).1, z ∈ (o.take k).map Cbn.n
  | 0, _, z, hz => by simp [pickC] at hz
  | k + 1, hk, z, hz => by
    have ih := pick_sub (o := o) (p := p) k (by omega)
    rw [pickC_snoc (by omega), stepC] at hz
    rw [take_snocC (by omega), List.map_append]
    split at hz
    · rcases List.mem_append.1 hz with hz | hz
      · exact List.mem_append_left _ (ih z hz)
      · exact List.mem_append_right _ (by simpa using hz)
    · exact List.mem_append_left _ (ih z hz)
theorem num_fresh {o : List Cbn} (hd : (o.map Cbn.n).Nodup) {k : Nat} (hk : k < o.length) : (nth o k).n ∉ (o.take k).map Cbn.n := by
  intro hm
  obtain ⟨c, hc, he⟩ := List.mem_map.1 hm
  obtain ⟨j, hj, rfl⟩ := List.getElem_of_mem hc
  have hj' : j < k := by simp at hj; omega
  rw [List.Nodup, List.pairwise_iff_getElem] at hd
  have := hd j k (by simp; omega) (by simpa using hk) hj'
  apply this
  rw [nth_eq hk] at he
  simpa using he
theorem pick_fresh {o : List Cbn} {p : Int} (hd : (o.map Cbn.n).Nodup) {k : Nat} (hk : k < o.length) : (nth o k).n ∉ (pickC (o.take k) p).1 := fun h => num_fresh hd hk (pick_sub k (by omega) _ h)
theorem pick_fall {o : List Cbn} {p : Int} (hd : (o.map Cbn.n).Nodup) : ∀ k, k ≤ o.length → Falling (isQ (pickC (o.take k) p).1)
  | 0, _ => by simp [pickC, isQ, Falling]
  | k + 1, hk => by
    have ih := pick_fall (p := p) hd k (by omega)
    rw [pickC_snoc (by omega), stepC]
    split
    · simp only
      rw [isQ_snoc]
      exact insQ_falling ih (fun h => pick_fresh hd (by omega) ((isQ_mem _ _).1 h))
    · exact ih
/-- Where the reference puts the next number. -/
theorem pick_put {u : List Int} {x : Int} (hf : Falling (isQ u)) (hx : x ∉ u) : ∃ k, Places (isort u) x k ∧ isort (u ++ [x]) = (isort u).take k ++ [x] ++ (isort u).drop k := by
  obtain ⟨k, h1, h2⟩ := places hf (fun h => hx ((isQ_mem _ _).1 h))
  exact ⟨k, h1, by rw [isort, isQ_snoc]; exact h2⟩
theorem put_n (o : List Int) (n b off cap : Nat) (x : Int) (k : Nat) (w : World) (hn : o.length = n) (hl : n ≤ 1000) (hcap : n ≤ cap) (hr : Rd w w.heap.size 1 intCells (some ⟨b, off, none⟩) o) (hp : Places o x k) :
    Calls Try.prog 39 #[.slice (some ⟨b, off, none⟩) n cap, .int .i64 x] w (GivesR (o.take k ++ [x] ++ o.drop k) w) := by
  subst hn
  exact l1Put_c o b off cap x k w hl hcap hr hp
set_option maxHeartbeats 3200000 in
theorem specFewestCabins_c (l : List Cbn) (A : Option Addr) (cap : Nat) (p : Int) (w : World) (hl : l.length ≤ 1048576) (hr : Rd w w.heap.size 5 Cbn.cells A l) :
    Calls Try.prog 7 #[.slice A l.length cap, .int .i64 p] w (ListPost (fewest l p) w) := by
  have hr0 := hr.alloc (.cells #[] 3)
  rcases hg : goodC l with _ | _
  · have H := Lib.hid (show fewest l p = ([], false) by simp [fewest, hg])
    go_enter Try.func7, Try.ntmps7
    go_wp2_with fail
    refine (l5Good_c l _ _ _ hl hr0).mono ?_
    rintro e w1 ⟨rfl, hb1⟩
    rw [hg]
    clear hg
    go_wp2_with fail
    go_ret2
    exact ⟨_, 0, retl H.out, by rw [H.out]; exact Own.nil, (by repeat (first | (with_reducible exact Below.refl _ _) | ((with_reducible refine alloc_ ?_ ?_); (focus (first | exact Nat.le_refl _ | (simp; done) | (simp; omega) | omega))) | ((with_reducible refine set_ ?_ ?_); (focus (first | exact Nat.le_refl _ | (simp; done) | (simp; omega) | omega))) | (with_reducible refine Below.drew ?_) | ((with_reducible refine after_ ?_ (by assumption) ?_); (rotate_left; (focus (first | exact Nat.le_refl _ | (simp; done) | (simp; omega) | omega))))))⟩
  rcases h1 : inR p 0 200 with _ | _
  · have H := Lib.hid (show fewest l p = ([], false) by simp [fewest, h1])
    go_enter Try.func7, Try.ntmps7
    go_wp2_with fail
    refine (l5Good_c l _ _ _ hl hr0).mono ?_
    rintro e w1 ⟨rfl, hb1⟩
    rw [hg]
    clear hg
    go_wp2_with (go_at_call 37; refine (l1In_c _ _ _ _).mono ?_; rintro e w' ⟨rfl, rfl⟩)
    go_ret2
    exact ⟨_, 0, retl H.out, by rw [H.out]; exact Own.nil, (by repeat (first | (with_reducible exact Below.refl _ _) | ((with_reducible refine alloc_ ?_ ?_); (focus (first | exact Nat.le_refl _ | (simp; done) | (simp; omega) | omega))) | ((with_reducible refine set_ ?_ ?_); (focus (first | exact Nat.le_refl _ | (simp; done) | (simp; omega) | omega))) | (with_reducible refine Below.drew ?_) | ((with_reducible refine after_ ?_ (by assumption) ?_); (rotate_left; (focus (first | exact Nat.le_refl _ | (simp; done) | (simp; omega) | omega))))))⟩
  have H := Lib.hid (show fewest l p = if (pickC (ordC Cbn.s l) p).2 ≤ 0 then (isort (pickC (ordC Cbn.s l) p).1, true) else ([], false) by simp [fewest, hg, h1])
  obtain ⟨hl12, g2, g3⟩ := goodC_true hg
  have hll := ordC_len (key := Cbn.s) l
  have HND := Lib.hid (show ((ordC Cbn.s l).map Cbn.n).Nodup from ((ordC_perm (key := Cbn.s) l).map Cbn.n).nodup_iff.2 (nodup_nums g3))
  have HK := Lib.hid (show ∀ i, i < (ordC Cbn.s l).length → 1 ≤ (nth (ordC Cbn.s l) i).s ∧ (nth (ordC Cbn.s l) i).s ≤ 16 from fun i hi => by
    obtain ⟨j, hj, e⟩ := List.getElem_of_mem ((ordC_perm (key := Cbn.s) l).mem_iff.1 (nth_mem hi))
    rw [← e, ← nth_eq hj]
    exact (okC_true.1 (g2 j hj)).2.1)
  obtain ⟨p0, p1⟩ := inR_true.1 h1
  clear g2 g3
  go_enter Try.func7, Try.ntmps7
  go_wp2_with fail
  refine (l5Good_c l _ _ _ hl hr0).mono ?_
  rintro e w1 ⟨rfl, hb1⟩
  rw [hg]
  have HE1 := Lib.hid ((arr_of_some (o := []) (ownsRow_below (ownsRow_empty w 3 1) hb1) rfl).2)
  have HB1 := Lib.hid (show Below w.heap.size w w1 from (by repeat (first | (with_reducible exact Below.refl _ _) | ((with_reducible refine alloc_ ?_ ?_); (focus (first | exact Nat.le_refl _ | (simp; done) | (simp; omega) | omega))) | ((with_reducible refine set_ ?_ ?_); (focus (first | exact Nat.le_refl _ | (simp; done) | (simp; omega) | omega))) | (with_reducible refine Below.drew ?_) | ((with_reducible refine after_ ?_ (by assumption) ?_); (rotate_left; (focus (first | exact Nat.le_refl _ | (simp; done) | (simp; omega) | omega)))))))
  have HR1 := Lib.hid (hr0.carry hb1)
  have l1 : w.heap.size < w1.heap.size := by have := hb1.size; simp at this; omega
  clear hg hb1 hr hr0
  go_wp2_with (go_at_call 37; refine (l1In_c _ _ _ _).mono ?_; rintro e w' ⟨rfl, rfl⟩)
  clear h1
  refine (orderSeats_c l _ _ _ hl12 HR1.out).mono ?_
  rintro e w2 ⟨g, gc, rfl, hgc, hg0, harr, hb2⟩
  obtain ⟨q, hq⟩ : ∃ q, ordC Cbn.s l = q := ⟨_, rfl⟩
  rw [hq] at harr hll hgc H HND HK ⊢
  obtain ⟨n, hn⟩ : ∃ n, q.length = n := ⟨_, rfl⟩
  rw [hn] at hll hgc HK ⊢
  have HQ := Lib.hid hn
  have HA2 := Lib.hid harr
  have HE2 := Lib.hid (HE1.out.carry hb2)
  have HB2 := Lib.hid (HB1.out.trans (hb2.mono HB1.out.size))
  clear harr hb2 HE1 HB1 HR1 hq hn
  go_wp2_with fail
  go_loopw [1, 6, 8] (fun s v i wr => ∃ (k g1 c1 : Nat), k ≤ n ∧ i = .int .i64 k ∧ s = .int .i64 (pickC (q.take k) p).2 ∧ v = .slice (some ⟨g1, 0, none⟩) (pickC (q.take k) p).1.length c1 ∧ (pickC (q.take k) p).1.length ≤ c1 ∧ w.heap.size ≤ g1 ∧ Arr wr g1 (isort (pickC (q.take k) p).1) ∧ Below w.heap.size w wr ∧ ArrC wr g q) (fun _ _ i _ => n - (intOf i).toNat)
  case atStart => exact ⟨0, w.heap.size, 0, Nat.zero_le _, rfl, rfl, rfl, by simp [pickC], Nat.le_refl _, HE2.out, HB2.out, HA2.out⟩
  case round =>
    obtain ⟨k, g1, c1, hk, rfl, rfl, rfl, hcp, hg1, har, hbel, harr⟩ := hrel
    have HB := Lib.hid hbel
    have HA := Lib.hid harr
    have HU := Lib.hid har
    have z1 := hbel.size
    have hpl := pick_len (o := q) (p := p) k (by have := HQ.out; omega)
    obtain ⟨b1, b2⟩ := pick_room (o := q) (p := p) (by rw [HQ.out]; exact HK.out) k (by have := HQ.out; omega)
    have HF := Lib.hid (pick_fall (p := p) HND.out k (by have := HQ.out; omega))
    obtain ⟨S, hS⟩ : ∃ S, pickC (q.take k) p = S := ⟨_, rfl⟩
    rw [hS] at HU HF b1 b2 hpl hcp
    rw [hS]
    have HS := Lib.hid hS
    obtain ⟨u, hrr⟩ := S
    simp only at b1 b2 hpl hcp
    have hul := isort_len u
    obtain ⟨U, hU⟩ : ∃ U, u.length = U := ⟨_, rfl⟩
    rw [hU] at hpl hcp hul
    simp only [hU]
    have HUl := Lib.hid hU
    clear hS har hU
    by_cases hlt : k < n
    · have hlq : k < q.length := by rw [HQ.out]; exact hlt
      obtain ⟨hc0, hc1, hc2, hc3, hc4⟩ := harr.cell hlq
      have l2 := harr.lt
      obtain ⟨e1, e2⟩ := HK.out k hlt
      have HN := Lib.hid (pickC_snoc (p := p) hlq)
      have HFr := Lib.hid (show (nth q k).n ∉ u by have h := pick_fresh (p := p) HND.out hlq; rwa [HS.out] at h)
      obtain ⟨x, hx⟩ : ∃ x, nth q k = x := ⟨_, rfl⟩
      rw [hx] at HN HFr e1 e2 hc0 hc1 hc2 hc3 hc4
      clear hbel harr hlq hx
      by_cases hr0 : hrr ≤ 0
      · have HP := Lib.hid (show pickC q p = (u, hrr) by rw [pickC_stay (k := k) (by rw [HS.out]; exact hr0), HS.out])
        have H2 := Lib.hid (show fewest l p = (isort u, true) by rw [H.out, HP.out, if_pos hr0])
        have r1 : decide (0 < hrr) = false := decide_eq_false (by omega)
        clear hc0 hc1 hc2 hc3 hc4
        go_wp2_with fail
        go_ret2
        exact ⟨some ⟨g1, 0, none⟩, c1, retn H2.out hul, by rw [H2.out]; exact HU.out.own hg1, HB.out⟩
      · have r1 : decide (0 < hrr) = true := decide_eq_true (by omega)
        by_cases ht : x.t = 0
        · have ht' : (x.t == 0) = true := by simp [ht]
          have HN2 := Lib.hid (show pickC (q.take (k + 1)) p = (u ++ [x.n], hrr - x.s) by rw [HN.out, HS.out, stepC, if_pos ⟨by simp only; omega, ht⟩])
          obtain ⟨kp, hpp, hpe⟩ := pick_put HF.out HFr.out
          have HPE := Lib.hid hpe
          have f1 : IntKind.i64.wrap (hrr - x.s) = hrr - x.s := IntWalk.i64_in _ (by omega)
          have HC1 := Lib.hid hc1
          have HC3 := Lib.hid hc3
          clear ht hpe
          go_wp2_with fail
          refine (put_n (isort u) U g1 0 c1 x.n kp _ hul (by omega) (by omega) HU.out.rd hpp).mono ?_
          rintro e w3 ⟨g3, c3, rfl, hc3', hg3, har3, hb3⟩
          rw [← HPE.out] at har3 hc3' ⊢
          have hlen3 : (isort (u ++ [x.n])).length = U + 1 := by rw [isort_len, List.length_append, HUl.out]; rfl
          rw [hlen3] at hc3' ⊢
          have HU3 := Lib.hid har3
          have HA3 := Lib.hid (HA.out.carry hb3)
          have HB3 := Lib.hid (HB.out.trans (hb3.mono z1))
          have d1 := (hb3.cell (p := ⟨g, k * 5 + 1, none⟩) l2).trans HC1.out
          have HL3 := Lib.hid hlen3
          clear hc0 hc1 hc2 hc3 hc4 har3 hb3 hlen3 hpp
          go_wp2_with fail
          go_roundw
          case rel => exact ⟨k + 1, g3, c3, by omega, by go_num, by rw [HN2.out], by rw [HN2.out]; simp [HUl.out], by rw [HN2.out]; simp [HUl.out]; omega, by omega, by rw [HN2.out]; exact HU3.out, HB3.out, HA3.out⟩
          case measure => simp [intOf]; omega
        · have ht' : (x.t == 0) = false := by rw [beq_eq_false_iff_ne]; exact ht
          have HN2 := Lib.hid (show pickC (q.take (k + 1)) p = (u, hrr) by rw [HN.out, HS.out, stepC, if_neg (by intro h; exact ht h.2)])
          clear ht
          go_wp2_with fail
          go_roundw
          case rel => exact ⟨k + 1, g1, c1, by omega, by go_num, by rw [HN2.out], by rw [HN2.out]; simp [HUl.out], by rw [HN2.out]; simp [HUl.out]; omega, hg1, by rw [HN2.out]; exact HU.out, HB.out, HA.out⟩
          case measure => simp [intOf]; omega
    · obtain rfl : k = n := by omega
      have HP := Lib.hid (show pickC q p = (u, hrr) by rw [← HS.out, ← HQ.out, List.take_length])
      clear hbel harr
      by_cases hr0 : hrr ≤ 0
      · have H2 := Lib.hid (show fewest l p = (isort u, true) by rw [H.out, HP.out, if_pos hr0])
        go_wp2_with fail
        go_ret2
        exact ⟨some ⟨g1, 0, none⟩, c1, retn H2.out hul, by rw [H2.out]; exact HU.out.own hg1, HB.out⟩
      · have H2 := Lib.hid (show fewest l p = ([], false) by rw [H.out, HP.out, if_neg hr0])
        go_wp2_with fail
        go_ret2
        exact ⟨_, 0, retl H2.out, by rw [H2.out]; exact Own.nil, by have h := HB.out; exact (by repeat (first | (with_reducible exact Below.refl _ _) | ((with_reducible refine alloc_ ?_ ?_); (focus (first | exact Nat.le_refl _ | (simp; done) | (simp; omega) | omega))) | ((with_reducible refine set_ ?_ ?_); (focus (first | exact Nat.le_refl _ | (simp; done) | (simp; omega) | omega))) | (with_reducible refine Below.drew ?_) | ((with_reducible refine after_ ?_ (by assumption) ?_); (rotate_left; (focus (first | exact Nat.le_refl _ | (simp; done) | (simp; omega) | omega))))))⟩
end Go.Proofs.Ytcmbbhdoienkoaa
