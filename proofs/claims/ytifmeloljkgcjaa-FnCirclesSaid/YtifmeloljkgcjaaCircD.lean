/- The ring of cabins that the reference draws; no conditions but that the cursor has not gone very far. -/
import Derived.Test.YtifmeloljkgcjaaAddCab
import Derived.Test.YtifmeloljkgcjaaVee
import Derived.Deep.RegionHeld3
import Derived.Deep.DeepCutAuto
namespace Go.Proofs.Ytifmeloljkgcjaa
open Go.RowKit


theorem owns_off {w w' : World} {base n k g : Nat} {T : TypeId} {v : Value} {xs : List Value} (h : w.ownsRow base T k v n xs) (hg : w.grownBy w' (some g)) (hne : v.ownBlock ≠ some g) : w'.ownsRow base T k v n xs :=
  h.kept (row := some g) hg (.inr fun e => hne (by first | exact e | exact e.symm))
theorem ownb {g n c : Nat} : (Value.slice (some ⟨g, 0, none⟩) n c).ownBlock = some g := rfl
theorem owns_at {w : World} {base k n : Nat} {T : TypeId} {v : Value} {xs : List Value} (h : w.ownsRow base T k v n xs) (hn : 0 < n) : ∃ g c, v = .slice (some ⟨g, 0, none⟩) n c ∧ n ≤ c := by
  rcases h.2 with ⟨_, h0⟩ | ⟨g, cap, cur, rfl, _, _, hnc, _⟩
  · omega
  · exact ⟨g, cap, rfl, hnc⟩
theorem owns_capB {w : World} {base k n cap g : Nat} {T : TypeId} {xs : List Value} (h : w.ownsRow base T k (.slice (some ⟨g, 0, none⟩) n cap) n xs) : n ≤ cap ∧ base ≤ g ∧ g < w.heap.size := by
  rcases h.2 with ⟨h1, h2⟩ | ⟨g', c', cu, h1, hb, hh, hnc, _⟩
  · cases h1
  · injection h1 with h2 h3 h4
    simp only [Option.some.injEq, Addr.mk.injEq] at h2
    obtain ⟨rfl, _⟩ := h2
    exact ⟨by omega, hb, lt_of_block hh⟩
/-- What is drawn: a ring, its starts in a block of their own even if there are none. -/
def CircD (gc K : Nat) (w : World) (e : Ending) (w' : World) : Prop := ∃ (L s : Int) (l : List Int) (g c : Nat), e = .returned (.agg #[.int .i64 L, .int .i64 s, .slice (some ⟨g, 0, none⟩) l.length c]) ∧ (0 ≤ L ∧ L ≤ 4001) ∧ l.length ≤ 8 ∧ l.length ≤ c ∧ Own w' w.heap.size 3 1 intCells (some ⟨g, 0, none⟩) l ∧ Cur w' gc K ∧ w.grownBy w' (some gc)
set_option maxRecDepth 100000 in
set_option maxHeartbeats 16000000 in
theorem circle_c (gc K : Nat) (w : World) (h : Cur w gc K) (hK : K ≤ 100000) : Calls Try.prog 24 #[.pointer (some ⟨gc, 0, none⟩)] w (CircD gc (K + 40) w) := by
  have HC := Lib.hid (h.alloc (.cells #[.int .i64 0, .int .i64 0, .slice none 0 0] 26))
  have g0 := h.lt
  have HZ := Lib.hid (Box.new w zeroL 26)
  have HB := Lib.hid (but_alloc (a := w) (g := gc) (.cells #[.int .i64 0, .int .i64 0, .slice none 0 0] 26))
  clear h
  go_enter Try.func24, Try.ntmps24
  go_wp2_with fail
  refine (among_n [10, 20, 100, 101, 500, 4000] 10 4000 gc _ _ _ _ _ HC.out (by omega) (by simp) rfl rfl (by decide) (by decide) (by decide)).mono ?_
  rintro e w1 ⟨L, rfl, L1, L2, hcw1, hgw1⟩
  have HCw1 := Lib.hid hcw1
  have HGw1 := Lib.hid hgw1
  clear hcw1 hgw1
  have HZ1 := Lib.hid (HZ.out.grown HGw1.out (by omega))
  have HB1 := Lib.hid (but_trans HB.out HGw1.out)
  clear HGw1 HZ HB HC
  go_wp2_with fail
  refine (among_n [1, 5, 7, 10, 50, 100] 1 100 gc _ _ _ _ _ HCw1.out (by omega) (by simp) rfl rfl (by decide) (by decide) (by decide)).mono ?_
  rintro e w2 ⟨s, rfl, s1, s2, hcw2, hgw2⟩
  have HCw2 := Lib.hid hcw2
  have HGw2 := Lib.hid hgw2
  clear hcw2 hgw2
  have HZ2 := Lib.hid (HZ1.out.grown HGw2.out (by omega))
  have HB2 := Lib.hid (but_trans HB1.out HGw2.out)
  have z2 := HZ2.out.lt
  clear HGw2 HZ1 HB1 HCw1
  go_wp2_with fail
  obtain ⟨w3, hw3⟩ : ∃ w3, (w2.alloc (.cells #[] 3)).alloc (.cells #[.int .i64 L, .int .i64 s, .slice (some ⟨w2.heap.size, 0, none⟩) 0 0] 26) = w3 := ⟨_, rfl⟩
  have HX3 := Lib.hid (Box.new (w2.alloc (.cells #[] 3)) [.int .i64 L, .int .i64 s, .slice (some ⟨w2.heap.size, 0, none⟩) 0 0] 26)
  have HO3 := Lib.hid (Joins.ownsRow_le (base := w2.heap.size) ((ownsRow_empty w2 3 1).alloc (.cells #[.int .i64 L, .int .i64 s, .slice (some ⟨w2.heap.size, 0, none⟩) 0 0] 26)) (show w.heap.size + 1 ≤ w2.heap.size by omega))
  have HZ3 := Lib.hid ((HZ2.out.alloc (.cells #[] 3)).alloc (.cells #[.int .i64 L, .int .i64 s, .slice (some ⟨w2.heap.size, 0, none⟩) 0 0] 26))
  have HB3 := Lib.hid (but_trans (but_trans HB2.out (but_alloc (.cells #[] 3))) (but_alloc (a := w2.alloc (.cells #[] 3)) (.cells #[.int .i64 L, .int .i64 s, .slice (some ⟨w2.heap.size, 0, none⟩) 0 0] 26)))
  have HC3 := Lib.hid ((HCw2.out.alloc (.cells #[] 3)).alloc (.cells #[.int .i64 L, .int .i64 s, .slice (some ⟨w2.heap.size, 0, none⟩) 0 0] 26))
  rw [World.size_alloc] at HX3
  obtain ⟨b3, hb3⟩ : ∃ b3, w2.heap.size = b3 := ⟨_, rfl⟩
  obtain ⟨g3, hg3⟩ : ∃ g3, b3 + 1 = g3 := ⟨_, rfl⟩
  rw [hb3] at hw3 HX3 HO3 HZ3 HB3 HC3 z2 ⊢
  rw [hw3] at HX3 HO3 HZ3 HB3 HC3 ⊢
  rw [hg3] at HX3 ⊢
  have HNE3 := Lib.hid (show (Value.slice (some ⟨b3, 0, none⟩) 0 0).ownBlock ≠ some g3 by simp only [ownb]; simp; omega)
  have hgg : w.heap.size < g3 := by omega
  have hgc : ¬ g3 = gc := by omega
  have n1 : ¬ g3 = w.heap.size := by omega
  have n2 : ¬ w.heap.size = g3 := by omega
  have lx3 := HX3.out.lt
  clear hw3 hb3 hg3 HZ2 HB2 HCw2 z2
  refine (pick_c 5 gc _ _ HC3.out (by omega) (by omega) (by omega)).mono ?_
  rintro e w4 ⟨a, rfl, a1, a2, hcw4, hgw4⟩
  have HCw4 := Lib.hid hcw4
  have HGw4 := Lib.hid hgw4
  clear hcw4 hgw4
  have HX4 := Lib.hid (HX3.out.grown HGw4.out (by omega))
  have HZ4 := Lib.hid (HZ3.out.grown HGw4.out (by omega))
  have HO4 := Lib.hid (owns_grown HO3.out HGw4.out (by omega))
  have HB4 := Lib.hid (but_trans HB3.out HGw4.out)
  clear HGw4 HX3 HZ3 HO3 HB3 HC3 lx3
  go_wp2_with fail
  refine (pick_c 8 gc _ _ HCw4.out (by omega) (by omega) (by omega)).mono ?_
  rintro e w5 ⟨n, rfl, n1, n2, hcw5, hgw5⟩
  have HCw5 := Lib.hid hcw5
  have HGw5 := Lib.hid hgw5
  clear hcw5 hgw5
  have HX5 := Lib.hid (HX4.out.grown HGw5.out (by omega))
  have HZ5 := Lib.hid (HZ4.out.grown HGw5.out (by omega))
  have HO5 := Lib.hid (owns_grown HO4.out HGw5.out (by omega))
  have HB5 := Lib.hid (but_trans HB4.out HGw5.out)
  clear HGw5 HX4 HZ4 HO4 HB4 HCw4
  obtain ⟨n, rfl⟩ : ∃ n' : Nat, n = (n' : Int) := ⟨n.toNat, by omega⟩
  go_wp2_with fail
  go_loopw [4, 5] (fun at' i wr => ∃ (l : List Int) (m b c : Nat) (p : Int), l.length + m ≤ 7 ∧ at' = .int .i64 p ∧ i = .int .i64 m ∧ (0 ≤ p ∧ p ≤ 4 + 90 * l.length) ∧ Box wr g3 26 3 [.int .i64 L, .int .i64 s, .slice (some ⟨b, 0, none⟩) l.length c] ∧ wr.ownsRow (w.heap.size + 1) 3 1 (.slice (some ⟨b, 0, none⟩) l.length c) l.length (l.map (Value.int .i64)) ∧ (Value.slice (some ⟨b, 0, none⟩) l.length c).ownBlock ≠ some g3 ∧ Box wr w.heap.size 26 3 zeroL ∧ Cur wr gc (K + 8 + 2 * l.length) ∧ w.grownBy wr (some gc)) (fun _ i _ => (intOf i).toNat)
  case atStart => exact ⟨[], n, b3, 0, a, by simp; omega, rfl, rfl, by simp; omega, HX5.out, HO5.out, HNE3.out, HZ5.out, HCw5.out, HB5.out⟩
  case round =>
    obtain ⟨l, m, b, c, p, hm, rfl, rfl, ⟨p1, p2⟩, hx, ho, hne, hz, hc, hbt⟩ := hrel
    have HXr := Lib.hid hx
    have HOr := Lib.hid ho
    have HNE := Lib.hid hne
    have HZr := Lib.hid hz
    have HCr := Lib.hid hc
    have HBr := Lib.hid hbt
    have x0 := hx.cell (j := 0) rfl
    have lx0 := hx.lt
    obtain ⟨oc, ob, ol⟩ := owns_capB ho
    clear hx ho hne hz hc hbt
    rcases m with _ | m
    ·
      go_wp2_with fail
      refine (pick_c 32 gc _ _ HCr.out (by omega) (by omega) (by omega)).mono ?_
      rintro e w6 ⟨r, rfl, r1, r2, hcw6, hgw6⟩
      have HCw6 := Lib.hid hcw6
      have HGw6 := Lib.hid hgw6
      clear hcw6 hgw6
      have HX6 := Lib.hid (HXr.out.grown HGw6.out (by omega))
      have HZ6 := Lib.hid (HZr.out.grown HGw6.out (by omega))
      have HO6 := Lib.hid (owns_grown HOr.out HGw6.out (by omega))
      have HB6 := Lib.hid (but_trans HBr.out HGw6.out)
      clear HGw6 HXr HZr HOr HBr HCr x0 lx0
      have hcase : r = 0 ∨ r = 1 ∨ r = 2 ∨ (r ≠ 0 ∧ r ≠ 1 ∧ r ≠ 2) := by omega
      rcases hcase with rfl | rfl | rfl | ⟨q0, q1, q2⟩
      · go_wp2_with fail
        refine (among_n [9, 4001, 10] 9 4001 gc _ _ _ _ _ HCw6.out (by omega) (by simp) rfl rfl (by decide) (by decide) (by decide)).mono ?_
        rintro e w7 ⟨v, rfl, v1, v2, hcw7, hgw7⟩
        have HCw7 := Lib.hid hcw7
        have HGw7 := Lib.hid hgw7
        clear hcw7 hgw7
        have HX7 := Lib.hid (HX6.out.grown HGw7.out (by omega))
        have HZ7 := Lib.hid (HZ6.out.grown HGw7.out (by omega))
        have HO7 := Lib.hid (owns_grown HO6.out HGw7.out (by omega))
        have HB7 := Lib.hid (but_trans HB6.out HGw7.out)
        clear HGw7 HX6 HZ6 HO6 HB6
        have HO8 := Lib.hid (owns_off HO7.out (grown_set (World.grownBy.refl w7 (some g3)) : w7.grownBy (w7.setCell ⟨g3, 0, none⟩ (.int .i64 v)) (some g3)) HNE.out)
        have k0 := HX7.out.cell (j := 0) rfl
        have k1 := HX7.out.cell (j := 1) rfl
        have k2 := HX7.out.cell (j := 2) rfl
        have kz := HX7.out.frozen
        have o0 := HZ7.out.cell (j := 0) rfl
        have o1 := HZ7.out.cell (j := 1) rfl
        have o2 := HZ7.out.cell (j := 2) rfl
        have oz := HZ7.out.frozen
        have lx := HX7.out.lt
        have lz := HB7.out.size
        have HS := Lib.hid (set3c (w7.setCell ⟨g3, 0, none⟩ (.int .i64 v)) w.heap.size)
        have HOF := Lib.hid (own_flat HO8.out (by simp) (flat_intL _).symm int_one)
        go_wp2_with fail
        exact bodyPost_ret (v := .agg #[.int .i64 (v), .int .i64 (s), .slice (some ⟨b, 0, none⟩) (l).length (c)]) (by simp [results, Try.results24, go_sem, o0, o1, o2, k0, k1, k2]) rfl
          ⟨v, s, l, b, c, rfl, ⟨by omega, by omega⟩, by first | omega | (simp; done) | (simp; omega), by first | omega | (simp; done) | (simp; omega), (HOF.out.grown (HS.out _ _ _) (by omega)).less (by omega), (HCw7.out.below (B := w.heap.size) (by repeat (first | (with_reducible exact Below.refl _ _) | ((with_reducible refine alloc_ ?_ ?_); (focus (first | exact Nat.le_refl _ | (simp; done) | (simp; omega) | omega))) | ((with_reducible refine set_ ?_ ?_); (focus (first | exact Nat.le_refl _ | (simp; done) | (simp; omega) | omega))) | (with_reducible refine Below.drew ?_) | ((with_reducible refine after_ ?_ (by assumption) ?_); (rotate_left; (focus (first | exact Nat.le_refl _ | (simp; done) | (simp; omega) | omega)))))) g0).mono (by omega), but_below HB7.out (by repeat (first | (with_reducible exact Below.refl _ _) | ((with_reducible refine alloc_ ?_ ?_); (focus (first | exact Nat.le_refl _ | (simp; done) | (simp; omega) | omega))) | ((with_reducible refine set_ ?_ ?_); (focus (first | exact Nat.le_refl _ | (simp; done) | (simp; omega) | omega))) | (with_reducible refine Below.drew ?_) | ((with_reducible refine after_ ?_ (by assumption) ?_); (rotate_left; (focus (first | exact Nat.le_refl _ | (simp; done) | (simp; omega) | omega))))))⟩
      · go_wp2_with fail
        refine (among_n [0, 101] 0 101 gc _ _ _ _ _ HCw6.out (by omega) (by simp) rfl rfl (by decide) (by decide) (by decide)).mono ?_
        rintro e w7 ⟨v, rfl, v1, v2, hcw7, hgw7⟩
        have HCw7 := Lib.hid hcw7
        have HGw7 := Lib.hid hgw7
        clear hcw7 hgw7
        have HX7 := Lib.hid (HX6.out.grown HGw7.out (by omega))
        have HZ7 := Lib.hid (HZ6.out.grown HGw7.out (by omega))
        have HO7 := Lib.hid (owns_grown HO6.out HGw7.out (by omega))
        have HB7 := Lib.hid (but_trans HB6.out HGw7.out)
        clear HGw7 HX6 HZ6 HO6 HB6
        have HO8 := Lib.hid (owns_off HO7.out (grown_set (World.grownBy.refl w7 (some g3)) : w7.grownBy (w7.setCell ⟨g3, 1, none⟩ (.int .i64 v)) (some g3)) HNE.out)
        have k0 := HX7.out.cell (j := 0) rfl
        have k1 := HX7.out.cell (j := 1) rfl
        have k2 := HX7.out.cell (j := 2) rfl
        have kz := HX7.out.frozen
        have o0 := HZ7.out.cell (j := 0) rfl
        have o1 := HZ7.out.cell (j := 1) rfl
        have o2 := HZ7.out.cell (j := 2) rfl
        have oz := HZ7.out.frozen
        have lx := HX7.out.lt
        have lz := HB7.out.size
        have HS := Lib.hid (set3c (w7.setCell ⟨g3, 1, none⟩ (.int .i64 v)) w.heap.size)
        have HOF := Lib.hid (own_flat HO8.out (by simp) (flat_intL _).symm int_one)
        go_wp2_with fail
        exact bodyPost_ret (v := .agg #[.int .i64 (L), .int .i64 (v), .slice (some ⟨b, 0, none⟩) (l).length (c)]) (by simp [results, Try.results24, go_sem, o0, o1, o2, k0, k1, k2]) rfl
          ⟨L, v, l, b, c, rfl, ⟨by omega, by omega⟩, by first | omega | (simp; done) | (simp; omega), by first | omega | (simp; done) | (simp; omega), (HOF.out.grown (HS.out _ _ _) (by omega)).less (by omega), (HCw7.out.below (B := w.heap.size) (by repeat (first | (with_reducible exact Below.refl _ _) | ((with_reducible refine alloc_ ?_ ?_); (focus (first | exact Nat.le_refl _ | (simp; done) | (simp; omega) | omega))) | ((with_reducible refine set_ ?_ ?_); (focus (first | exact Nat.le_refl _ | (simp; done) | (simp; omega) | omega))) | (with_reducible refine Below.drew ?_) | ((with_reducible refine after_ ?_ (by assumption) ?_); (rotate_left; (focus (first | exact Nat.le_refl _ | (simp; done) | (simp; omega) | omega)))))) g0).mono (by omega), but_below HB7.out (by repeat (first | (with_reducible exact Below.refl _ _) | ((with_reducible refine alloc_ ?_ ?_); (focus (first | exact Nat.le_refl _ | (simp; done) | (simp; omega) | omega))) | ((with_reducible refine set_ ?_ ?_); (focus (first | exact Nat.le_refl _ | (simp; done) | (simp; omega) | omega))) | (with_reducible refine Below.drew ?_) | ((with_reducible refine after_ ?_ (by assumption) ?_); (rotate_left; (focus (first | exact Nat.le_refl _ | (simp; done) | (simp; omega) | omega))))))⟩
      · have x2 := HX6.out.cell (j := 2) rfl
        have lx6 := HX6.out.lt
        go_wp2_with fail
        go_region_law (first
          | (go_simp; go_at_call 25; refine (among_d [-1, 0, 4000] (-1) 4000 gc _ _ _ _ _ HCw6.out (by omega) (by first | rfl | (simp; done)) rfl rfl (by decide) (by decide) (by decide)).mono ?_; rintro e w7 ⟨v, rfl, v1, v2, hc7, hg7⟩; have HC7 := Lib.hid hc7; have HG7 := Lib.hid hg7; have HX7 := Lib.hid (HX6.out.grown hg7 (by omega)); have y2 := HX7.out.cell (j := 2) rfl; have ly := HX7.out.lt; have HO7 := Lib.hid (owns_grown HO6.out hg7 (by omega)); have HZ7 := Lib.hid (HZ6.out.grown hg7 (by omega)); clear hc7 hg7)
          | (refine step_extend rfl (.tmp 56) (.tmp 60) 24 rfl (w.heap.size + 1) 3 (.int .i64 0) 1 8 Try.underlying24 info_int rfl (by decide) (by decide) (.slice (some ⟨b, 0, none⟩) l.length c) _ _ rfl (HO7.out.alloc _) w7.heap.size 0 1 1 [.int .i64 v] rfl rfl (news_one (cs := #[.int .i64 v]) (heap_alloc_new _ _)) ?_ ?_ ?_ ?_; (focus (intro u hu; simp at hu; subst hu; rfl)); (focus omega); (focus (first | omega | (simp; omega))); intro v' w8 hown' hb' hk'; obtain ⟨g', cap', rfl, hcap'⟩ := owns_at hown' (by omega); obtain ⟨hk1, hk2⟩ := hk' g3 (by first | omega | (simp; omega)) HNE.out; have HX8 := Lib.hid ((HX7.out.alloc (.cells #[.int .i64 v] 3)).keep hk1); have e2 := HX8.out.cell (j := 2) rfl; have ez := HX8.out.frozen; have le := HX8.out.lt; have HK2 := Lib.hid hk2; have HB8 := Lib.hid (show Below (w.heap.size + 1) w7 w8 from (Below.mono (B := w7.heap.size) ((Below.refl _ _).alloc (Nat.le_refl _) (.cells #[.int .i64 v] 3)) (by omega)).trans hb'); have HO8 := Lib.hid hown'; have HZ8 := Lib.hid (HZ7.out.below HB8.out (by omega)); have k0 := HX8.out.cell (j := 0) rfl; have k1 := HX8.out.cell (j := 1) rfl; have o0 := HZ8.out.cell (j := 0) rfl; have o1 := HZ8.out.cell (j := 1) rfl; have o2 := HZ8.out.cell (j := 2) rfl; have oz := HZ8.out.frozen; have lz := HZ8.out.lt; clear hown' hb' hk' hk1 hk2))
        all_goals
          have HB7 := Lib.hid (but_trans HB6.out HG7.out)
          have HC8 := Lib.hid (HC7.out.below HB8.out (by omega))
          have HBb := Lib.hid (but_below HB7.out (HB8.out.mono (by omega)))
          have HO9 := Lib.hid (show (w8.setCell ⟨g3, 2, none⟩ (.slice (some ⟨g', 0, none⟩) (l.length + 1) cap')).ownsRow (w.heap.size + 1) 3 1 (.slice (some ⟨g', 0, none⟩) (l ++ [v]).length cap') (l ++ [v]).length ((l ++ [v]).map (Value.int .i64)) by simpa using owns_off HO8.out (grown_set (World.grownBy.refl w8 (some g3)) : w8.grownBy (w8.setCell ⟨g3, 2, none⟩ (.slice (some ⟨g', 0, none⟩) (l.length + 1) cap')) (some g3)) HK2.out)
          have HLn := Lib.hid (show (l ++ [v]).length = l.length + 1 by simp)
          clear HX6 HZ6 HO6 HB6 HCw6 HX7 HZ7 HO7 HC7 HB7 HG7 HO8 HB8 HK2 x2 y2
          have lz := HBb.out.size
          have HS := Lib.hid (set3c (w8.setCell ⟨g3, 2, none⟩ (.slice (some ⟨g', 0, none⟩) (l.length + 1) cap')) w.heap.size)
          have HOF := Lib.hid (own_flat HO9.out rfl (flat_intL _).symm int_one)
          try go_wp2_with fail
          exact bodyPost_ret (v := .agg #[.int .i64 L, .int .i64 s, .slice (some ⟨g', 0, none⟩) (l.length + 1) cap']) (by simp [results, Try.results24, go_sem, o0, o1, o2, k0, k1, e2]) rfl
            ⟨L, s, l ++ [v], g', cap', by rw [HLn.out], ⟨by omega, by omega⟩, by rw [HLn.out]; omega, by rw [HLn.out]; omega, (HOF.out.grown (HS.out _ _ _) (by omega)).less (by omega), (HC8.out.below (B := w.heap.size) (by repeat (first | (with_reducible exact Below.refl _ _) | ((with_reducible refine alloc_ ?_ ?_); (focus (first | exact Nat.le_refl _ | (simp; done) | (simp; omega) | omega))) | ((with_reducible refine set_ ?_ ?_); (focus (first | exact Nat.le_refl _ | (simp; done) | (simp; omega) | omega))) | (with_reducible refine Below.drew ?_) | ((with_reducible refine after_ ?_ (by assumption) ?_); (rotate_left; (focus (first | exact Nat.le_refl _ | (simp; done) | (simp; omega) | omega)))))) g0).mono (by omega), but_below HBb.out (by repeat (first | (with_reducible exact Below.refl _ _) | ((with_reducible refine alloc_ ?_ ?_); (focus (first | exact Nat.le_refl _ | (simp; done) | (simp; omega) | omega))) | ((with_reducible refine set_ ?_ ?_); (focus (first | exact Nat.le_refl _ | (simp; done) | (simp; omega) | omega))) | (with_reducible refine Below.drew ?_) | ((with_reducible refine after_ ?_ (by assumption) ?_); (rotate_left; (focus (first | exact Nat.le_refl _ | (simp; done) | (simp; omega) | omega))))))⟩
      ·
        have k0 := HX6.out.cell (j := 0) rfl
        have k1 := HX6.out.cell (j := 1) rfl
        have k2 := HX6.out.cell (j := 2) rfl
        have kz := HX6.out.frozen
        have o0 := HZ6.out.cell (j := 0) rfl
        have o1 := HZ6.out.cell (j := 1) rfl
        have o2 := HZ6.out.cell (j := 2) rfl
        have oz := HZ6.out.frozen
        have lx := HX6.out.lt
        have lz := HB6.out.size
        have HS := Lib.hid (set3c (w6) w.heap.size)
        have HOF := Lib.hid (own_flat HO6.out (by simp) (flat_intL _).symm int_one)
        go_wp2_with fail
        exact bodyPost_ret (v := .agg #[.int .i64 (L), .int .i64 (s), .slice (some ⟨b, 0, none⟩) (l).length (c)]) (by simp [results, Try.results24, go_sem, o0, o1, o2, k0, k1, k2]) rfl
          ⟨L, s, l, b, c, rfl, ⟨by omega, by omega⟩, by first | omega | (simp; done) | (simp; omega), by first | omega | (simp; done) | (simp; omega), (HOF.out.grown (HS.out _ _ _) (by omega)).less (by omega), (HCw6.out.below (B := w.heap.size) (by repeat (first | (with_reducible exact Below.refl _ _) | ((with_reducible refine alloc_ ?_ ?_); (focus (first | exact Nat.le_refl _ | (simp; done) | (simp; omega) | omega))) | ((with_reducible refine set_ ?_ ?_); (focus (first | exact Nat.le_refl _ | (simp; done) | (simp; omega) | omega))) | (with_reducible refine Below.drew ?_) | ((with_reducible refine after_ ?_ (by assumption) ?_); (rotate_left; (focus (first | exact Nat.le_refl _ | (simp; done) | (simp; omega) | omega)))))) g0).mono (by omega), but_below HB6.out (by repeat (first | (with_reducible exact Below.refl _ _) | ((with_reducible refine alloc_ ?_ ?_); (focus (first | exact Nat.le_refl _ | (simp; done) | (simp; omega) | omega))) | ((with_reducible refine set_ ?_ ?_); (focus (first | exact Nat.le_refl _ | (simp; done) | (simp; omega) | omega))) | (with_reducible refine Below.drew ?_) | ((with_reducible refine after_ ?_ (by assumption) ?_); (rotate_left; (focus (first | exact Nat.le_refl _ | (simp; done) | (simp; omega) | omega))))))⟩
    · by_cases hlt : p < L
      · have x2 := HXr.out.cell (j := 2) rfl
        have xz := HXr.out.frozen
        go_wp2_with (at_builtin; refine wpList_push2 _ rfl _ _ 24 rfl (w.heap.size + 1) 3 (.int .i64 0) 1 8 Try.underlying24 info_int rfl (by decide) (by decide) _ _ _ rfl (HOr.out.alloc _) (wr.heap.size) [.int .i64 p] rfl rfl ?d1 ?d2 ?d3 ?d4 ?_)
        try case d1 =>
          intro j u hj
          match j, hj with
          | 0, hj => simp at hj; subst hj; simp [go_sem]
        case d2 => first | rfl | (intro u hu; simp at hu; subst hu; rfl)
        case d3 => omega
        case d4 => first | omega | (simp; omega)
        intro v' w6 hown' hb' hk'
        obtain ⟨g', cap', rfl, hcap'⟩ := owns_at hown' (by omega)
        obtain ⟨hk1, hk2⟩ := hk' g3 (by first | omega | (simp; omega)) HNE.out
        have hx6 := (HXr.out.alloc (.cells #[.int .i64 p] 3)).keep hk1
        have e2 := hx6.cell (j := 2) rfl
        have ez := hx6.frozen
        have le := hx6.lt
        have HNE2 := Lib.hid hk2
        have HX7 := Lib.hid (hx6.set 2 (.slice (some ⟨g', 0, none⟩) (l.length + 1) cap'))
        have HO7 := Lib.hid (owns_off hown' (grown_set (World.grownBy.refl w6 (some g3)) : w6.grownBy (w6.setCell ⟨g3, 2, none⟩ (.slice (some ⟨g', 0, none⟩) (l.length + 1) cap')) (some g3)) hk2)
        have HG7 := Lib.hid (show Below (w.heap.size + 1) wr (w6.setCell ⟨g3, 2, none⟩ (.slice (some ⟨g', 0, none⟩) (l.length + 1) cap')) from ((Below.mono (B := wr.heap.size) ((Below.refl _ _).alloc (Nat.le_refl _) (.cells #[.int .i64 p] 3)) (by omega)).trans hb').setCell (p := ⟨g3, 2, none⟩) (show w.heap.size + 1 ≤ g3 by omega) _)
        have HC7 := Lib.hid (HCr.out.below HG7.out (by omega))
        have HZ7 := Lib.hid (HZr.out.below HG7.out (by omega))
        have HB7 := Lib.hid (but_below HBr.out (HG7.out.mono (by omega)))
        clear hown' hb' hk' hk1 hk2 hx6 x0 x2 xz lx0 HXr HOr HCr HZr HBr HG7
        go_wp2_with fail
        refine (among_n [1, 2, 3, 10, 40, 90] 1 90 gc _ _ _ _ _ HC7.out (by omega) (by simp) rfl rfl (by decide) (by decide) (by decide)).mono ?_
        rintro e w8 ⟨q, rfl, q1, q2, hcw8, hgw8⟩
        have HCw8 := Lib.hid hcw8
        have HGw8 := Lib.hid hgw8
        clear hcw8 hgw8
        have HX8 := Lib.hid (HX7.out.grown HGw8.out (by omega))
        have HZ8 := Lib.hid (HZ7.out.grown HGw8.out (by omega))
        have HO8 := Lib.hid (owns_grown HO7.out HGw8.out (by omega))
        have HB8 := Lib.hid (but_trans HB7.out HGw8.out)
        clear HGw8 HX7 HO7 HZ7 HB7 HC7 e2 ez le
        have e1 : IntKind.i64.wrap (p + q) = p + q := IntWalk.i64_in _ (by omega)
        go_wp2_with fail
        go_roundw
        case rel => exact ⟨l ++ [p], m, g', cap', p + q, by simp; omega, rfl, by go_num, by simp; omega, by simpa using HX8.out, by simpa using HO8.out, by simpa using HNE2.out, HZ8.out, HCw8.out.mono (by simp; omega), HB8.out⟩
        case measure => first | (simp [intOf]; done) | (simp [intOf]; omega)
      ·
        go_wp2_with fail
        refine (pick_c 32 gc _ _ HCr.out (by omega) (by omega) (by omega)).mono ?_
        rintro e w6 ⟨r, rfl, r1, r2, hcw6, hgw6⟩
        have HCw6 := Lib.hid hcw6
        have HGw6 := Lib.hid hgw6
        clear hcw6 hgw6
        have HX6 := Lib.hid (HXr.out.grown HGw6.out (by omega))
        have HZ6 := Lib.hid (HZr.out.grown HGw6.out (by omega))
        have HO6 := Lib.hid (owns_grown HOr.out HGw6.out (by omega))
        have HB6 := Lib.hid (but_trans HBr.out HGw6.out)
        clear HGw6 HXr HZr HOr HBr HCr x0 lx0
        have hcase : r = 0 ∨ r = 1 ∨ r = 2 ∨ (r ≠ 0 ∧ r ≠ 1 ∧ r ≠ 2) := by omega
        rcases hcase with rfl | rfl | rfl | ⟨q0, q1, q2⟩
        · go_wp2_with fail
          refine (among_n [9, 4001, 10] 9 4001 gc _ _ _ _ _ HCw6.out (by omega) (by simp) rfl rfl (by decide) (by decide) (by decide)).mono ?_
          rintro e w7 ⟨v, rfl, v1, v2, hcw7, hgw7⟩
          have HCw7 := Lib.hid hcw7
          have HGw7 := Lib.hid hgw7
          clear hcw7 hgw7
          have HX7 := Lib.hid (HX6.out.grown HGw7.out (by omega))
          have HZ7 := Lib.hid (HZ6.out.grown HGw7.out (by omega))
          have HO7 := Lib.hid (owns_grown HO6.out HGw7.out (by omega))
          have HB7 := Lib.hid (but_trans HB6.out HGw7.out)
          clear HGw7 HX6 HZ6 HO6 HB6
          have HO8 := Lib.hid (owns_off HO7.out (grown_set (World.grownBy.refl w7 (some g3)) : w7.grownBy (w7.setCell ⟨g3, 0, none⟩ (.int .i64 v)) (some g3)) HNE.out)
          have k0 := HX7.out.cell (j := 0) rfl
          have k1 := HX7.out.cell (j := 1) rfl
          have k2 := HX7.out.cell (j := 2) rfl
          have kz := HX7.out.frozen
          have o0 := HZ7.out.cell (j := 0) rfl
          have o1 := HZ7.out.cell (j := 1) rfl
          have o2 := HZ7.out.cell (j := 2) rfl
          have oz := HZ7.out.frozen
          have lx := HX7.out.lt
          have lz := HB7.out.size
          have HS := Lib.hid (set3c (w7.setCell ⟨g3, 0, none⟩ (.int .i64 v)) w.heap.size)
          have HOF := Lib.hid (own_flat HO8.out (by simp) (flat_intL _).symm int_one)
          go_wp2_with fail
          exact bodyPost_ret (v := .agg #[.int .i64 (v), .int .i64 (s), .slice (some ⟨b, 0, none⟩) (l).length (c)]) (by simp [results, Try.results24, go_sem, o0, o1, o2, k0, k1, k2]) rfl
            ⟨v, s, l, b, c, rfl, ⟨by omega, by omega⟩, by first | omega | (simp; done) | (simp; omega), by first | omega | (simp; done) | (simp; omega), (HOF.out.grown (HS.out _ _ _) (by omega)).less (by omega), (HCw7.out.below (B := w.heap.size) (by repeat (first | (with_reducible exact Below.refl _ _) | ((with_reducible refine alloc_ ?_ ?_); (focus (first | exact Nat.le_refl _ | (simp; done) | (simp; omega) | omega))) | ((with_reducible refine set_ ?_ ?_); (focus (first | exact Nat.le_refl _ | (simp; done) | (simp; omega) | omega))) | (with_reducible refine Below.drew ?_) | ((with_reducible refine after_ ?_ (by assumption) ?_); (rotate_left; (focus (first | exact Nat.le_refl _ | (simp; done) | (simp; omega) | omega)))))) g0).mono (by omega), but_below HB7.out (by repeat (first | (with_reducible exact Below.refl _ _) | ((with_reducible refine alloc_ ?_ ?_); (focus (first | exact Nat.le_refl _ | (simp; done) | (simp; omega) | omega))) | ((with_reducible refine set_ ?_ ?_); (focus (first | exact Nat.le_refl _ | (simp; done) | (simp; omega) | omega))) | (with_reducible refine Below.drew ?_) | ((with_reducible refine after_ ?_ (by assumption) ?_); (rotate_left; (focus (first | exact Nat.le_refl _ | (simp; done) | (simp; omega) | omega))))))⟩
        · go_wp2_with fail
          refine (among_n [0, 101] 0 101 gc _ _ _ _ _ HCw6.out (by omega) (by simp) rfl rfl (by decide) (by decide) (by decide)).mono ?_
          rintro e w7 ⟨v, rfl, v1, v2, hcw7, hgw7⟩
          have HCw7 := Lib.hid hcw7
          have HGw7 := Lib.hid hgw7
          clear hcw7 hgw7
          have HX7 := Lib.hid (HX6.out.grown HGw7.out (by omega))
          have HZ7 := Lib.hid (HZ6.out.grown HGw7.out (by omega))
          have HO7 := Lib.hid (owns_grown HO6.out HGw7.out (by omega))
          have HB7 := Lib.hid (but_trans HB6.out HGw7.out)
          clear HGw7 HX6 HZ6 HO6 HB6
          have HO8 := Lib.hid (owns_off HO7.out (grown_set (World.grownBy.refl w7 (some g3)) : w7.grownBy (w7.setCell ⟨g3, 1, none⟩ (.int .i64 v)) (some g3)) HNE.out)
          have k0 := HX7.out.cell (j := 0) rfl
          have k1 := HX7.out.cell (j := 1) rfl
          have k2 := HX7.out.cell (j := 2) rfl
          have kz := HX7.out.frozen
          have o0 := HZ7.out.cell (j := 0) rfl
          have o1 := HZ7.out.cell (j := 1) rfl
          have o2 := HZ7.out.cell (j := 2) rfl
          have oz := HZ7.out.frozen
          have lx := HX7.out.lt
          have lz := HB7.out.size
          have HS := Lib.hid (set3c (w7.setCell ⟨g3, 1, none⟩ (.int .i64 v)) w.heap.size)
          have HOF := Lib.hid (own_flat HO8.out (by simp) (flat_intL _).symm int_one)
          go_wp2_with fail
          exact bodyPost_ret (v := .agg #[.int .i64 (L), .int .i64 (v), .slice (some ⟨b, 0, none⟩) (l).length (c)]) (by simp [results, Try.results24, go_sem, o0, o1, o2, k0, k1, k2]) rfl
            ⟨L, v, l, b, c, rfl, ⟨by omega, by omega⟩, by first | omega | (simp; done) | (simp; omega), by first | omega | (simp; done) | (simp; omega), (HOF.out.grown (HS.out _ _ _) (by omega)).less (by omega), (HCw7.out.below (B := w.heap.size) (by repeat (first | (with_reducible exact Below.refl _ _) | ((with_reducible refine alloc_ ?_ ?_); (focus (first | exact Nat.le_refl _ | (simp; done) | (simp; omega) | omega))) | ((with_reducible refine set_ ?_ ?_); (focus (first | exact Nat.le_refl _ | (simp; done) | (simp; omega) | omega))) | (with_reducible refine Below.drew ?_) | ((with_reducible refine after_ ?_ (by assumption) ?_); (rotate_left; (focus (first | exact Nat.le_refl _ | (simp; done) | (simp; omega) | omega)))))) g0).mono (by omega), but_below HB7.out (by repeat (first | (with_reducible exact Below.refl _ _) | ((with_reducible refine alloc_ ?_ ?_); (focus (first | exact Nat.le_refl _ | (simp; done) | (simp; omega) | omega))) | ((with_reducible refine set_ ?_ ?_); (focus (first | exact Nat.le_refl _ | (simp; done) | (simp; omega) | omega))) | (with_reducible refine Below.drew ?_) | ((with_reducible refine after_ ?_ (by assumption) ?_); (rotate_left; (focus (first | exact Nat.le_refl _ | (simp; done) | (simp; omega) | omega))))))⟩
        · have x2 := HX6.out.cell (j := 2) rfl
          have lx6 := HX6.out.lt
          go_wp2_with fail
          go_region_law (first
            | (go_simp; go_at_call 25; refine (among_d [-1, 0, 4000] (-1) 4000 gc _ _ _ _ _ HCw6.out (by omega) (by first | rfl | (simp; done)) rfl rfl (by decide) (by decide) (by decide)).mono ?_; rintro e w7 ⟨v, rfl, v1, v2, hc7, hg7⟩; have HC7 := Lib.hid hc7; have HG7 := Lib.hid hg7; have HX7 := Lib.hid (HX6.out.grown hg7 (by omega)); have y2 := HX7.out.cell (j := 2) rfl; have ly := HX7.out.lt; have HO7 := Lib.hid (owns_grown HO6.out hg7 (by omega)); have HZ7 := Lib.hid (HZ6.out.grown hg7 (by omega)); clear hc7 hg7)
            | (refine step_extend rfl (.tmp 56) (.tmp 60) 24 rfl (w.heap.size + 1) 3 (.int .i64 0) 1 8 Try.underlying24 info_int rfl (by decide) (by decide) (.slice (some ⟨b, 0, none⟩) l.length c) _ _ rfl (HO7.out.alloc _) w7.heap.size 0 1 1 [.int .i64 v] rfl rfl (news_one (cs := #[.int .i64 v]) (heap_alloc_new _ _)) ?_ ?_ ?_ ?_; (focus (intro u hu; simp at hu; subst hu; rfl)); (focus omega); (focus (first | omega | (simp; omega))); intro v' w8 hown' hb' hk'; obtain ⟨g', cap', rfl, hcap'⟩ := owns_at hown' (by omega); obtain ⟨hk1, hk2⟩ := hk' g3 (by first | omega | (simp; omega)) HNE.out; have HX8 := Lib.hid ((HX7.out.alloc (.cells #[.int .i64 v] 3)).keep hk1); have e2 := HX8.out.cell (j := 2) rfl; have ez := HX8.out.frozen; have le := HX8.out.lt; have HK2 := Lib.hid hk2; have HB8 := Lib.hid (show Below (w.heap.size + 1) w7 w8 from (Below.mono (B := w7.heap.size) ((Below.refl _ _).alloc (Nat.le_refl _) (.cells #[.int .i64 v] 3)) (by omega)).trans hb'); have HO8 := Lib.hid hown'; have HZ8 := Lib.hid (HZ7.out.below HB8.out (by omega)); have k0 := HX8.out.cell (j := 0) rfl; have k1 := HX8.out.cell (j := 1) rfl; have o0 := HZ8.out.cell (j := 0) rfl; have o1 := HZ8.out.cell (j := 1) rfl; have o2 := HZ8.out.cell (j := 2) rfl; have oz := HZ8.out.frozen; have lz := HZ8.out.lt; clear hown' hb' hk' hk1 hk2))
          all_goals
            have HB7 := Lib.hid (but_trans HB6.out HG7.out)
            have HC8 := Lib.hid (HC7.out.below HB8.out (by omega))
            have HBb := Lib.hid (but_below HB7.out (HB8.out.mono (by omega)))
            have HO9 := Lib.hid (show (w8.setCell ⟨g3, 2, none⟩ (.slice (some ⟨g', 0, none⟩) (l.length + 1) cap')).ownsRow (w.heap.size + 1) 3 1 (.slice (some ⟨g', 0, none⟩) (l ++ [v]).length cap') (l ++ [v]).length ((l ++ [v]).map (Value.int .i64)) by simpa using owns_off HO8.out (grown_set (World.grownBy.refl w8 (some g3)) : w8.grownBy (w8.setCell ⟨g3, 2, none⟩ (.slice (some ⟨g', 0, none⟩) (l.length + 1) cap')) (some g3)) HK2.out)
            have HLn := Lib.hid (show (l ++ [v]).length = l.length + 1 by simp)
            clear HX6 HZ6 HO6 HB6 HCw6 HX7 HZ7 HO7 HC7 HB7 HG7 HO8 HB8 HK2 x2 y2
            have lz := HBb.out.size
            have HS := Lib.hid (set3c (w8.setCell ⟨g3, 2, none⟩ (.slice (some ⟨g', 0, none⟩) (l.length + 1) cap')) w.heap.size)
            have HOF := Lib.hid (own_flat HO9.out rfl (flat_intL _).symm int_one)
            try go_wp2_with fail
            exact bodyPost_ret (v := .agg #[.int .i64 L, .int .i64 s, .slice (some ⟨g', 0, none⟩) (l.length + 1) cap']) (by simp [results, Try.results24, go_sem, o0, o1, o2, k0, k1, e2]) rfl
              ⟨L, s, l ++ [v], g', cap', by rw [HLn.out], ⟨by omega, by omega⟩, by rw [HLn.out]; omega, by rw [HLn.out]; omega, (HOF.out.grown (HS.out _ _ _) (by omega)).less (by omega), (HC8.out.below (B := w.heap.size) (by repeat (first | (with_reducible exact Below.refl _ _) | ((with_reducible refine alloc_ ?_ ?_); (focus (first | exact Nat.le_refl _ | (simp; done) | (simp; omega) | omega))) | ((with_reducible refine set_ ?_ ?_); (focus (first | exact Nat.le_refl _ | (simp; done) | (simp; omega) | omega))) | (with_reducible refine Below.drew ?_) | ((with_reducible refine after_ ?_ (by assumption) ?_); (rotate_left; (focus (first | exact Nat.le_refl _ | (simp; done) | (simp; omega) | omega)))))) g0).mono (by omega), but_below HBb.out (by repeat (first | (with_reducible exact Below.refl _ _) | ((with_reducible refine alloc_ ?_ ?_); (focus (first | exact Nat.le_refl _ | (simp; done) | (simp; omega) | omega))) | ((with_reducible refine set_ ?_ ?_); (focus (first | exact Nat.le_refl _ | (simp; done) | (simp; omega) | omega))) | (with_reducible refine Below.drew ?_) | ((with_reducible refine after_ ?_ (by assumption) ?_); (rotate_left; (focus (first | exact Nat.le_refl _ | (simp; done) | (simp; omega) | omega))))))⟩
        ·
          have k0 := HX6.out.cell (j := 0) rfl
          have k1 := HX6.out.cell (j := 1) rfl
          have k2 := HX6.out.cell (j := 2) rfl
          have kz := HX6.out.frozen
          have o0 := HZ6.out.cell (j := 0) rfl
          have o1 := HZ6.out.cell (j := 1) rfl
          have o2 := HZ6.out.cell (j := 2) rfl
          have oz := HZ6.out.frozen
          have lx := HX6.out.lt
          have lz := HB6.out.size
          have HS := Lib.hid (set3c (w6) w.heap.size)
          have HOF := Lib.hid (own_flat HO6.out (by simp) (flat_intL _).symm int_one)
          go_wp2_with fail
          exact bodyPost_ret (v := .agg #[.int .i64 (L), .int .i64 (s), .slice (some ⟨b, 0, none⟩) (l).length (c)]) (by simp [results, Try.results24, go_sem, o0, o1, o2, k0, k1, k2]) rfl
            ⟨L, s, l, b, c, rfl, ⟨by omega, by omega⟩, by first | omega | (simp; done) | (simp; omega), by first | omega | (simp; done) | (simp; omega), (HOF.out.grown (HS.out _ _ _) (by omega)).less (by omega), (HCw6.out.below (B := w.heap.size) (by repeat (first | (with_reducible exact Below.refl _ _) | ((with_reducible refine alloc_ ?_ ?_); (focus (first | exact Nat.le_refl _ | (simp; done) | (simp; omega) | omega))) | ((with_reducible refine set_ ?_ ?_); (focus (first | exact Nat.le_refl _ | (simp; done) | (simp; omega) | omega))) | (with_reducible refine Below.drew ?_) | ((with_reducible refine after_ ?_ (by assumption) ?_); (rotate_left; (focus (first | exact Nat.le_refl _ | (simp; done) | (simp; omega) | omega)))))) g0).mono (by omega), but_below HB6.out (by repeat (first | (with_reducible exact Below.refl _ _) | ((with_reducible refine alloc_ ?_ ?_); (focus (first | exact Nat.le_refl _ | (simp; done) | (simp; omega) | omega))) | ((with_reducible refine set_ ?_ ?_); (focus (first | exact Nat.le_refl _ | (simp; done) | (simp; omega) | omega))) | (with_reducible refine Below.drew ?_) | ((with_reducible refine after_ ?_ (by assumption) ?_); (rotate_left; (focus (first | exact Nat.le_refl _ | (simp; done) | (simp; omega) | omega))))))⟩
end Go.Proofs.Ytifmeloljkgcjaa
