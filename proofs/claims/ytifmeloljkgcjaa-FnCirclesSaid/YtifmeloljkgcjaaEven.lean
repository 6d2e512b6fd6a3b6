/- EvenStarts of the program and of the reference return one Lean function; no conditions but that the ring's length is not far off. -/
import Derived.Test.YtifmeloljkgcjaaWith
import Derived.Deep.RegionLaw
import Derived.Test.YtifmeloljkgcjaaVee
namespace Go.Proofs.Ytifmeloljkgcjaa
open Go.RowKit

def evenP (L s n : Int) : List Int × Bool := if inR L 10 4000 && inR n 0 12 && goodC L s (evenL L n.toNat) then (evenL L n.toNat, true) else ([], false)
def evenTo (L : Int) (n k : Nat) : List Int := (List.range k).map fun i : Nat => ((i : Int) * L) / n
theorem evenTo_len {L : Int} {n k : Nat} : (evenTo L n k).length = k := by simp [evenTo]
theorem evenTo_step {L : Int} {n k : Nat} : evenTo L n (k + 1) = evenTo L n k ++ [((k : Int) * L) / n] := by simp [evenTo, List.range_succ]
theorem even_num {L : Int} {n k : Nat} (hn : k < n) (h12 : n ≤ 12) (h0 : 0 ≤ L) (h1 : L ≤ 1000000) : (0 ≤ (k : Int) * L ∧ (k : Int) * L ≤ 12000000) ∧ Int.tdiv ((k : Int) * L) n = ((k : Int) * L) / n ∧ 0 ≤ ((k : Int) * L) / n ∧ ((k : Int) * L) / n ≤ 12000000 := by
  have h2 : 0 ≤ (k : Int) * L := Int.mul_nonneg (by omega) h0
  have h3 : (k : Int) * L ≤ 12 * L := Int.mul_le_mul_of_nonneg_right (by omega) h0
  have h4 : 0 ≤ ((k : Int) * L) / n := Int.ediv_nonneg h2 (by omega)
  have h5 : ((k : Int) * L) / n ≤ (k : Int) * L := Int.ediv_le_self _ h2
  exact ⟨⟨h2, by omega⟩, Int.tdiv_eq_ediv_of_nonneg h2, h4, by omega⟩
theorem good_of {f : FuncId} {L s : Int} {l : List Int} {n : Nat} {W : World} {A : Option Addr} {cap : Nat} (h : Calls Try.prog f #[.agg #[.int .i64 L, .int .i64 s, .slice A l.length cap]] W fun e w' => e = .returned (.bool (goodC L s l)) ∧ Below W.heap.size W w') (hn : l.length = n) :
    Calls Try.prog f #[.agg #[.int .i64 L, .int .i64 s, .slice A n cap]] W fun e w' => e = .returned (.bool (goodC L s l)) ∧ Below W.heap.size W w' := by subst hn; exact h
set_option maxHeartbeats 2000000 in
theorem implEvenStarts_c (L s n : Int) (w : World) (h0 : 0 ≤ L) (h1 : L ≤ 1000000) :
    Calls Try.prog 20 #[.int .i64 L, .int .i64 s, .int .i64 n] w (CircPost L s (evenP L s n) w) := by
  have HZ := Lib.hid (Box.new w zeroL 26)
  rcases hL : inR L 10 4000 with _ | _
  · have H := Lib.hid (show evenP L s n = ([], false) by simp [evenP, hL])
    go_enter Try.func20, Try.ntmps20
    go_wp2_with (go_at_call 26; refine (within_c _ _ _ _).mono ?_; rintro e w' ⟨rfl, rfl⟩)
    exact bodyPost_ret (v := .tuple #[.agg #[.int .i64 0, .int .i64 0, .slice none 0 0], .bool false]) (by simp [results, Try.results20, go_sem]) rfl ⟨none, 0, retz H.out, by rw [H.out]; exact Own.nil, (by repeat (first | (with_reducible exact Below.refl _ _) | ((with_reducible refine alloc_ ?_ ?_); (focus (first | exact Nat.le_refl _ | (simp; done) | (simp; omega) | omega))) | ((with_reducible refine set_ ?_ ?_); (focus (first | exact Nat.le_refl _ | (simp; done) | (simp; omega) | omega))) | (with_reducible refine Below.drew ?_) | ((with_reducible refine after_ ?_ (by assumption) ?_); (rotate_left; (focus (first | exact Nat.le_refl _ | (simp; done) | (simp; omega) | omega))))))⟩
  rcases hn : inR n 0 12 with _ | _
  · have H := Lib.hid (show evenP L s n = ([], false) by simp [evenP, hn])
    go_enter Try.func20, Try.ntmps20
    go_wp2_with (go_at_call 26; refine (within_c _ _ _ _).mono ?_; rintro e w' ⟨rfl, rfl⟩)
    exact bodyPost_ret (v := .tuple #[.agg #[.int .i64 0, .int .i64 0, .slice none 0 0], .bool false]) (by simp [results, Try.results20, go_sem]) rfl ⟨none, 0, retz H.out, by rw [H.out]; exact Own.nil, (by repeat (first | (with_reducible exact Below.refl _ _) | ((with_reducible refine alloc_ ?_ ?_); (focus (first | exact Nat.le_refl _ | (simp; done) | (simp; omega) | omega))) | ((with_reducible refine set_ ?_ ?_); (focus (first | exact Nat.le_refl _ | (simp; done) | (simp; omega) | omega))) | (with_reducible refine Below.drew ?_) | ((with_reducible refine after_ ?_ (by assumption) ?_); (rotate_left; (focus (first | exact Nat.le_refl _ | (simp; done) | (simp; omega) | omega))))))⟩
  obtain ⟨n1, n2⟩ := inR_true.1 hn
  obtain ⟨N, rfl⟩ : ∃ N : Nat, n = (N : Int) := ⟨n.toNat, by omega⟩
  have hN : N ≤ 12 := by omega
  go_enter Try.func20, Try.ntmps20
  go_wp2_with (go_at_call 26; refine (within_c _ _ _ _).mono ?_; rintro e w' ⟨rfl, rfl⟩)
  have HO0 := Lib.hid (show ((w.alloc (.cells #[.int .i64 0, .int .i64 0, .slice none 0 0] 26)).alloc (.cells #[.int .i64 L, .int .i64 s, .slice none 0 0] 26)).ownsRow (w.heap.size + 2) 3 1 (.slice none 0 0) 0 ((evenTo L N 0).map (Value.int .i64)) from ⟨by simp [evenTo], .inl ⟨rfl, rfl⟩⟩)
  have hx := Box.new (w.alloc (.cells #[.int .i64 0, .int .i64 0, .slice none 0 0] 26)) [.int .i64 L, .int .i64 s, .slice none 0 0] 26
  rw [World.size_alloc] at hx
  have HX0 := Lib.hid hx
  have HZ0 := Lib.hid (HZ.out.alloc (.cells #[.int .i64 L, .int .i64 s, .slice none 0 0] 26))
  have HB0 := Lib.hid (show Below w.heap.size w ((w.alloc (.cells #[.int .i64 0, .int .i64 0, .slice none 0 0] 26)).alloc (.cells #[.int .i64 L, .int .i64 s, .slice none 0 0] 26)) from (by repeat (first | (with_reducible exact Below.refl _ _) | ((with_reducible refine alloc_ ?_ ?_); (focus (first | exact Nat.le_refl _ | (simp; done) | (simp; omega) | omega))) | ((with_reducible refine set_ ?_ ?_); (focus (first | exact Nat.le_refl _ | (simp; done) | (simp; omega) | omega))) | (with_reducible refine Below.drew ?_) | ((with_reducible refine after_ ?_ (by assumption) ?_); (rotate_left; (focus (first | exact Nat.le_refl _ | (simp; done) | (simp; omega) | omega)))))))
  clear hx HZ
  go_loopw [9, 23] (fun _ i wr => ∃ (k : Nat) (A : Option Addr) (c : Nat), k ≤ N ∧ i = .int .i64 k ∧ wr.ownsRow (w.heap.size + 2) 3 1 (.slice A k c) k ((evenTo L N k).map (Value.int .i64)) ∧ Box wr (w.heap.size + 1) 26 3 [.int .i64 L, .int .i64 s, .slice A k c] ∧ Box wr w.heap.size 26 3 zeroL ∧ Below w.heap.size w wr) (fun _ i _ => N - (intOf i).toNat)
  case atStart => exact ⟨0, none, 0, Nat.zero_le _, rfl, HO0.out, HX0.out, HZ0.out, HB0.out⟩
  case round =>
    obtain ⟨k, A, c, hk, rfl, hown, hbx, hbz, hbel⟩ := hrel
    have HO := Lib.hid hown
    have HB := Lib.hid hbel
    have HX := Lib.hid hbx
    have HZ := Lib.hid hbz
    have z1 := hbel.size
    have lx := hbx.lt
    by_cases hlt : k < N
    · have x2 := hbx.cell (j := 2) rfl
      have xz := hbx.frozen
      obtain ⟨⟨m1, m2⟩, m3, m4, m5⟩ := even_num hlt hN h0 h1
      have HS := Lib.hid (evenTo_step (L := L) (n := N) (k := k))
      have a1 : IntKind.i64.wrap ((k : Int) * L) = (k : Int) * L := IntWalk.i64_in _ (by omega)
      have a2 : IntKind.i64.wrap ((k : Int) * L / N) = (k : Int) * L / N := IntWalk.i64_in _ (by omega)
      have a3 : ¬ N = 0 := by omega
      have a4 : (k : Int) < N := by omega
      have l2 : w.heap.size + 2 ≤ wr.heap.size := by omega
      clear hown hbx hbz hbel
      go_wp2_with fail
      go_region_law (first
        | (refine step_extend rfl (.tmp 27) (.tmp 33) 24 rfl (w.heap.size + 2) 3 (.int .i64 0) 1 8 Try.underlying24 info_int rfl (by decide) (by decide) _ k _ rfl (ownsRow_below HO.out (by repeat (first | (with_reducible exact Below.refl _ _) | ((with_reducible refine alloc_ ?_ ?_); (focus (first | exact Nat.le_refl _ | (simp; done) | (simp; omega) | omega))) | ((with_reducible refine set_ ?_ ?_); (focus (first | exact Nat.le_refl _ | (simp; done) | (simp; omega) | omega))) | (with_reducible refine Below.drew ?_) | ((with_reducible refine after_ ?_ (by assumption) ?_); (rotate_left; (focus (first | exact Nat.le_refl _ | (simp; done) | (simp; omega) | omega))))))) wr.heap.size 0 1 1 [.int .i64 ((k : Int) * L / N)] rfl rfl (news_one (cs := #[.int .i64 ((k : Int) * L / N)]) (by first | exact heap_alloc_new _ _ | exact heap_new' _ _ rfl)) (ints_one' [_]) (by omega) (by first | omega | (simp; omega)) ?_; intro v' w' hown' hb' hk'; obtain ⟨A', c', rfl⟩ := ownsRow_shape hown'; have HO' := Lib.hid hown'; have HB' := Lib.hid hb'; have hx' := (HX.out.carry (show Below wr.heap.size wr _ from (by repeat (first | (with_reducible exact Below.refl _ _) | ((with_reducible refine alloc_ ?_ ?_); (focus (first | exact Nat.le_refl _ | (simp; done) | (simp; omega) | omega))) | ((with_reducible refine set_ ?_ ?_); (focus (first | exact Nat.le_refl _ | (simp; done) | (simp; omega) | omega))) | (with_reducible refine Below.drew ?_) | ((with_reducible refine after_ ?_ (by assumption) ?_); (rotate_left; (focus (first | exact Nat.le_refl _ | (simp; done) | (simp; omega) | omega)))))))).below hb' (by omega); have e2 := hx'.cell (j := 2) rfl; have ez := hx'.frozen; have HX' := Lib.hid hx'; clear hown' hk' hx'))
      all_goals
        have HB2 := Lib.hid (show Below (w.heap.size + 2) wr w' from (Below.mono (B := wr.heap.size) (((Below.refl _ _).alloc (Nat.le_refl _) (.cells #[.int .i64 ((k : Int) * L / N)] 3)).drew) (by omega)).trans HB'.out)
        have HX2 := Lib.hid (HX'.out.set 2 (.slice A' (k + 1) c'))
        have HZ2 := Lib.hid ((HZ.out.below HB2.out (by omega)).far (p := ⟨w.heap.size + 1, 2, none⟩) (by simp) (.slice A' (k + 1) c'))
        have HO2 := Lib.hid (owns_grown HO'.out (grown_set (s := 2) (v := .slice A' (k + 1) c') (World.grownBy.refl w' (some (w.heap.size + 1)))) (by omega))
        have HB3 := Lib.hid ((HB.out.trans (HB2.out.mono (by omega))).setCell (p := ⟨w.heap.size + 1, 2, none⟩) (show w.heap.size ≤ w.heap.size + 1 by omega) (.slice A' (k + 1) c'))
        clear a1 a2 a3 a4 x2 xz e2 ez m1 m2 m3 m4 m5
        go_wp2_with fail
        go_roundw
        case rel => exact ⟨k + 1, A', c', by omega, by go_num, by rw [HS.out, List.map_append]; exact HO2.out, HX2.out, HZ2.out, HB3.out⟩
        case measure => simp [intOf]; omega
    · obtain rfl : k = N := by omega
      have x0 := hbx.cell (j := 0) rfl
      have x1 := hbx.cell (j := 1) rfl
      have x2 := hbx.cell (j := 2) rfl
      have HE := Lib.hid (show evenTo L k k = evenL L k from rfl)
      have HLen := Lib.hid (show (evenL L k).length = k from evenL_len)
      have HRd := Lib.hid ((Own.of_row' (l := evenL L k) HO.out HLen.out.symm (by rw [HE.out, flat_ints]) (fun _ => rfl)).rd int_one)
      clear hown hbx hbz hbel
      rcases hg : goodC L s (evenL L k) with _ | _
      · have H := Lib.hid (show evenP L s k = ([], false) by simp [evenP, hg])
        go_wp2_with fail
        refine (good_of (isCircle_c L s (evenL L k) _ _ _ (by rw [HLen.out]; omega) HRd.out) HLen.out).mono ?_
        rintro e w1 ⟨rfl, hb1⟩
        have HB1 := Lib.hid (HB.out.trans (hb1.mono z1))
        have hz9 := HZ.out.carry hb1
        have z0 := hz9.cell (j := 0) rfl
        have z1 := hz9.cell (j := 1) rfl
        have z2 := hz9.cell (j := 2) rfl
        have zz := hz9.frozen
        have lz := hz9.lt
        have zs := HB1.out.size
        clear hz9
        go_wp2_with fail
        exact bodyPost_ret (v := .tuple #[.agg #[.int .i64 0, .int .i64 0, .slice none 0 0], .bool false]) (by simp [results, Try.results20, go_sem, z0, z1, z2]) rfl ⟨none, 0, retz H.out, by rw [H.out]; exact Own.nil, by have h := HB1.out; exact (by repeat (first | (with_reducible exact Below.refl _ _) | ((with_reducible refine alloc_ ?_ ?_); (focus (first | exact Nat.le_refl _ | (simp; done) | (simp; omega) | omega))) | ((with_reducible refine set_ ?_ ?_); (focus (first | exact Nat.le_refl _ | (simp; done) | (simp; omega) | omega))) | (with_reducible refine Below.drew ?_) | ((with_reducible refine after_ ?_ (by assumption) ?_); (rotate_left; (focus (first | exact Nat.le_refl _ | (simp; done) | (simp; omega) | omega))))))⟩
      · have H := Lib.hid (show evenP L s k = (evenL L k, true) by simp [evenP, hL, hn, hg])
        go_wp2_with fail
        refine (good_of (isCircle_c L s (evenL L k) _ _ _ (by rw [HLen.out]; omega) HRd.out) HLen.out).mono ?_
        rintro e w1 ⟨rfl, hb1⟩
        have HB1 := Lib.hid (HB.out.trans (hb1.mono z1))
        have hx1 := HX.out.carry hb1
        have y0 := hx1.cell (j := 0) rfl
        have y1 := hx1.cell (j := 1) rfl
        have y2 := hx1.cell (j := 2) rfl
        have ly := hx1.lt
        have HO1 := Lib.hid (ownsRow_below HO.out hb1)
        have hz1 := HZ.out.carry hb1
        have q0 := hz1.cell (j := 0) rfl
        have q1 := hz1.cell (j := 1) rfl
        have q2 := hz1.cell (j := 2) rfl
        have qz := hz1.frozen
        have zs := HB1.out.size
        have HS3 := Lib.hid (set3c w1 w.heap.size)
        clear hb1 hx1 hz1 x0 x1 x2
        go_wp2_with fail
        exact bodyPost_ret (v := .tuple #[.agg #[.int .i64 L, .int .i64 s, .slice A k c], .bool true]) (by simp [results, Try.results20, go_sem, q0, q1, q2]) rfl
          ⟨A, c, retw (by rw [HLen.out]) H.out, by rw [H.out]; exact ((Own.of_row' (l := evenL L k) HO1.out HLen.out.symm (by rw [HE.out, flat_ints]) (fun _ => rfl)).grown (HS3.out _ _ _) (by omega)).less (by omega), by have h := HB1.out; exact (by repeat (first | (with_reducible exact Below.refl _ _) | ((with_reducible refine alloc_ ?_ ?_); (focus (first | exact Nat.le_refl _ | (simp; done) | (simp; omega) | omega))) | ((with_reducible refine set_ ?_ ?_); (focus (first | exact Nat.le_refl _ | (simp; done) | (simp; omega) | omega))) | (with_reducible refine Below.drew ?_) | ((with_reducible refine after_ ?_ (by assumption) ?_); (rotate_left; (focus (first | exact Nat.le_refl _ | (simp; done) | (simp; omega) | omega))))))⟩
set_option maxHeartbeats 2000000 in
theorem specEvenStarts_c (L s n : Int) (w : World) (h0 : 0 ≤ L) (h1 : L ≤ 1000000) :
    Calls Try.prog 21 #[.int .i64 L, .int .i64 s, .int .i64 n] w (CircPost L s (evenP L s n) w) := by
  have HZ := Lib.hid (Box.new w zeroL 26)
  rcases hn : inR n 0 12 with _ | _
  · have H := Lib.hid (show evenP L s n = ([], false) by simp [evenP, hn])
    go_enter Try.func21, Try.ntmps21
    go_wp2_with (go_at_call 32; refine (l1In_c _ _ _ _).mono ?_; rintro e w' ⟨rfl, rfl⟩)
    exact bodyPost_ret (v := .tuple #[.agg #[.int .i64 0, .int .i64 0, .slice none 0 0], .bool false]) (by simp [results, Try.results21, go_sem]) rfl ⟨none, 0, retz H.out, by rw [H.out]; exact Own.nil, (by repeat (first | (with_reducible exact Below.refl _ _) | ((with_reducible refine alloc_ ?_ ?_); (focus (first | exact Nat.le_refl _ | (simp; done) | (simp; omega) | omega))) | ((with_reducible refine set_ ?_ ?_); (focus (first | exact Nat.le_refl _ | (simp; done) | (simp; omega) | omega))) | (with_reducible refine Below.drew ?_) | ((with_reducible refine after_ ?_ (by assumption) ?_); (rotate_left; (focus (first | exact Nat.le_refl _ | (simp; done) | (simp; omega) | omega))))))⟩
  obtain ⟨n1, n2⟩ := inR_true.1 hn
  obtain ⟨N, rfl⟩ : ∃ N : Nat, n = (N : Int) := ⟨n.toNat, by omega⟩
  have hN : N ≤ 12 := by omega
  go_enter Try.func21, Try.ntmps21
  go_wp2_with (go_at_call 32; refine (l1In_c _ _ _ _).mono ?_; rintro e w' ⟨rfl, rfl⟩)
  have HO0 := Lib.hid (show (((w.alloc (.cells #[.int .i64 0, .int .i64 0, .slice none 0 0] 26)).alloc (.cells #[] 3)).alloc (.cells #[.int .i64 L, .int .i64 s, .slice (some ⟨w.heap.size + 1, 0, none⟩) 0 0] 26)).ownsRow (w.heap.size + 1) 3 1 (.slice (some ⟨w.heap.size + 1, 0, none⟩) 0 0) 0 ((evenTo L N 0).map (Value.int .i64)) from own_empty (by
    have h := heap_alloc_new (w.alloc (.cells #[.int .i64 0, .int .i64 0, .slice none 0 0] 26)) (.cells #[] 3)
    rw [World.size_alloc] at h
    exact (heap_alloc_old _ _ (by simp)).trans h) (Nat.le_refl _))
  have hx := Box.new ((w.alloc (.cells #[.int .i64 0, .int .i64 0, .slice none 0 0] 26)).alloc (.cells #[] 3)) [.int .i64 L, .int .i64 s, .slice (some ⟨w.heap.size + 1, 0, none⟩) 0 0] 26
  rw [World.size_alloc, World.size_alloc] at hx
  have HX0 := Lib.hid hx
  have HZ0 := Lib.hid ((HZ.out.alloc (.cells #[] 3)).alloc (.cells #[.int .i64 L, .int .i64 s, .slice (some ⟨w.heap.size + 1, 0, none⟩) 0 0] 26))
  have HB0 := Lib.hid (show Below w.heap.size w (((w.alloc (.cells #[.int .i64 0, .int .i64 0, .slice none 0 0] 26)).alloc (.cells #[] 3)).alloc (.cells #[.int .i64 L, .int .i64 s, .slice (some ⟨w.heap.size + 1, 0, none⟩) 0 0] 26)) from (by repeat (first | (with_reducible exact Below.refl _ _) | ((with_reducible refine alloc_ ?_ ?_); (focus (first | exact Nat.le_refl _ | (simp; done) | (simp; omega) | omega))) | ((with_reducible refine set_ ?_ ?_); (focus (first | exact Nat.le_refl _ | (simp; done) | (simp; omega) | omega))) | (with_reducible refine Below.drew ?_) | ((with_reducible refine after_ ?_ (by assumption) ?_); (rotate_left; (focus (first | exact Nat.le_refl _ | (simp; done) | (simp; omega) | omega)))))))
  clear hx HZ
  go_loopw [9] (fun i wr => ∃ (k : Nat) (A : Option Addr) (c : Nat), k ≤ N ∧ i = .int .i64 k ∧ wr.ownsRow (w.heap.size + 1) 3 1 (.slice A k c) k ((evenTo L N k).map (Value.int .i64)) ∧ (Value.slice A k c).ownBlock ≠ some (w.heap.size + 2) ∧ Box wr (w.heap.size + 2) 26 3 [.int .i64 L, .int .i64 s, .slice A k c] ∧ Box wr w.heap.size 26 3 zeroL ∧ Below w.heap.size w wr) (fun i _ => N - (intOf i).toNat)
  case atStart => exact ⟨0, some ⟨w.heap.size + 1, 0, none⟩, 0, Nat.zero_le _, rfl, HO0.out, by simp [Value.ownBlock], HX0.out, HZ0.out, HB0.out⟩
  case round =>
    obtain ⟨k, A, c, hk, rfl, hown, hne, hbx, hbz, hbel⟩ := hrel
    have HNE := Lib.hid hne
    clear hne
    have HO := Lib.hid hown
    have HB := Lib.hid hbel
    have HX := Lib.hid hbx
    have HZ := Lib.hid hbz
    have z1 := hbel.size
    have lx := hbx.lt
    by_cases hlt : k < N
    · have x2 := hbx.cell (j := 2) rfl
      have xz := hbx.frozen
      obtain ⟨⟨m1, m2⟩, m3, m4, m5⟩ := even_num hlt hN h0 h1
      have HS := Lib.hid (evenTo_step (L := L) (n := N) (k := k))
      have a1 : IntKind.i64.wrap ((k : Int) * L) = (k : Int) * L := IntWalk.i64_in _ (by omega)
      have a2 : IntKind.i64.wrap ((k : Int) * L / N) = (k : Int) * L / N := IntWalk.i64_in _ (by omega)
      have a3 : ¬ N = 0 := by omega
      have a4 : (k : Int) < N := by omega
      have l2 : w.heap.size + 3 ≤ wr.heap.size := by omega
      clear hown hbx hbz hbel
      go_wp2_with fail
      go_region_law (first
        | (refine step_extend rfl (.tmp 24) (.tmp 30) 24 rfl (w.heap.size + 1) 3 (.int .i64 0) 1 8 Try.underlying24 info_int rfl (by decide) (by decide) _ k _ rfl (ownsRow_below HO.out (by repeat (first | (with_reducible exact Below.refl _ _) | ((with_reducible refine alloc_ ?_ ?_); (focus (first | exact Nat.le_refl _ | (simp; done) | (simp; omega) | omega))) | ((with_reducible refine set_ ?_ ?_); (focus (first | exact Nat.le_refl _ | (simp; done) | (simp; omega) | omega))) | (with_reducible refine Below.drew ?_) | ((with_reducible refine after_ ?_ (by assumption) ?_); (rotate_left; (focus (first | exact Nat.le_refl _ | (simp; done) | (simp; omega) | omega))))))) wr.heap.size 0 1 1 [.int .i64 ((k : Int) * L / N)] rfl rfl (news_one (cs := #[.int .i64 ((k : Int) * L / N)]) (by first | exact heap_alloc_new _ _ | exact heap_new' _ _ rfl)) (ints_one' [_]) (by omega) (by first | omega | (simp; omega)) ?_; intro v' w' hown' hb' hk'; obtain ⟨A', c', rfl⟩ := ownsRow_shape hown'; have HO' := Lib.hid hown'; have HB' := Lib.hid hb'; obtain ⟨hk1, hk2⟩ := hk' (w.heap.size + 2) (by simp; omega) HNE.out; have HNE' := Lib.hid hk2; have hx' := (HX.out.carry (show Below wr.heap.size wr _ from (by repeat (first | (with_reducible exact Below.refl _ _) | ((with_reducible refine alloc_ ?_ ?_); (focus (first | exact Nat.le_refl _ | (simp; done) | (simp; omega) | omega))) | ((with_reducible refine set_ ?_ ?_); (focus (first | exact Nat.le_refl _ | (simp; done) | (simp; omega) | omega))) | (with_reducible refine Below.drew ?_) | ((with_reducible refine after_ ?_ (by assumption) ?_); (rotate_left; (focus (first | exact Nat.le_refl _ | (simp; done) | (simp; omega) | omega)))))))).keep hk1; have e2 := hx'.cell (j := 2) rfl; have ez := hx'.frozen; have HX' := Lib.hid hx'; clear hown' hk' hx' hk1 hk2))
      all_goals
        have HB2 := Lib.hid (show Below (w.heap.size + 1) wr w' from (Below.mono (B := wr.heap.size) (((Below.refl _ _).alloc (Nat.le_refl _) (.cells #[.int .i64 ((k : Int) * L / N)] 3)).drew) (by omega)).trans HB'.out)
        have HX2 := Lib.hid (HX'.out.set 2 (.slice A' (k + 1) c'))
        have HZ2 := Lib.hid ((HZ.out.below HB2.out (by omega)).far (p := ⟨w.heap.size + 2, 2, none⟩) (by simp) (.slice A' (k + 1) c'))
        have HO2 := Lib.hid (HO'.out.kept (row := some (w.heap.size + 2)) (grown_set (s := 2) (v := .slice A' (k + 1) c') (World.grownBy.refl w' (some (w.heap.size + 2)))) (.inr HNE'.out))
        have HB3 := Lib.hid ((HB.out.trans (HB2.out.mono (by omega))).setCell (p := ⟨w.heap.size + 2, 2, none⟩) (show w.heap.size ≤ w.heap.size + 2 by omega) (.slice A' (k + 1) c'))
        clear a1 a2 a3 a4 x2 xz e2 ez m1 m2 m3 m4 m5
        go_wp2_with fail
        go_roundw
        case rel => exact ⟨k + 1, A', c', by omega, by go_num, by rw [HS.out, List.map_append]; exact HO2.out, HNE'.out, HX2.out, HZ2.out, HB3.out⟩
        case measure => simp [intOf]; omega
    · obtain rfl : k = N := by omega
      have x0 := hbx.cell (j := 0) rfl
      have x1 := hbx.cell (j := 1) rfl
      have x2 := hbx.cell (j := 2) rfl
      have HE := Lib.hid (show evenTo L k k = evenL L k from rfl)
      have HLen := Lib.hid (show (evenL L k).length = k from evenL_len)
      have HRd := Lib.hid ((Own.of_row' (l := evenL L k) HO.out HLen.out.symm (by rw [HE.out, flat_ints]) (fun _ => rfl)).rd int_one)
      clear hown hbx hbz hbel
      rcases hg : goodC L s (evenL L k) with _ | _
      · have H := Lib.hid (show evenP L s k = ([], false) by simp [evenP, hg])
        go_wp2_with fail
        refine (good_of (l8Good_c L s (evenL L k) _ _ _ ⟨by omega, h1⟩ (by rw [HLen.out]; omega) HRd.out) HLen.out).mono ?_
        rintro e w1 ⟨rfl, hb1⟩
        have HB1 := Lib.hid (HB.out.trans (hb1.mono z1))
        have hz9 := HZ.out.carry hb1
        have z0 := hz9.cell (j := 0) rfl
        have z1 := hz9.cell (j := 1) rfl
        have z2 := hz9.cell (j := 2) rfl
        have zz := hz9.frozen
        have lz := hz9.lt
        have zs := HB1.out.size
        clear hz9
        go_wp2_with fail
        exact bodyPost_ret (v := .tuple #[.agg #[.int .i64 0, .int .i64 0, .slice none 0 0], .bool false]) (by simp [results, Try.results21, go_sem, z0, z1, z2]) rfl ⟨none, 0, retz H.out, by rw [H.out]; exact Own.nil, by have h := HB1.out; exact (by repeat (first | (with_reducible exact Below.refl _ _) | ((with_reducible refine alloc_ ?_ ?_); (focus (first | exact Nat.le_refl _ | (simp; done) | (simp; omega) | omega))) | ((with_reducible refine set_ ?_ ?_); (focus (first | exact Nat.le_refl _ | (simp; done) | (simp; omega) | omega))) | (with_reducible refine Below.drew ?_) | ((with_reducible refine after_ ?_ (by assumption) ?_); (rotate_left; (focus (first | exact Nat.le_refl _ | (simp; done) | (simp; omega) | omega))))))⟩
      · have H := Lib.hid (show evenP L s k = (evenL L k, true) by simp [evenP, inR_true.2 (goodC_of hg).len, hn, hg])
        go_wp2_with fail
        refine (good_of (l8Good_c L s (evenL L k) _ _ _ ⟨by omega, h1⟩ (by rw [HLen.out]; omega) HRd.out) HLen.out).mono ?_
        rintro e w1 ⟨rfl, hb1⟩
        have HB1 := Lib.hid (HB.out.trans (hb1.mono z1))
        have hx1 := HX.out.carry hb1
        have y0 := hx1.cell (j := 0) rfl
        have y1 := hx1.cell (j := 1) rfl
        have y2 := hx1.cell (j := 2) rfl
        have ly := hx1.lt
        have HO1 := Lib.hid (ownsRow_below HO.out hb1)
        have hz1 := HZ.out.carry hb1
        have q0 := hz1.cell (j := 0) rfl
        have q1 := hz1.cell (j := 1) rfl
        have q2 := hz1.cell (j := 2) rfl
        have qz := hz1.frozen
        have zs := HB1.out.size
        have HS3 := Lib.hid (set3c w1 w.heap.size)
        clear hb1 hx1 hz1 x0 x1 x2
        go_wp2_with fail
        exact bodyPost_ret (v := .tuple #[.agg #[.int .i64 L, .int .i64 s, .slice A k c], .bool true]) (by simp [results, Try.results21, go_sem, q0, q1, q2]) rfl
          ⟨A, c, retw (by rw [HLen.out]) H.out, by rw [H.out]; exact ((Own.of_row' (l := evenL L k) HO1.out HLen.out.symm (by rw [HE.out, flat_ints]) (fun _ => rfl)).grown (HS3.out _ _ _) (by omega)).less (by omega), by have h := HB1.out; exact (by repeat (first | (with_reducible exact Below.refl _ _) | ((with_reducible refine alloc_ ?_ ?_); (focus (first | exact Nat.le_refl _ | (simp; done) | (simp; omega) | omega))) | ((with_reducible refine set_ ?_ ?_); (focus (first | exact Nat.le_refl _ | (simp; done) | (simp; omega) | omega))) | (with_reducible refine Below.drew ?_) | ((with_reducible refine after_ ?_ (by assumption) ?_); (rotate_left; (focus (first | exact Nat.le_refl _ | (simp; done) | (simp; omega) | omega))))))⟩
end Go.Proofs.Ytifmeloljkgcjaa
