/- AddCabin of the reference returns the Lean function; no conditions but the length and that the ring's length is not far off. -/
import Derived.Test.YtifmeloljkgcjaaAddCab
import Derived.Test.YtifmeloljkgcjaaRemSpec
import Derived.Deep.DeepCutAuto
import Derived.Deep.RegionHeld3
namespace Go.Proofs.Ytifmeloljkgcjaa
open Go.RowKit

/-- A copy that lies in a block even if it is empty. -/
theorem l1Own_r (l : List Int) (b off cap : Nat) (w : World) (hl : l.length ≤ 1048576) (hr : Rd w w.heap.size 1 intCells (some ⟨b, off, none⟩) l) :
    Calls Try.prog 36 #[.slice (some ⟨b, off, none⟩) l.length cap] w fun e w' => ∃ g c, e = .returned (.slice (some ⟨g, 0, none⟩) l.length c) ∧ w'.ownsRow w.heap.size 3 1 (.slice (some ⟨g, 0, none⟩) l.length c) l.length (flat intCells l) ∧ l.length ≤ c ∧ Below w.heap.size w w' := by
  by_cases h0 : l = []
  · subst h0
    simp only [List.length_nil]
    go_enter Try.func36, Try.ntmps36
    go_wp2_with fail
    go_ret
    exact ⟨_, _, rfl, ownsRow_empty w 3 1, Nat.le_refl _, (by repeat (first | (with_reducible exact Below.refl _ _) | ((with_reducible refine alloc_ ?_ ?_); (focus (first | exact Nat.le_refl _ | (simp; done) | (simp; omega) | omega))) | ((with_reducible refine set_ ?_ ?_); (focus (first | exact Nat.le_refl _ | (simp; done) | (simp; omega) | omega))) | (with_reducible refine Below.drew ?_) | ((with_reducible refine after_ ?_ (by assumption) ?_); (rotate_left; (focus (first | exact Nat.le_refl _ | (simp; done) | (simp; omega) | omega))))))⟩
  · have hp : 0 < l.length := List.length_pos_iff.2 h0
    refine (l1Own_c l (some ⟨b, off, none⟩) cap w hl (.inr ⟨b, off, rfl⟩) hr).mono ?_
    rintro e w' ⟨A, c, rfl, ho, hb⟩
    have hc := own_cap ho
    rcases ho.2 with ⟨_, h1⟩ | ⟨g, c', cur, h1, _⟩
    · omega
    · simp only [Value.slice.injEq] at h1
      obtain ⟨rfl, _, rfl⟩ := h1
      exact ⟨g, c, rfl, ho, hc, hb⟩
def AtNew (L s : Int) (O : List Int) (n : Nat) (w : World) (p : Value) (wx : World) : Prop := ∃ (g : Nat) (A : Option Addr) (c : Nat), p = .pointer (some ⟨g, 0, none⟩) ∧ Box wx g 26 3 [.int .i64 L, .int .i64 s, .slice A n c] ∧ Own wx (w.heap.size + 2) 3 1 intCells A O ∧ w.heap.size + 2 ≤ g ∧ Box wx (w.heap.size + 1) 26 3 zeroL ∧ Below w.heap.size w wx
theorem put_of {f : FuncId} {o O : List Int} {n : Nat} {W : World} {args : Array Value} (h : Calls Try.prog f args W (GivesR o W)) (hO : o = O) (hn : O.length = n) :
    Calls Try.prog f args W fun e w' => ∃ g cap, e = .returned (.slice (some ⟨g, 0, none⟩) n cap) ∧ n ≤ cap ∧ W.heap.size ≤ g ∧ Arr w' g O ∧ Below W.heap.size W w' := by subst hO hn; exact h
theorem small_of {f : FuncId} {L s m : Int} {l : List Int} {n : Nat} {W : World} {A : Option Addr} {cap : Nat} (h : Calls Try.prog f #[.agg #[.int .i64 L, .int .i64 s, .slice A l.length cap]] W fun e w' => e = .returned (.int .i64 (Lib.minOf (gapsL L l))) ∧ Below W.heap.size W w') (hn : l.length = n) (hm : Lib.minOf (gapsL L l) = m) :
    Calls Try.prog f #[.agg #[.int .i64 L, .int .i64 s, .slice A n cap]] W fun e w' => e = .returned (.int .i64 m) ∧ Below W.heap.size W w' := by subst hn hm; exact h
def AtPut (L s : Int) (l : List Int) (b off cap : Nat) (w : World) (p : Value) (wx : World) : Prop := p = .int .i64 (placeC L l) ∧ placeC L l ∉ l ∧
  Box wx w.heap.size 26 3 [.int .i64 L, .int .i64 s, .slice (some ⟨b, off, none⟩) l.length cap] ∧ Box wx (w.heap.size + 1) 26 3 zeroL ∧ Rd wx wx.heap.size 1 intCells (some ⟨b, off, none⟩) l ∧ Below w.heap.size w wx
set_option maxRecDepth 100000 in
set_option maxHeartbeats 4000000 in
theorem specAddCabin_c (L s : Int) (l : List Int) (gap : Int) (b off cap : Nat) (w : World) (hN : NearC L) (hl : l.length ≤ 11) (hcap : l.length ≤ cap) (hr : Rd w w.heap.size 1 intCells (some ⟨b, off, none⟩) l) :
    Calls Try.prog 7 #[.agg #[.int .i64 L, .int .i64 s, .slice (some ⟨b, off, none⟩) l.length cap], .int .i64 gap] w (CircPost L s (addP L s l gap) w) := by
  have HX := Lib.hid ((Box.new w [.int .i64 L, .int .i64 s, .slice (some ⟨b, off, none⟩) l.length cap] 26).alloc (.cells #[.int .i64 0, .int .i64 0, .slice none 0 0] 26))
  have hz := Box.new (w.alloc (.cells #[.int .i64 L, .int .i64 s, .slice (some ⟨b, off, none⟩) l.length cap] 26)) zeroL 26
  rw [World.size_alloc] at hz
  have HZ := Lib.hid hz
  have HR := Lib.hid ((hr.alloc (.cells #[.int .i64 L, .int .i64 s, .slice (some ⟨b, off, none⟩) l.length cap] 26)).alloc (.cells #[.int .i64 0, .int .i64 0, .slice none 0 0] 26))
  clear hr hz
  rcases hg : goodC L s l with _ | _
  · have H := Lib.hid (show addP L s l gap = ([], false) by simp [addP, addC, hg])
    go_enter Try.func7, Try.ntmps7
    go_wp2_with fail
    refine (l8Good_c L s l _ _ _ hN (by omega) HR.out).mono ?_
    rintro e w1 ⟨rfl, hb1⟩
    have HB := Lib.hid (show Below w.heap.size w w1 from (by repeat (first | (with_reducible exact Below.refl _ _) | ((with_reducible refine alloc_ ?_ ?_); (focus (first | exact Nat.le_refl _ | (simp; done) | (simp; omega) | omega))) | ((with_reducible refine set_ ?_ ?_); (focus (first | exact Nat.le_refl _ | (simp; done) | (simp; omega) | omega))) | (with_reducible refine Below.drew ?_) | ((with_reducible refine after_ ?_ (by assumption) ?_); (rotate_left; (focus (first | exact Nat.le_refl _ | (simp; done) | (simp; omega) | omega)))))))
    have hz9 := HZ.out.carry hb1
    have z0 := hz9.cell (j := 0) rfl
    have z1 := hz9.cell (j := 1) rfl
    have z2 := hz9.cell (j := 2) rfl
    have zz := hz9.frozen
    have lz := hz9.lt
    have zs := HB.out.size
    clear hz9
    go_wp2_with fail
    exact bodyPost_ret (v := .tuple #[.agg #[.int .i64 0, .int .i64 0, .slice none 0 0], .bool false]) (by simp [results, Try.results7, go_sem, z0, z1, z2]) rfl ⟨none, 0, retz H.out, by rw [H.out]; exact Own.nil, by have h := HB.out; exact (by repeat (first | (with_reducible exact Below.refl _ _) | ((with_reducible refine alloc_ ?_ ?_); (focus (first | exact Nat.le_refl _ | (simp; done) | (simp; omega) | omega))) | ((with_reducible refine set_ ?_ ?_); (focus (first | exact Nat.le_refl _ | (simp; done) | (simp; omega) | omega))) | (with_reducible refine Below.drew ?_) | ((with_reducible refine after_ ?_ (by assumption) ?_); (rotate_left; (focus (first | exact Nat.le_refl _ | (simp; done) | (simp; omega) | omega))))))⟩
  rcases hk : inR gap 1 4000 with _ | _
  · have H := Lib.hid (show addP L s l gap = ([], false) by simp [addP, addC, hk])
    go_enter Try.func7, Try.ntmps7
    go_wp2_with fail
    refine (l8Good_c L s l _ _ _ hN (by omega) HR.out).mono ?_
    rintro e w1 ⟨rfl, hb1⟩
    have HB := Lib.hid (show Below w.heap.size w w1 from (by repeat (first | (with_reducible exact Below.refl _ _) | ((with_reducible refine alloc_ ?_ ?_); (focus (first | exact Nat.le_refl _ | (simp; done) | (simp; omega) | omega))) | ((with_reducible refine set_ ?_ ?_); (focus (first | exact Nat.le_refl _ | (simp; done) | (simp; omega) | omega))) | (with_reducible refine Below.drew ?_) | ((with_reducible refine after_ ?_ (by assumption) ?_); (rotate_left; (focus (first | exact Nat.le_refl _ | (simp; done) | (simp; omega) | omega)))))))
    have hx := HX.out.carry hb1
    have x0 := hx.cell (j := 0) rfl
    have x1 := hx.cell (j := 1) rfl
    have x2 := hx.cell (j := 2) rfl
    have hz9 := HZ.out.carry hb1
    have z0 := hz9.cell (j := 0) rfl
    have z1 := hz9.cell (j := 1) rfl
    have z2 := hz9.cell (j := 2) rfl
    have zz := hz9.frozen
    have lz := hz9.lt
    have zs := HB.out.size
    clear hz9
    go_wp2_with (go_at_call 32; refine (l1In_c _ _ _ _).mono ?_; rintro e w' ⟨rfl, rfl⟩)
    exact bodyPost_ret (v := .tuple #[.agg #[.int .i64 0, .int .i64 0, .slice none 0 0], .bool false]) (by simp [results, Try.results7, go_sem, z0, z1, z2]) rfl ⟨none, 0, retz H.out, by rw [H.out]; exact Own.nil, by have h := HB.out; exact (by repeat (first | (with_reducible exact Below.refl _ _) | ((with_reducible refine alloc_ ?_ ?_); (focus (first | exact Nat.le_refl _ | (simp; done) | (simp; omega) | omega))) | ((with_reducible refine set_ ?_ ?_); (focus (first | exact Nat.le_refl _ | (simp; done) | (simp; omega) | omega))) | (with_reducible refine Below.drew ?_) | ((with_reducible refine after_ ?_ (by assumption) ?_); (rotate_left; (focus (first | exact Nat.le_refl _ | (simp; done) | (simp; omega) | omega))))))⟩
  have HW := Lib.hid (goodC_of hg)
  have hL := (goodC_of hg).len
  go_enter Try.func7, Try.ntmps7
  go_wp2_with fail
  refine (l8Good_c L s l _ _ _ hN (by omega) HR.out).mono ?_
  rintro e w1 ⟨rfl, hb1⟩
  have HB := Lib.hid (show Below w.heap.size w w1 from (by repeat (first | (with_reducible exact Below.refl _ _) | ((with_reducible refine alloc_ ?_ ?_); (focus (first | exact Nat.le_refl _ | (simp; done) | (simp; omega) | omega))) | ((with_reducible refine set_ ?_ ?_); (focus (first | exact Nat.le_refl _ | (simp; done) | (simp; omega) | omega))) | (with_reducible refine Below.drew ?_) | ((with_reducible refine after_ ?_ (by assumption) ?_); (rotate_left; (focus (first | exact Nat.le_refl _ | (simp; done) | (simp; omega) | omega)))))))
  have HX1 := Lib.hid (HX.out.carry hb1)
  have HZ1 := Lib.hid (HZ.out.carry hb1)
  have HR1 := Lib.hid (HR.out.carry hb1)
  have hx := HX.out.carry hb1
  have x0 := hx.cell (j := 0) rfl
  have x1 := hx.cell (j := 1) rfl
  have x2 := hx.cell (j := 2) rfl
  clear hb1 hx HX HZ HR
  obtain ⟨G, hG⟩ : ∃ G, gapsL L l = G := ⟨_, rfl⟩
  have HG := Lib.hid hG
  have HGl := Lib.hid (show G.length = l.length by rw [← hG, gapsL_len])
  have HGn := Lib.hid (show ∀ i, i < l.length → nth G i = gapAt L l i from fun i hi => by rw [← hG, gapsL_nth hi])
  clear hG
  go_wp2_with (go_at_call 32; refine (l1In_c _ _ _ _).mono ?_; rintro e w' ⟨rfl, rfl⟩)
  refine (l8Gaps_c L s l _ _ _ HW.out HR1.out).mono ?_
  rw [HG.out]
  rintro e w2 ⟨A3, c3, rfl, ho, hb2⟩
  have HX2 := Lib.hid (HX1.out.carry hb2)
  have HZ2 := Lib.hid (HZ1.out.carry hb2)
  have HR2 := Lib.hid (HR1.out.carry hb2)
  have HB2 := Lib.hid (HB.out.trans (hb2.mono HB.out.size))
  have HRg := Lib.hid (ho.rd int_one')
  clear ho hb2 HX1 HZ1 HR1 HB x0 x1 x2
  go_upto_if 24 with fail
  go_cut [6] (fun p wx => AtPut L s l b off cap w p wx)
  case first => as_aux_lemma =>
    by_cases h0 : G.length = 0
    · have hl0 : l.length = 0 := by rw [← HGl.out]; exact h0
      have hn := place_new HW.out (.inl hl0)
      have HP := Lib.hid (show placeC L l = 0 by rw [placeC, hl0]; rfl)
      have HNw := Lib.hid hn.1
      have q0 : ¬ (0 : Int) < G.length := by omega
      clear h0 hl0 hn
      go_wp2_with fail
      go_meet
      exact ⟨by rw [HP.out], HNw.out, HX2.out, HZ2.out, HR2.out, HB2.out⟩
    · have q0 : (0 : Int) < G.length := by omega
      have q1 : 0 < G.length := by omega
      clear h0
      obtain ⟨b0, off0, rfl, hb0, hd0⟩ := HRg.out.int q1
      clear hb0 hd0
      go_wp2_with fail
      go_loopw [8, 9] (fun best i wr => ∃ k : Nat, 1 ≤ k ∧ k ≤ G.length ∧ i = .int .i64 k ∧ best = .int .i64 (bestTo (gapAt L l) k) ∧ Below w2.heap.size w2 wr) (fun _ i _ => G.length - (intOf i).toNat)
      case atStart => exact ⟨1, Nat.le_refl _, by omega, rfl, by simp [bestTo], Below.refl _ _⟩
      case round =>
        obtain ⟨k, hk1, hk2, rfl, rfl, hbel⟩ := hrel
        have HBr := Lib.hid hbel
        have hbt := bestTo_lt (gapAt L l) k (by omega)
        obtain ⟨B, hB⟩ : ∃ B, bestTo (gapAt L l) k = B := ⟨_, rfl⟩
        have HS := Lib.hid (show bestTo (gapAt L l) (k + 1) = if gapAt L l B < gapAt L l k then k else B by rw [← hB]; rfl)
        rw [hB] at hbt ⊢
        have HBt := Lib.hid hB
        have z2 := hbel.size
        obtain ⟨b1, off1, he1, hb1, hd1⟩ := (HRg.out.below hbel (Nat.le_refl _)).int (show B < G.length by omega)
        simp only [Option.some.injEq, Addr.mk.injEq, and_true] at he1
        obtain ⟨rfl, rfl⟩ := he1
        have hBl : B < l.length := by have := HGl.out; omega
        rw [HGn.out B hBl] at hd1
        have i1 : (0 : Int) ≤ (B : Int) := by omega
        have i2 : (B : Int) < G.length := by omega
        clear hB
        by_cases hlt : k < G.length
        · obtain ⟨b2, off2, he2, hb2, hd2⟩ := (HRg.out.below hbel (Nat.le_refl _)).int hlt
          simp only [Option.some.injEq, Addr.mk.injEq, and_true] at he2
          obtain ⟨rfl, rfl⟩ := he2
          rw [HGn.out k (by have := HGl.out; omega)] at hd2
          have i3 : (0 : Int) ≤ (k : Int) := by omega
          have i4 : (k : Int) < G.length := by omega
          obtain ⟨x, hx⟩ : ∃ x, gapAt L l k = x := ⟨_, rfl⟩
          obtain ⟨y, hy⟩ : ∃ y, gapAt L l B = y := ⟨_, rfl⟩
          rw [hx] at hd2
          rw [hy] at hd1
          have HS2 := Lib.hid (show bestTo (gapAt L l) (k + 1) = if y < x then k else B by rw [HS.out, hx, hy])
          have l1 : b0 < wr.heap.size := by omega
          have hk11 : k < 11 := by have := HGl.out; omega
          clear hbel hx hy HS
          by_cases hm : y < x
          · go_wp2_with fail
            refine wp_region_mem (by kernel_rfl) (by kernel_rfl) ?_
            repeat (go_big_quiet_step (fail))
            refine wpQuiet_nil ?_
            intro _ hw'
            obtain ⟨⟨wq, hbq⟩, hw''⟩ := hw'
            obtain rfl := hw''.symm
            obtain ⟨hcq, hfq, hzq⟩ := bcell hbq
            try simp [Nat.add_one_le_iff] at hzq
            go_wp2_with fail
            go_roundw
            case rel => exact ⟨k + 1, by omega, by omega, by go_num, by rw [HS2.out, if_pos hm], HBr.out.trans (hbq.mono z2)⟩
            case measure => simp [intOf]; omega
          · go_wp2_with fail
            refine wp_region_mem (by kernel_rfl) (by kernel_rfl) ?_
            repeat (go_big_quiet_step (fail))
            refine wpQuiet_nil ?_
            intro _ hw'
            obtain ⟨⟨wq, hbq⟩, hw''⟩ := hw'
            obtain rfl := hw''.symm
            obtain ⟨hcq, hfq, hzq⟩ := bcell hbq
            try simp [Nat.add_one_le_iff] at hzq
            go_wp2_with fail
            go_roundw
            case rel => exact ⟨k + 1, by omega, by omega, by go_num, by rw [HS2.out, if_neg (by omega)], HBr.out.trans (hbq.mono z2)⟩
            case measure => simp [intOf]; omega
        · obtain rfl : k = G.length := by omega
          have hin := HW.out.inside B hBl
          have hp := gap_pos HW.out hBl
          obtain ⟨b2, off2, he2, hb2, hd2⟩ := (HR2.out.below hbel (Nat.le_refl _)).int hBl
          simp only [Option.some.injEq, Addr.mk.injEq, and_true] at he2
          obtain ⟨rfl, rfl⟩ := he2
          have hcb := HX2.out.below hbel HX2.out.lt
          have c0 := hcb.cell (j := 0) rfl
          have c2 := hcb.cell (j := 2) rfl
          have lc := hcb.lt
          have l1 : b0 < wr.heap.size := by omega
          have l2 : b < wr.heap.size := by omega
          have HBest := Lib.hid (show bestC L l = B by unfold bestC; rw [← HGl.out]; exact HBt.out)
          have HPl := Lib.hid (show placeC L l = (nth l B + gapAt L l B / 2) % L by
            rw [← HBest.out]; unfold placeC placeTo; rw [if_neg (by omega)]; rfl)
          have HBe := Lib.hid (HB2.out.trans (hbel.mono HB2.out.size))
          have HXe := Lib.hid (HX2.out.below hbel HX2.out.lt)
          have HZe := Lib.hid (HZ2.out.below hbel HZ2.out.lt)
          have HRe := Lib.hid (HR2.out.carry hbel)
          obtain ⟨y, hy⟩ : ∃ y, gapAt L l B = y := ⟨_, rfl⟩
          have HY := Lib.hid hy
          rw [hy] at hd1 hp
          have i3 : (B : Int) < l.length := by omega
          have a1 : y.tdiv 2 = y / 2 := Int.tdiv_eq_ediv_of_nonneg (by omega)
          have a2 : IntKind.i64.wrap (nth l B + y / 2) = nth l B + y / 2 := IntWalk.i64_in _ (by omega)
          have a3 : (nth l B + y / 2).tmod L = (nth l B + y / 2) % L := Int.tmod_eq_emod_of_nonneg (by omega)
          have a4 : ¬ L = 0 := by omega
          clear hbel hcb hy HX2 HZ2 HR2 HB2 HBr
          by_cases hm : y < 2
          · have hdup := isort_dup (L := L) (s := s) (place_old HW.out (by omega) (by rw [HBest.out, HY.out]; exact hm))
            have H := Lib.hid (show addP L s l gap = ([], false) by simp only [addP, addC, addL, hdup, Bool.false_and, Bool.and_false, if_false, Bool.false_eq_true])
            clear hdup
            go_wp2_with fail
            refine wp_region_mem (by kernel_rfl) (by kernel_rfl) ?_
            repeat (go_big_quiet_step (fail))
            refine wpQuiet_nil ?_
            intro _ hw'
            obtain ⟨⟨wq, hbq⟩, hw''⟩ := hw'
            obtain rfl := hw''.symm
            obtain ⟨hcq, hfq, hzq⟩ := bcell hbq
            try simp [Nat.add_one_le_iff] at hzq
            have HBq := Lib.hid (HBe.out.trans (hbq.mono HBe.out.size))
            have hz9 := HZe.out.carry hbq
            have z0 := hz9.cell (j := 0) rfl
            have z1 := hz9.cell (j := 1) rfl
            have z2 := hz9.cell (j := 2) rfl
            have zz := hz9.frozen
            have lz := hz9.lt
            have zs := HBq.out.size
            clear hz9
            go_wp2_with fail
            exact bodyPost_ret (v := .tuple #[.agg #[.int .i64 0, .int .i64 0, .slice none 0 0], .bool false]) (by simp [results, Try.results7, go_sem, z0, z1, z2]) rfl ⟨none, 0, retz H.out, by rw [H.out]; exact Own.nil, by have h := HBq.out; exact (by repeat (first | (with_reducible exact Below.refl _ _) | ((with_reducible refine alloc_ ?_ ?_); (focus (first | exact Nat.le_refl _ | (simp; done) | (simp; omega) | omega))) | ((with_reducible refine set_ ?_ ?_); (focus (first | exact Nat.le_refl _ | (simp; done) | (simp; omega) | omega))) | (with_reducible refine Below.drew ?_) | ((with_reducible refine after_ ?_ (by assumption) ?_); (rotate_left; (focus (first | exact Nat.le_refl _ | (simp; done) | (simp; omega) | omega))))))⟩
          · have HNew := Lib.hid (place_new HW.out (.inr (by rw [HBest.out, HY.out]; omega))).1
            go_wp2_with fail
            refine wp_region_mem (by kernel_rfl) (by kernel_rfl) ?_
            repeat (go_big_quiet_step (fail))
            refine wpQuiet_nil ?_
            intro _ hw'
            obtain ⟨⟨wq, hbq⟩, hw''⟩ := hw'
            obtain rfl := hw''.symm
            obtain ⟨hcq, hfq, hzq⟩ := bcell hbq
            try simp [Nat.add_one_le_iff] at hzq
            have HBq := Lib.hid (HBe.out.trans (hbq.mono HBe.out.size))
            go_wp2_with fail
            go_meet
            exact ⟨by rw [HPl.out, HY.out], HNew.out, HXe.out.carry hbq, HZe.out.carry hbq, HRe.out.carry hbq, HBq.out⟩
  case rest => as_aux_lemma =>
    obtain ⟨rfl, hnew, hcx, hzx, hrd, hbel⟩ := hcut
    clear HX2 HZ2 HR2 HB2 HRg HG HGl HGn
    obtain ⟨k, hpl, hso⟩ := isort_put HW.out hnew
    obtain ⟨P, hP⟩ : ∃ P, placeC L l = P := ⟨_, rfl⟩
    obtain ⟨O, hO⟩ : ∃ O, addL L l = O := ⟨_, rfl⟩
    have HOl := Lib.hid (show O.length = l.length + 1 by rw [← hO]; exact addL_len)
    have HOe := Lib.hid hO
    have HSo := Lib.hid (show l.take k ++ [P] ++ l.drop k = O by rw [← hO, ← hP]; exact hso.symm)
    rw [hP] at hpl ⊢
    have HPl := Lib.hid hpl
    have HX := Lib.hid hcx
    have HZ := Lib.hid hzx
    have HR := Lib.hid hrd
    have HB := Lib.hid hbel
    have x0 := hcx.cell (j := 0) rfl
    have x1 := hcx.cell (j := 1) rfl
    have x2 := hcx.cell (j := 2) rfl
    have lx1 : w.heap.size < wc.heap.size := hcx.lt
    have lz1 : w.heap.size + 1 < wc.heap.size := hzx.lt
    clear hnew hcx hzx hrd hbel hpl hso hO hP
    go_wp2_with fail
    go_cut [10] (fun p wx => AtNew L s O (l.length + 1) w p wx)
    case first => as_aux_lemma =>
      go_region_held3 (fun w' : World => w'.cell? ⟨w.heap.size, 0, none⟩ = some (.int .i64 L) ∧ w'.cell? ⟨w.heap.size, 1, none⟩ = some (.int .i64 s) ∧ w'.cell? ⟨w.heap.size, 2, none⟩ = some (.slice (some ⟨b, off, none⟩) l.length cap)) (first | (with_reducible exact ⟨x0, x1, x2⟩) | (with_reducible exact ⟨y0, y1, y2⟩) | (with_reducible exact ⟨v0, v1, v2⟩) | (with_reducible exact ⟨u0, u1, u2⟩) | (simp [go_sem, x0, x1, x2, lx1]; done) | (simp [go_sem, y0, y1, y2, ly1]; done) | (simp [go_sem, v0, v1, v2, lv1]; done) | (simp [go_sem, u0, u1, u2, lu1]; done)) (first
        | (go_at_call 36; refine (l1Own_r l b off cap _ (by omega) (HR.out.carry (by repeat (first | (with_reducible exact Below.refl _ _) | ((with_reducible refine alloc_ ?_ ?_); (focus (first | exact Nat.le_refl _ | (simp; done) | (simp; omega) | omega))) | ((with_reducible refine set_ ?_ ?_); (focus (first | exact Nat.le_refl _ | (simp; done) | (simp; omega) | omega))) | (with_reducible refine Below.drew ?_) | ((with_reducible refine after_ ?_ (by assumption) ?_); (rotate_left; (focus (first | exact Nat.le_refl _ | (simp; done) | (simp; omega) | omega)))))))).mono ?_; rintro e w2 ⟨g2, c2, rfl, ho, hc2, hb2⟩; have HO2 := Lib.hid ((own_flat ho rfl rfl int_one).rd int_one); have HC2 := Lib.hid hc2; have HB2 := Lib.hid (show Below wc.heap.size wc w2 from (by repeat (first | (with_reducible exact Below.refl _ _) | ((with_reducible refine alloc_ ?_ ?_); (focus (first | exact Nat.le_refl _ | (simp; done) | (simp; omega) | omega))) | ((with_reducible refine set_ ?_ ?_); (focus (first | exact Nat.le_refl _ | (simp; done) | (simp; omega) | omega))) | (with_reducible refine Below.drew ?_) | ((with_reducible refine after_ ?_ (by assumption) ?_); (rotate_left; (focus (first | exact Nat.le_refl _ | (simp; done) | (simp; omega) | omega))))))); have hx2 := HX.out.carry HB2.out; have y0 := hx2.cell (j := 0) rfl; have y1 := hx2.cell (j := 1) rfl; have y2 := hx2.cell (j := 2) rfl; have ly1 := hx2.lt; have s2 := HB2.out.size; (try (have HQ := Lib.hid (Box.carry (show Box ((wc.alloc (.cells #[.int .i64 0, .int .i64 0, .slice none 0 0] 26)).drew) wc.heap.size 26 3 zeroL from (Box.new wc zeroL 26).drew) hb2))); clear ho hb2 hc2 hx2)
        | (go_at_call 35; refine (put_of (l1Put_c l g2 0 c2 P k _ (by omega) HC2.out (HO2.out.carry (by repeat (first | (with_reducible exact Below.refl _ _) | ((with_reducible refine alloc_ ?_ ?_); (focus (first | exact Nat.le_refl _ | (simp; done) | (simp; omega) | omega))) | ((with_reducible refine set_ ?_ ?_); (focus (first | exact Nat.le_refl _ | (simp; done) | (simp; omega) | omega))) | (with_reducible refine Below.drew ?_) | ((with_reducible refine after_ ?_ (by assumption) ?_); (rotate_left; (focus (first | exact Nat.le_refl _ | (simp; done) | (simp; omega) | omega))))))) HPl.out) HSo.out HOl.out).mono ?_; rintro e w3 ⟨g3, c3, rfl, _, _, ha3, hb3⟩; have HO3 := Lib.hid ha3.rd; have HB3 := Lib.hid (show Below wc.heap.size wc w3 from HB2.out.trans ((Below.mono (B := w2.heap.size) (by repeat (first | (with_reducible exact Below.refl _ _) | ((with_reducible refine alloc_ ?_ ?_); (focus (first | exact Nat.le_refl _ | (simp; done) | (simp; omega) | omega))) | ((with_reducible refine set_ ?_ ?_); (focus (first | exact Nat.le_refl _ | (simp; done) | (simp; omega) | omega))) | (with_reducible refine Below.drew ?_) | ((with_reducible refine after_ ?_ (by assumption) ?_); (rotate_left; (focus (first | exact Nat.le_refl _ | (simp; done) | (simp; omega) | omega)))))) s2))); have hx3 := HX.out.carry HB3.out; have v0 := hx3.cell (j := 0) rfl; have v1 := hx3.cell (j := 1) rfl; have v2 := hx3.cell (j := 2) rfl; have lv1 := hx3.lt; have s3 := HB3.out.size; (first | (have HQ := Lib.hid (HQ.out.carry hb3)) | (have HQ := Lib.hid (Box.carry (show Box (w2.alloc (.cells #[.int .i64 0, .int .i64 0, .slice none 0 0] 26)) w2.heap.size 26 3 zeroL from Box.new w2 zeroL 26) hb3)) | skip); (try (have lq2 := HQ.out.lt)); clear ha3 hb3 hx3)
        | (go_at_call 34; refine (with_of (l8With_c L s _ _ _ O (some ⟨g3, 0, none⟩) c3 _ (by rw [HOl.out]; omega) (.inr ⟨g3, 0, rfl⟩) (HO3.out.carry (by repeat (first | (with_reducible exact Below.refl _ _) | ((with_reducible refine alloc_ ?_ ?_); (focus (first | exact Nat.le_refl _ | (simp; done) | (simp; omega) | omega))) | ((with_reducible refine set_ ?_ ?_); (focus (first | exact Nat.le_refl _ | (simp; done) | (simp; omega) | omega))) | (with_reducible refine Below.drew ?_) | ((with_reducible refine after_ ?_ (by assumption) ?_); (rotate_left; (focus (first | exact Nat.le_refl _ | (simp; done) | (simp; omega) | omega)))))))) HOl.out).mono ?_; rintro e w4 ⟨A4, c4, rfl, ho, hb4⟩; have HO4 := Lib.hid ho; have HB4 := Lib.hid (show Below wc.heap.size wc w4 from HB3.out.trans ((Below.mono (B := w3.heap.size) (by repeat (first | (with_reducible exact Below.refl _ _) | ((with_reducible refine alloc_ ?_ ?_); (focus (first | exact Nat.le_refl _ | (simp; done) | (simp; omega) | omega))) | ((with_reducible refine set_ ?_ ?_); (focus (first | exact Nat.le_refl _ | (simp; done) | (simp; omega) | omega))) | (with_reducible refine Below.drew ?_) | ((with_reducible refine after_ ?_ (by assumption) ?_); (rotate_left; (focus (first | exact Nat.le_refl _ | (simp; done) | (simp; omega) | omega)))))) s3))); have hx4 := HX.out.carry HB4.out; have u0 := hx4.cell (j := 0) rfl; have u1 := hx4.cell (j := 1) rfl; have u2 := hx4.cell (j := 2) rfl; have lu1 := hx4.lt; have s4 := HB4.out.size; (first | (have HQ := Lib.hid (HQ.out.carry hb4)) | (have HQ := Lib.hid (Box.carry (show Box (w3.alloc (.cells #[.int .i64 0, .int .i64 0, .slice none 0 0] 26)) w3.heap.size 26 3 zeroL from Box.new w3 zeroL 26) hb4)) | skip); (try (have q0 := HQ.out.cell (j := 0) rfl; have q1 := HQ.out.cell (j := 1) rfl; have q2 := HQ.out.cell (j := 2) rfl; have qz := HQ.out.frozen; have lq := HQ.out.lt)); clear ho hb4 hx4))
      · have HBa := Lib.hid (show Below w.heap.size w (w4.alloc (.cells #[.int .i64 L, .int .i64 s, .slice A4 (l.length + 1) c4] 26)) from (HB.out.trans (HB4.out.mono HB.out.size)).alloc (Nat.le_trans HB.out.size HB4.out.size) _)
        go_wp2_with fail
        go_meet
        exact ⟨w4.heap.size, A4, c4, rfl, Box.new w4 [.int .i64 L, .int .i64 s, .slice A4 (l.length + 1) c4] 26, (HO4.out.carry ((Below.refl _ _).alloc (Nat.le_refl _) _)).less (by omega), by omega, (HZ.out.carry HB4.out).alloc _, HBa.out⟩
      ·
        have HG3 := Lib.hid (set3c w4 w3.heap.size (.int .i64 L) (.int .i64 s) (.slice A4 (l.length + 1) c4))
        have HBa := Lib.hid (show Below w.heap.size w (((w4.setCell ⟨w3.heap.size, 0, none⟩ (.int .i64 L)).setCell ⟨w3.heap.size, 1, none⟩ (.int .i64 s)).setCell ⟨w3.heap.size, 2, none⟩ (.slice A4 (l.length + 1) c4)) from (((HB.out.trans (HB4.out.mono HB.out.size)).setCell (by first | omega | (simp; omega)) _).setCell (by first | omega | (simp; omega)) _).setCell (by first | omega | (simp; omega)) _)
        go_wp2_with fail
        go_meet
        exact ⟨w3.heap.size, A4, c4, rfl, HQ.out.puts (us := [.int .i64 L, .int .i64 s, .slice A4 (l.length + 1) c4]) rfl, (HO4.out.grown HG3.out (by first | omega | (simp; done) | (simp; omega))).less (by first | omega | (simp; done) | (simp; omega)), by omega, (HZ.out.carry HB4.out).grown HG3.out (by omega), HBa.out⟩
      ·
        have HG3 := Lib.hid (set3c w4 w2.heap.size (.int .i64 L) (.int .i64 s) (.slice A4 (l.length + 1) c4))
        have HBa := Lib.hid (show Below w.heap.size w (((w4.setCell ⟨w2.heap.size, 0, none⟩ (.int .i64 L)).setCell ⟨w2.heap.size, 1, none⟩ (.int .i64 s)).setCell ⟨w2.heap.size, 2, none⟩ (.slice A4 (l.length + 1) c4)) from (((HB.out.trans (HB4.out.mono HB.out.size)).setCell (by first | omega | (simp; omega)) _).setCell (by first | omega | (simp; omega)) _).setCell (by first | omega | (simp; omega)) _)
        go_wp2_with fail
        go_meet
        exact ⟨w2.heap.size, A4, c4, rfl, HQ.out.puts (us := [.int .i64 L, .int .i64 s, .slice A4 (l.length + 1) c4]) rfl, (HO4.out.grown HG3.out (by first | omega | (simp; done) | (simp; omega))).less (by first | omega | (simp; done) | (simp; omega)), by omega, (HZ.out.carry HB4.out).grown HG3.out (by omega), HBa.out⟩
      ·
        have HG3 := Lib.hid (set3c w4 wc.heap.size (.int .i64 L) (.int .i64 s) (.slice A4 (l.length + 1) c4))
        have HBa := Lib.hid (show Below w.heap.size w (((w4.setCell ⟨wc.heap.size, 0, none⟩ (.int .i64 L)).setCell ⟨wc.heap.size, 1, none⟩ (.int .i64 s)).setCell ⟨wc.heap.size, 2, none⟩ (.slice A4 (l.length + 1) c4)) from (((HB.out.trans (HB4.out.mono HB.out.size)).setCell (by first | omega | (simp; omega)) _).setCell (by first | omega | (simp; omega)) _).setCell (by first | omega | (simp; omega)) _)
        go_wp2_with fail
        go_meet
        exact ⟨wc.heap.size, A4, c4, rfl, HQ.out.puts (us := [.int .i64 L, .int .i64 s, .slice A4 (l.length + 1) c4]) rfl, (HO4.out.grown HG3.out (by first | omega | (simp; done) | (simp; omega))).less (by first | omega | (simp; done) | (simp; omega)), by omega, (HZ.out.carry HB4.out).grown HG3.out (by omega), HBa.out⟩
    case rest => as_aux_lemma =>
      obtain ⟨g, A, c, rfl, hbx, hown, hgl, hzx, hbel⟩ := hcut
      clear HX HZ HR HB x0 x1 x2 lx1 lz1
      have HX3 := Lib.hid hbx
      have HO3 := Lib.hid hown
      have HZ3 := Lib.hid hzx
      have HB3 := Lib.hid hbel
      have HRo := Lib.hid (hown.rd int_one')
      have x0 := hbx.cell (j := 0) rfl
      have x1 := hbx.cell (j := 1) rfl
      have x2 := hbx.cell (j := 2) rfl
      clear hbx hown hzx hbel
      go_wp2_with fail
      refine (good_of (l8Good_c L s O _ _ _ hN (by rw [HOl.out]; omega) HRo.out) HOl.out).mono ?_
      rintro e w5 ⟨rfl, hb5⟩
      have HX5 := Lib.hid (HX3.out.carry hb5)
      have HZ5 := Lib.hid (HZ3.out.carry hb5)
      have HO5 := Lib.hid (HO3.out.carry hb5)
      have HR5 := Lib.hid (HRo.out.carry hb5)
      have HB5 := Lib.hid (HB3.out.trans (hb5.mono HB3.out.size))
      clear hb5 x0 x1 x2 HX3 HZ3 HO3 HRo HB3
      have x0 := HX5.out.cell (j := 0) rfl
      have x1 := HX5.out.cell (j := 1) rfl
      have x2 := HX5.out.cell (j := 2) rfl
      rcases hg2 : goodC L s O with _ | _
      · have H := Lib.hid (show addP L s l gap = ([], false) by simp [addP, addC, HOe.out, hg2])
        have hz9 := HZ5.out
        have z0 := hz9.cell (j := 0) rfl
        have z1 := hz9.cell (j := 1) rfl
        have z2 := hz9.cell (j := 2) rfl
        have zz := hz9.frozen
        have lz := hz9.lt
        have zs := HB5.out.size
        clear hz9
        go_wp2_with fail
        exact bodyPost_ret (v := .tuple #[.agg #[.int .i64 0, .int .i64 0, .slice none 0 0], .bool false]) (by simp [results, Try.results7, go_sem, z0, z1, z2]) rfl ⟨none, 0, retz H.out, by rw [H.out]; exact Own.nil, by have h := HB5.out; exact (by repeat (first | (with_reducible exact Below.refl _ _) | ((with_reducible refine alloc_ ?_ ?_); (focus (first | exact Nat.le_refl _ | (simp; done) | (simp; omega) | omega))) | ((with_reducible refine set_ ?_ ?_); (focus (first | exact Nat.le_refl _ | (simp; done) | (simp; omega) | omega))) | (with_reducible refine Below.drew ?_) | ((with_reducible refine after_ ?_ (by assumption) ?_); (rotate_left; (focus (first | exact Nat.le_refl _ | (simp; done) | (simp; omega) | omega))))))⟩
      · have HW2 := Lib.hid (goodC_of hg2)
        obtain ⟨m, hm⟩ : ∃ m, Lib.minOf (gapsL L O) = m := ⟨_, rfl⟩
        have HM := Lib.hid hm
        clear hm
        go_wp2_with fail
        refine (small_of (l8Smallest_c L s O _ _ _ HW2.out (by rw [HOl.out]; omega) HR5.out) HOl.out HM.out).mono ?_
        rintro e w6 ⟨rfl, hb6⟩
        have HX6 := Lib.hid (HX5.out.carry hb6)
        have HZ6 := Lib.hid (HZ5.out.carry hb6)
        have HO6 := Lib.hid (HO5.out.carry hb6)
        have HB6 := Lib.hid (HB5.out.trans (hb6.mono HB5.out.size))
        clear hb6 x0 x1 x2 HX5 HZ5 HO5 HR5 HB5
        have x0 := HX6.out.cell (j := 0) rfl
        have x1 := HX6.out.cell (j := 1) rfl
        have x2 := HX6.out.cell (j := 2) rfl
        by_cases hmg : m < gap
        · have H := Lib.hid (show addP L s l gap = ([], false) by
            have hd : decide (gap ≤ m) = false := decide_eq_false (by omega)
            simp [addP, addC, HOe.out, HM.out, hd])
          have hz9 := HZ6.out
          have z0 := hz9.cell (j := 0) rfl
          have z1 := hz9.cell (j := 1) rfl
          have z2 := hz9.cell (j := 2) rfl
          have zz := hz9.frozen
          have lz := hz9.lt
          have zs := HB6.out.size
          clear hz9
          go_wp2_with fail
          exact bodyPost_ret (v := .tuple #[.agg #[.int .i64 0, .int .i64 0, .slice none 0 0], .bool false]) (by simp [results, Try.results7, go_sem, z0, z1, z2]) rfl ⟨none, 0, retz H.out, by rw [H.out]; exact Own.nil, by have h := HB6.out; exact (by repeat (first | (with_reducible exact Below.refl _ _) | ((with_reducible refine alloc_ ?_ ?_); (focus (first | exact Nat.le_refl _ | (simp; done) | (simp; omega) | omega))) | ((with_reducible refine set_ ?_ ?_); (focus (first | exact Nat.le_refl _ | (simp; done) | (simp; omega) | omega))) | (with_reducible refine Below.drew ?_) | ((with_reducible refine after_ ?_ (by assumption) ?_); (rotate_left; (focus (first | exact Nat.le_refl _ | (simp; done) | (simp; omega) | omega))))))⟩
        · have H := Lib.hid (show addP L s l gap = (O, true) by
            have hd : decide (gap ≤ m) = true := decide_eq_true (by omega)
            simp only [addP, addC, HOe.out, HM.out, hd, hg, hk, hg2, Bool.and_true, if_true])
          have q0 := HZ6.out.cell (j := 0) rfl
          have q1 := HZ6.out.cell (j := 1) rfl
          have q2 := HZ6.out.cell (j := 2) rfl
          have qz := HZ6.out.frozen
          have lq := HZ6.out.lt
          have zs := HB6.out.size
          have HS3 := Lib.hid (set3c w6 (w.heap.size + 1))
          go_wp2_with fail
          exact bodyPost_ret (v := .tuple #[.agg #[.int .i64 L, .int .i64 s, .slice A (l.length + 1) c], .bool true]) (by simp [results, Try.results7, go_sem, q0, q1, q2]) rfl
            ⟨_, c, retw (by rw [HOl.out]) H.out, by rw [H.out]; exact (HO6.out.grown (HS3.out _ _ _) (by omega)).less (by omega), by have h := HB6.out; exact (by repeat (first | (with_reducible exact Below.refl _ _) | ((with_reducible refine alloc_ ?_ ?_); (focus (first | exact Nat.le_refl _ | (simp; done) | (simp; omega) | omega))) | ((with_reducible refine set_ ?_ ?_); (focus (first | exact Nat.le_refl _ | (simp; done) | (simp; omega) | omega))) | (with_reducible refine Below.drew ?_) | ((with_reducible refine after_ ?_ (by assumption) ?_); (rotate_left; (focus (first | exact Nat.le_refl _ | (simp; done) | (simp; omega) | omega))))))⟩
end Go.Proofs.Ytifmeloljkgcjaa
