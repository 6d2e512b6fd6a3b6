/- AddCabin of the program returns one Lean function; no conditions but the length. -/
import Derived.Test.YtifmeloljkgcjaaWith
import Derived.Test.YtifmeloljkgcjaaEven
import Derived.Test.YtifmeloljkgcjaaSort
import Derived.Test.YtifmeloljkgcjaaVee
import Derived.Deep.DeepCutAuto
import Derived.Deep.RegionHeld3
namespace Go.Proofs.Ytifmeloljkgcjaa
open Go.RowKit


def addP (L s : Int) (l : List Int) (gap : Int) : List Int × Bool := if addC L s l gap then (addL L l, true) else ([], false)
/-- A ring that a call hands back with its room, or an empty one. -/
def CircRoom (L s : Int) (p : List Int × Bool) (w : World) (e : Ending) (w' : World) : Prop := ∃ A cap, e = .returned (.tuple #[.agg #[.int .i64 (if p.2 then L else 0), .int .i64 (if p.2 then s else 0), .slice A p.1.length cap], .bool p.2]) ∧ p.1.length ≤ cap ∧ Own w' w.heap.size 3 1 intCells A p.1 ∧ Below w.heap.size w w'
def AddAt (L s : Int) (l : List Int) (b off cap : Nat) (w : World) (p : Value) (wx : World) : Prop := ∃ (g : Nat) (A : Option Addr) (c : Nat), p = .pointer (some ⟨g, 0, none⟩) ∧ Box wx g 26 3 [.int .i64 L, .int .i64 s, .slice A l.length c] ∧ wx.ownsRow (w.heap.size + 2) 3 1 (.slice A l.length c) l.length (l.map (Value.int .i64)) ∧ (Value.slice A l.length c).ownBlock ≠ some g ∧ w.heap.size + 2 ≤ g ∧
  Box wx w.heap.size 26 3 [.int .i64 L, .int .i64 s, .slice (some ⟨b, off, none⟩) l.length cap] ∧ Box wx (w.heap.size + 1) 26 3 zeroL ∧ Rd wx w.heap.size 1 intCells (some ⟨b, off, none⟩) l ∧ Below w.heap.size w wx
theorem flat_intL (l : List Int) : flat intCells l = l.map (Value.int .i64) := flat_ints l
theorem own_ne {w : World} {base n k g : Nat} {T : TypeId} {v : Value} {xs : List Value} (h : w.ownsRow base T k v n xs) (hg : g < base ∨ w.heap.size ≤ g) : v.ownBlock ≠ some g := fun e => by
  rcases h.2 with ⟨h, _⟩ | ⟨g', cap, cur, h, hg', hh, _⟩
  · rw [h] at e; simp [Value.ownBlock] at e
  · rw [h] at e
    simp only [Value.ownBlock, Option.some.injEq] at e
    have := lt_of_block hh
    omega
theorem own_shape_cap {w : World} {base n k : Nat} {T : TypeId} {v : Value} {xs : List Value} (h : w.ownsRow base T k v n xs) : ∀ g cap, v = .slice (some ⟨g, 0, none⟩) n cap → n ≤ cap := fun g cap e => by
  subst e; exact own_cap h
theorem sort_of {f : FuncId} {o : List Int} {n g cap : Nat} {W : World} (h : Calls Try.prog f #[.slice (some ⟨g, 0, none⟩) o.length cap] W (SortPost o g W)) (hn : o.length = n) : Calls Try.prog f #[.slice (some ⟨g, 0, none⟩) n cap] W (SortPost o g W) := by subst hn; exact h
theorem gaps_of {f : FuncId} {L s : Int} {l G : List Int} {n : Nat} {W : World} {A : Option Addr} {cap : Nat} (h : Calls Try.prog f #[.agg #[.int .i64 L, .int .i64 s, .slice A l.length cap]] W (GivesI (gapsL L l) W)) (hn : l.length = n) (hG : gapsL L l = G) :
    Calls Try.prog f #[.agg #[.int .i64 L, .int .i64 s, .slice A n cap]] W (GivesI G W) := by subst hn hG; exact h
set_option maxRecDepth 100000 in
set_option maxHeartbeats 4000000 in
theorem implAddCabin_c (L s : Int) (l : List Int) (gap : Int) (b off cap : Nat) (w : World) (hl : l.length ≤ 11) (hr : Rd w w.heap.size 1 intCells (some ⟨b, off, none⟩) l) :
    Calls Try.prog 6 #[.agg #[.int .i64 L, .int .i64 s, .slice (some ⟨b, off, none⟩) l.length cap], .int .i64 gap] w (CircRoom L s (addP L s l gap) w) := by
  have HR0 := Lib.hid hr
  have HX := Lib.hid ((Box.new w [.int .i64 L, .int .i64 s, .slice (some ⟨b, off, none⟩) l.length cap] 26).alloc (.cells #[.int .i64 0, .int .i64 0, .slice none 0 0] 26))
  have hz := Box.new (w.alloc (.cells #[.int .i64 L, .int .i64 s, .slice (some ⟨b, off, none⟩) l.length cap] 26)) zeroL 26
  rw [World.size_alloc] at hz
  have HZ := Lib.hid hz
  have HR := Lib.hid ((hr.alloc (.cells #[.int .i64 L, .int .i64 s, .slice (some ⟨b, off, none⟩) l.length cap] 26)).alloc (.cells #[.int .i64 0, .int .i64 0, .slice none 0 0] 26))
  clear hr hz
  rcases hg : goodC L s l with _ | _
  · have H := Lib.hid (show addP L s l gap = ([], false) by simp [addP, addC, hg])
    go_enter Try.func6, Try.ntmps6
    go_wp2_with fail
    refine (isCircle_c L s l _ _ _ (by omega) HR.out).mono ?_
    rintro e w1 ⟨rfl, hb1⟩
    have HB := Lib.hid (show Below w.heap.size w w1 from (by repeat (first | (with_reducible exact Below.refl _ _) | ((with_reducible refine alloc_ ?_ ?_); (focus (first | exact Nat.le_refl _ | (simp; done) | (simp; omega) | omega))) | ((with_reducible refine set_ ?_ ?_); (focus (first | exact Nat.le_refl _ | (simp; done) | (simp; omega) | omega))) | (with_reducible refine Below.drew ?_) | ((with_reducible refine after_ ?_ (by assumption) ?_); (rotate_left; (focus (first | exact Nat.le_refl _ | (simp; done) | (simp; omega) | omega)))))))
    have hz9 := HZ.out.carry hb1
    have z0 := hz9.cell (j := 0) rfl
    have z1 := hz9.cell (j := 1) rfl
    have z2 := hz9.cell (j := 2) rfl
    have zz := hz9.frozen
    have lz := hz9.lt
    have zs := HB.out.size
    clear hz9
    go_wp2_with fail
    exact bodyPost_ret (v := .tuple #[.agg #[.int .i64 0, .int .i64 0, .slice none 0 0], .bool false]) (by simp [results, Try.results6, go_sem, z0, z1, z2]) rfl ⟨none, 0, retz H.out, by rw [H.out]; exact Nat.le_refl _, by rw [H.out]; exact Own.nil, by have h := HB.out; exact (by repeat (first | (with_reducible exact Below.refl _ _) | ((with_reducible refine alloc_ ?_ ?_); (focus (first | exact Nat.le_refl _ | (simp; done) | (simp; omega) | omega))) | ((with_reducible refine set_ ?_ ?_); (focus (first | exact Nat.le_refl _ | (simp; done) | (simp; omega) | omega))) | (with_reducible refine Below.drew ?_) | ((with_reducible refine after_ ?_ (by assumption) ?_); (rotate_left; (focus (first | exact Nat.le_refl _ | (simp; done) | (simp; omega) | omega))))))⟩
  rcases hk : inR gap 1 4000 with _ | _
  · have H := Lib.hid (show addP L s l gap = ([], false) by simp [addP, addC, hk])
    go_enter Try.func6, Try.ntmps6
    go_wp2_with fail
    refine (isCircle_c L s l _ _ _ (by omega) HR.out).mono ?_
    rintro e w1 ⟨rfl, hb1⟩
    have HB := Lib.hid (show Below w.heap.size w w1 from (by repeat (first | (with_reducible exact Below.refl _ _) | ((with_reducible refine alloc_ ?_ ?_); (focus (first | exact Nat.le_refl _ | (simp; done) | (simp; omega) | omega))) | ((with_reducible refine set_ ?_ ?_); (focus (first | exact Nat.le_refl _ | (simp; done) | (simp; omega) | omega))) | (with_reducible refine Below.drew ?_) | ((with_reducible refine after_ ?_ (by assumption) ?_); (rotate_left; (focus (first | exact Nat.le_refl _ | (simp; done) | (simp; omega) | omega)))))))
    have hx := HX.out.carry hb1
    have x0 := hx.cell (j := 0) rfl
    have x1 := hx.cell (j := 1) rfl
    have x2 := hx.cell (j := 2) rfl
    have hz9 := HZ.out.carry hb1
    have z0 := hz9.cell (j := 0) rfl
    have z1 := hz9.cell (j := 1) rfl
    have z2 := hz9.cell (j := 2) rfl
    have zz := hz9.frozen
    have lz := hz9.lt
    have zs := HB.out.size
    clear hz9
    go_wp2_with (go_at_call 26; refine (within_c _ _ _ _).mono ?_; rintro e w' ⟨rfl, rfl⟩)
    exact bodyPost_ret (v := .tuple #[.agg #[.int .i64 0, .int .i64 0, .slice none 0 0], .bool false]) (by simp [results, Try.results6, go_sem, z0, z1, z2]) rfl ⟨none, 0, retz H.out, by rw [H.out]; exact Nat.le_refl _, by rw [H.out]; exact Own.nil, by have h := HB.out; exact (by repeat (first | (with_reducible exact Below.refl _ _) | ((with_reducible refine alloc_ ?_ ?_); (focus (first | exact Nat.le_refl _ | (simp; done) | (simp; omega) | omega))) | ((with_reducible refine set_ ?_ ?_); (focus (first | exact Nat.le_refl _ | (simp; done) | (simp; omega) | omega))) | (with_reducible refine Below.drew ?_) | ((with_reducible refine after_ ?_ (by assumption) ?_); (rotate_left; (focus (first | exact Nat.le_refl _ | (simp; done) | (simp; omega) | omega))))))⟩
  go_enter Try.func6, Try.ntmps6
  go_wp2_with fail
  refine (isCircle_c L s l _ _ _ (by omega) HR.out).mono ?_
  rintro e w1 ⟨rfl, hb1⟩
  have HB := Lib.hid (show Below w.heap.size w w1 from (by repeat (first | (with_reducible exact Below.refl _ _) | ((with_reducible refine alloc_ ?_ ?_); (focus (first | exact Nat.le_refl _ | (simp; done) | (simp; omega) | omega))) | ((with_reducible refine set_ ?_ ?_); (focus (first | exact Nat.le_refl _ | (simp; done) | (simp; omega) | omega))) | (with_reducible refine Below.drew ?_) | ((with_reducible refine after_ ?_ (by assumption) ?_); (rotate_left; (focus (first | exact Nat.le_refl _ | (simp; done) | (simp; omega) | omega)))))))
  have HX1 := Lib.hid (HX.out.carry hb1)
  have HZ1 := Lib.hid (HZ.out.carry hb1)
  have HR1 := Lib.hid (HR.out.carry hb1)
  have hx := HX.out.carry hb1
  have x0 := hx.cell (j := 0) rfl
  have x1 := hx.cell (j := 1) rfl
  have x2 := hx.cell (j := 2) rfl
  have HR0' := Lib.hid (HR0.out.below HB.out (Nat.le_refl _))
  clear hb1 hx HX HZ HR HR0'
  go_wp2_with (go_at_call 26; refine (within_c _ _ _ _).mono ?_; rintro e w' ⟨rfl, rfl⟩)
  have lx1 : w.heap.size < w1.heap.size := HX1.out.lt
  have lz1 : w.heap.size + 1 < w1.heap.size := HZ1.out.lt
  go_cut [6, 7] (fun p q wx => q = .int .i64 0 ∧ AddAt L s l b off cap w p wx)
  case first => as_aux_lemma =>
    go_region_held3 (fun w' : World => w'.cell? ⟨w.heap.size, 0, none⟩ = some (.int .i64 L) ∧ w'.cell? ⟨w.heap.size, 1, none⟩ = some (.int .i64 s) ∧ w'.cell? ⟨w.heap.size, 2, none⟩ = some (.slice (some ⟨b, off, none⟩) l.length cap)) (first | (with_reducible exact ⟨x0, x1, x2⟩) | (with_reducible exact ⟨y0, y1, y2⟩) | (simp [go_sem, x0, x1, x2, lx1]; done) | (simp [go_sem, y0, y1, y2, ly1]; done)) (first
      | (go_at_call 27; refine (clone_c l b off cap _ (by omega) (HR1.out.carry (by repeat (first | (with_reducible exact Below.refl _ _) | ((with_reducible refine alloc_ ?_ ?_); (focus (first | exact Nat.le_refl _ | (simp; done) | (simp; omega) | omega))) | ((with_reducible refine set_ ?_ ?_); (focus (first | exact Nat.le_refl _ | (simp; done) | (simp; omega) | omega))) | (with_reducible refine Below.drew ?_) | ((with_reducible refine after_ ?_ (by assumption) ?_); (rotate_left; (focus (first | exact Nat.le_refl _ | (simp; done) | (simp; omega) | omega)))))))).mono ?_; rintro e w2 ⟨A2, c2, rfl, ho, hb2⟩; have HO := Lib.hid ho; have HB2 := Lib.hid (show Below w1.heap.size w1 w2 from (by repeat (first | (with_reducible exact Below.refl _ _) | ((with_reducible refine alloc_ ?_ ?_); (focus (first | exact Nat.le_refl _ | (simp; done) | (simp; omega) | omega))) | ((with_reducible refine set_ ?_ ?_); (focus (first | exact Nat.le_refl _ | (simp; done) | (simp; omega) | omega))) | (with_reducible refine Below.drew ?_) | ((with_reducible refine after_ ?_ (by assumption) ?_); (rotate_left; (focus (first | exact Nat.le_refl _ | (simp; done) | (simp; omega) | omega))))))); have hx2 := HX1.out.carry HB2.out; have y0 := hx2.cell (j := 0) rfl; have y1 := hx2.cell (j := 1) rfl; have y2 := hx2.cell (j := 2) rfl; have ly1 := hx2.lt; (try (have HQ := Lib.hid (Box.carry (show Box ((w1.alloc (.cells #[.int .i64 0, .int .i64 0, .slice none 0 0] 26)).drew) w1.heap.size 26 3 zeroL from (Box.new w1 zeroL 26).drew) hb2); have q0 := HQ.out.cell (j := 0) rfl; have q1 := HQ.out.cell (j := 1) rfl; have q2 := HQ.out.cell (j := 2) rfl; have qz := HQ.out.frozen; have lq := HQ.out.lt)); clear ho hx2))
    all_goals first
      | (have HBa := Lib.hid (show Below w.heap.size w (w2.alloc (.cells #[.int .i64 L, .int .i64 s, .slice A2 l.length c2] 26)) from (HB.out.trans (HB2.out.mono HB.out.size)).alloc (Nat.le_trans HB.out.size HB2.out.size) _)
         have hs2 := HB2.out.size
         go_wp2_with fail
         go_meet
         exact ⟨rfl, w2.heap.size, A2, c2, rfl, Box.new w2 [.int .i64 L, .int .i64 s, .slice A2 l.length c2] 26, by rw [← flat_intL]; exact (Joins.ownsRow_le HO.out (by simp; omega)).alloc _, own_ne HO.out (.inr (Nat.le_refl _)), by omega, (HX1.out.carry HB2.out).alloc _, (HZ1.out.carry HB2.out).alloc _, HR0.out.below HBa.out (Nat.le_refl _), HBa.out⟩)
      | (have HBa := Lib.hid (show Below w.heap.size w (((w2.setCell ⟨w1.heap.size, 0, none⟩ (.int .i64 L)).setCell ⟨w1.heap.size, 1, none⟩ (.int .i64 s)).setCell ⟨w1.heap.size, 2, none⟩ (.slice A2 l.length c2)) from (((HB.out.trans (HB2.out.mono HB.out.size)).setCell HB.out.size _).setCell HB.out.size _).setCell HB.out.size _)
         have HG3 := Lib.hid (set3c w2 w1.heap.size (.int .i64 L) (.int .i64 s) (.slice A2 l.length c2))
         go_wp2_with fail
         go_meet
         exact ⟨rfl, w1.heap.size, A2, c2, rfl, HQ.out.puts (us := [.int .i64 L, .int .i64 s, .slice A2 l.length c2]) rfl, by rw [← flat_intL]; exact owns_grown (Joins.ownsRow_le HO.out (show w1.heap.size + 1 ≤ _ by simp)) HG3.out (by omega) |> fun h => Joins.ownsRow_le h (by omega), own_ne HO.out (.inl (by simp)), by omega, (HX1.out.carry HB2.out).grown HG3.out (by omega), (HZ1.out.carry HB2.out).grown HG3.out (by omega), HR0.out.below HBa.out (Nat.le_refl _), HBa.out⟩)
  case rest => as_aux_lemma =>
    obtain ⟨rfl, g, A, c, rfl, hbx, hown, hne, hgl, hcx, hzx, hrd, hbel⟩ := hcut
    have HW := Lib.hid (goodC_of hg)
    have HXo := Lib.hid hbx
    have HO := Lib.hid hown
    have HNE := Lib.hid hne
    have HC := Lib.hid hcx
    have HZ := Lib.hid hzx
    have HR := Lib.hid (hrd.mono hbel.size)
    have HBc := Lib.hid hbel
    have c0 := hcx.cell (j := 0) rfl
    have c1 := hcx.cell (j := 1) rfl
    have c2 := hcx.cell (j := 2) rfl
    have hL := (goodC_of hg).len
    clear hbx hown hne hcx hzx hrd hbel HB HX1 HZ1 HR1 x0 x1 x2 lx1 lz1
    obtain ⟨G, hG⟩ : ∃ G, gapsL L l = G := ⟨_, rfl⟩
    have HG := Lib.hid hG
    have HGl := Lib.hid (show G.length = l.length by rw [← hG, gapsL_len])
    have HGn := Lib.hid (show ∀ i, i < l.length → nth G i = gapAt L l i from fun i hi => by rw [← hG, gapsL_nth hi])
    clear hG
    go_wp2_with fail
    refine (gapsOf_c L s l _ _ _ HW.out HR.out).mono ?_
    rw [HG.out]
    rintro e w2 ⟨A3, c3, rfl, ho, hb2⟩
    have HO3 := Lib.hid ho
    have HXo2 := Lib.hid (HXo.out.carry hb2)
    have HO2 := Lib.hid (ownsRow_below HO.out hb2)
    have HC2 := Lib.hid (HC.out.carry hb2)
    have HZ2 := Lib.hid (HZ.out.carry hb2)
    have HR2 := Lib.hid (HR.out.carry hb2)
    have HB2 := Lib.hid (HBc.out.trans (hb2.mono HBc.out.size))
    have HRg := Lib.hid (ho.rd int_one')
    clear ho hb2 HXo HO HC HZ HR c0 c1 c2 HO3
    go_wp2_with fail
    go_loopw [7, 8, 9, 10, 31] (fun p m _ _ i wr => ∃ k : Nat, k ≤ G.length ∧ i = .int .i64 k ∧ p = .int .i64 (placeTo L l k) ∧ m = .int .i64 (mostTo L l k) ∧ Below w2.heap.size w2 wr) (fun _ _ _ _ i _ => G.length - (intOf i).toNat)
    case atStart => exact ⟨0, Nat.zero_le _, rfl, rfl, rfl, Below.refl _ _⟩
    case round =>
      obtain ⟨k, hk2, rfl, rfl, rfl, hbel⟩ := hrel
      have HB := Lib.hid hbel
      by_cases hlt : k < G.length
      · obtain ⟨b2, off2, rfl, hb2, hd⟩ := (HRg.out.below hbel (Nat.le_refl _)).int hlt
        have hlt2 : k < l.length := by have := HGl.out; omega
        obtain ⟨b1, off1, he, hb1, hc⟩ := (HR2.out.below hbel (Nat.le_refl _)).int hlt2
        simp only [Option.some.injEq, Addr.mk.injEq, and_true] at he
        obtain ⟨rfl, rfl⟩ := he
        have hcb := HC2.out.below hbel HC2.out.lt
        have c0 := hcb.cell (j := 0) rfl
        have c2 := hcb.cell (j := 2) rfl
        have z2 := hbel.size
        have lc := hcb.lt
        have l1 : b < wr.heap.size := by omega
        have hp := gap_pos HW.out hlt2
        have hin := HW.out.inside k hlt2
        obtain ⟨s1, s2⟩ := place_step HW.out hlt2
        rw [HGn.out k hlt2] at hd
        obtain ⟨x, hx⟩ : ∃ x, gapAt L l k = x := ⟨_, rfl⟩
        rw [hx] at hd hp s1 s2
        have S1 := Lib.hid s1
        have S2 := Lib.hid s2
        have i1 : (0 : Int) ≤ (k : Int) := by omega
        have i2 : (k : Int) < G.length := by omega
        have i3 : (k : Int) < l.length := by omega
        clear hbel hcb s1 s2 hx
        by_cases hm : mostTo L l k < x
        · obtain ⟨t1, t2⟩ := S1.out hm
          have T1 := Lib.hid t1
          have T2 := Lib.hid t2
          have a1 : x.tdiv 2 = x / 2 := Int.tdiv_eq_ediv_of_nonneg (by omega)
          have a2 : IntKind.i64.wrap (nth l k + x / 2) = nth l k + x / 2 := IntWalk.i64_in _ (by omega)
          have a3 : (nth l k + x / 2).tmod L = (nth l k + x / 2) % L := Int.tmod_eq_emod_of_nonneg (by omega)
          have a4 : ¬ L = 0 := by omega
          clear t1 t2
          go_wp2_with fail
          refine wp_region_mem (by kernel_rfl) (by kernel_rfl) ?_
          repeat (go_big_quiet_step (fail))
          refine wpQuiet_nil ?_
          intro _ hw'
          obtain ⟨⟨wq, hbq⟩, hw''⟩ := hw'
          obtain rfl := hw''.symm
          obtain ⟨hcq, hfq, hzq⟩ := bcell hbq
          try simp [Nat.add_one_le_iff] at hzq
          have HQ := Lib.hid hbq
          clear hcq hfq a1 a2 a3
          go_wp2_with fail
          go_roundw
          case rel => exact ⟨k + 1, by omega, by go_num, by rw [T1.out], by rw [T2.out], HB.out.trans (HQ.out.mono z2)⟩
          case measure => simp [intOf]; omega
        · obtain ⟨t1, t2⟩ := S2.out hm
          have T1 := Lib.hid t1
          have T2 := Lib.hid t2
          clear t1 t2
          go_wp2_with fail
          go_roundw
          case rel => exact ⟨k + 1, by omega, by go_num, by rw [T1.out], by rw [T2.out], HB.out⟩
          case measure => simp [intOf]; omega
      · obtain rfl : k = G.length := by omega
        have hpl : placeTo L l G.length = placeC L l := by rw [HGl.out]; rfl
        have hml := HGl.out
        obtain ⟨p, hp⟩ : ∃ p, placeTo L l G.length = p := ⟨_, rfl⟩
        rw [hp] at hpl ⊢
        have HP := Lib.hid hpl
        have HXr := Lib.hid (HXo2.out.below hbel HXo2.out.lt)
        have HOr := Lib.hid (ownsRow_below HO2.out hbel)
        have HCr := Lib.hid (HC2.out.below hbel HC2.out.lt)
        have HZr := Lib.hid (HZ2.out.below hbel HZ2.out.lt)
        have HBr := Lib.hid (HB2.out.trans (hbel.mono HB2.out.size))
        have x2 := HXr.out.cell (j := 2) rfl
        have xz := HXr.out.frozen
        have lx := HXr.out.lt
        clear hbel hp hpl hml HB HXo2 HO2 HC2 HZ2 HB2 HRg HR2
        go_wp2_with (at_builtin; refine wpList_push2 _ rfl _ _ 24 rfl (w.heap.size + 2) 3 (.int .i64 0) 1 8 Try.underlying24 info_int rfl (by decide) (by decide) _ _ _ rfl (HOr.out.alloc _) (wr.heap.size) [.int .i64 p] rfl rfl ?d1 ?d2 ?d3 ?d4 ?_)
        try case d1 =>
          intro j u hj
          match j, hj with
          | 0, hj => simp at hj; subst hj; simp [go_sem]
        case d2 => first | rfl | (intro u hu; simp at hu; subst hu; rfl)
        case d3 => omega
        case d4 => first | omega | (simp; omega)
        intro v' w3 hown' hb' hk'
        have hcap := own_shape_cap hown'
        obtain ⟨g', cap', rfl, hgb, harr⟩ := Arr.of_owns (o := l ++ [p]) (by rw [List.map_append]; exact hown') (by simp) (by omega)
        have hcap' : l.length + 1 ≤ cap' := hcap _ _ rfl
        obtain ⟨hk1, hk2⟩ := hk' g (by first | omega | (simp; omega)) HNE.out
        have hgg : g' ≠ g := fun e => hk2 (by rw [e]; rfl)
        have hx3 : Box w3 g 26 3 [.int .i64 L, .int .i64 s, .slice A l.length c] := (HXr.out.alloc _).keep hk1
        have HX3 := Lib.hid (hx3.set 2 (.slice (some ⟨g', 0, none⟩) (l.length + 1) cap'))
        have e2 := hx3.cell (j := 2) rfl
        have ez := hx3.frozen
        have lx3 := hx3.lt
        have HB3 := Lib.hid (show Below (w.heap.size + 2) wr w3 from (Below.mono (B := wr.heap.size) ((Below.refl _ _).alloc (Nat.le_refl _) (.cells #[.int .i64 p] 3)) (by omega)).trans hb')
        have HZ3 := Lib.hid ((HZr.out.below HB3.out (by omega)).far (p := ⟨g, 2, none⟩) (by simp; omega) (.slice (some ⟨g', 0, none⟩) (l.length + 1) cap'))
        have HA3 := Lib.hid (harr.far (p := ⟨g, 2, none⟩) hgg (.slice (some ⟨g', 0, none⟩) (l.length + 1) cap'))
        have HBe := Lib.hid ((HBr.out.trans (HB3.out.mono (by omega))).setCell (p := ⟨g, 2, none⟩) (show w.heap.size ≤ g by omega) (.slice (some ⟨g', 0, none⟩) (l.length + 1) cap'))
        clear hown' hb' hk' hk1 hk2 harr hx3 x2 xz hcap HXr HOr HCr HZr HBr
        have HLe := Lib.hid (show (l ++ [p]).length = l.length + 1 by simp)
        go_wp2_with fail
        refine (sort_of (sort_c (l ++ [p]) g' cap' _ (by rw [HLe.out]; omega) HA3.out) HLe.out).mono ?_
        rintro e w4 ⟨rfl, ha4, hg4⟩
        obtain ⟨O, hO⟩ : ∃ O, addL L l = O := ⟨_, rfl⟩
        rw [show isort (l ++ [p]) = O by rw [← hO, HP.out]; rfl] at ha4
        have HOe := Lib.hid hO
        have HOl := Lib.hid (show O.length = l.length + 1 by rw [← hO]; exact addL_len)
        have HA4 := Lib.hid ha4
        have HX4 := Lib.hid (HX3.out.grown hg4 (fun e => hgg e.symm))
        have HZ4 := Lib.hid (HZ3.out.grown hg4 (by omega))
        have HB4 := Lib.hid (HBe.out.trans (grown_below hg4 (by omega) HBe.out.size))
        have x0 := HX4.out.cell (j := 0) rfl
        have x1 := HX4.out.cell (j := 1) rfl
        have x2 := HX4.out.cell (j := 2) rfl
        clear ha4 hg4 HX3 HZ3 HA3 HBe e2 ez lx3 hO
        have HRo := Lib.hid HA4.out.rd
        go_wp2_with fail
        refine (good_of (isCircle_c L s O _ _ _ (by rw [HOl.out]; omega) HRo.out) HOl.out).mono ?_
        rintro e w5 ⟨rfl, hb5⟩
        have HX5 := Lib.hid (HX4.out.carry hb5)
        have HZ5 := Lib.hid (HZ4.out.carry hb5)
        have HR5 := Lib.hid (HRo.out.carry hb5)
        have HA5 := Lib.hid (HA4.out.carry hb5)
        have HB5 := Lib.hid (HB4.out.trans (hb5.mono HB4.out.size))
        clear hb5 x0 x1 x2
        rcases hg2 : goodC L s O with _ | _
        · have H := Lib.hid (show addP L s l gap = ([], false) by simp [addP, addC, HOe.out, hg2])
          have x0 := HX5.out.cell (j := 0) rfl
          have x1 := HX5.out.cell (j := 1) rfl
          have x2 := HX5.out.cell (j := 2) rfl
          have hz9 := HZ5.out
          have z0 := hz9.cell (j := 0) rfl
          have z1 := hz9.cell (j := 1) rfl
          have z2 := hz9.cell (j := 2) rfl
          have zz := hz9.frozen
          have lz := hz9.lt
          have zs := HB5.out.size
          clear hz9
          go_wp2_with fail
          exact bodyPost_ret (v := .tuple #[.agg #[.int .i64 0, .int .i64 0, .slice none 0 0], .bool false]) (by simp [results, Try.results6, go_sem, z0, z1, z2]) rfl ⟨none, 0, retz H.out, by rw [H.out]; exact Nat.le_refl _, by rw [H.out]; exact Own.nil, by have h := HB5.out; exact (by repeat (first | (with_reducible exact Below.refl _ _) | ((with_reducible refine alloc_ ?_ ?_); (focus (first | exact Nat.le_refl _ | (simp; done) | (simp; omega) | omega))) | ((with_reducible refine set_ ?_ ?_); (focus (first | exact Nat.le_refl _ | (simp; done) | (simp; omega) | omega))) | (with_reducible refine Below.drew ?_) | ((with_reducible refine after_ ?_ (by assumption) ?_); (rotate_left; (focus (first | exact Nat.le_refl _ | (simp; done) | (simp; omega) | omega))))))⟩
        · have HW2 := Lib.hid (goodC_of hg2)
          obtain ⟨GO, hGO⟩ : ∃ GO, gapsL L O = GO := ⟨_, rfl⟩
          have HGO := Lib.hid hGO
          have HGl2 := Lib.hid (show 0 < GO.length ∧ GO.length ≤ 1048576 by rw [← hGO, gapsL_len, HOl.out]; omega)
          have x0 := HX5.out.cell (j := 0) rfl
          have x1 := HX5.out.cell (j := 1) rfl
          have x2 := HX5.out.cell (j := 2) rfl
          clear hGO
          go_wp2_with fail
          refine (gaps_of (gapsOf_c L s O _ _ _ HW2.out HR5.out) HOl.out HGO.out).mono ?_
          rintro e w6 ⟨A6, c6, rfl, ho6, hb6⟩
          have HX6 := Lib.hid (HX5.out.carry hb6)
          have HZ6 := Lib.hid (HZ5.out.carry hb6)
          have HA6 := Lib.hid (HA5.out.carry hb6)
          have HB6 := Lib.hid (HB5.out.trans (hb6.mono HB5.out.size))
          have HR6 := Lib.hid (ho6.rd int_one')
          obtain ⟨m, hm⟩ : ∃ m, Lib.minOf GO = m := ⟨_, rfl⟩
          have HM := Lib.hid hm
          clear hb6 ho6 hm x0 x1 x2
          go_wp2_with fail
          refine (min_c GO _ _ _ HGl2.out.2 HGl2.out.1 HR6.out).mono ?_
          rw [HM.out]
          rintro e w' ⟨rfl, rfl⟩
          have x0 := HX6.out.cell (j := 0) rfl
          have x1 := HX6.out.cell (j := 1) rfl
          have x2 := HX6.out.cell (j := 2) rfl
          by_cases hmg : m < gap
          · have H := Lib.hid (show addP L s l gap = ([], false) by
              have hd : decide (gap ≤ m) = false := decide_eq_false (by omega)
              simp [addP, addC, HOe.out, HGO.out, HM.out, hd])
            have hz9 := HZ6.out
            have z0 := hz9.cell (j := 0) rfl
            have z1 := hz9.cell (j := 1) rfl
            have z2 := hz9.cell (j := 2) rfl
            have zz := hz9.frozen
            have lz := hz9.lt
            have zs := HB6.out.size
            clear hz9
            go_wp2_with fail
            exact bodyPost_ret (v := .tuple #[.agg #[.int .i64 0, .int .i64 0, .slice none 0 0], .bool false]) (by simp [results, Try.results6, go_sem, z0, z1, z2]) rfl ⟨none, 0, retz H.out, by rw [H.out]; exact Nat.le_refl _, by rw [H.out]; exact Own.nil, by have h := HB6.out; exact (by repeat (first | (with_reducible exact Below.refl _ _) | ((with_reducible refine alloc_ ?_ ?_); (focus (first | exact Nat.le_refl _ | (simp; done) | (simp; omega) | omega))) | ((with_reducible refine set_ ?_ ?_); (focus (first | exact Nat.le_refl _ | (simp; done) | (simp; omega) | omega))) | (with_reducible refine Below.drew ?_) | ((with_reducible refine after_ ?_ (by assumption) ?_); (rotate_left; (focus (first | exact Nat.le_refl _ | (simp; done) | (simp; omega) | omega))))))⟩
          · have H := Lib.hid (show addP L s l gap = (O, true) by
              have hd : decide (gap ≤ m) = true := decide_eq_true (by omega)
              simp only [addP, addC, HOe.out, HGO.out, HM.out, hd, hg, hk, hg2, Bool.and_true, if_true])
            have q0 := HZ6.out.cell (j := 0) rfl
            have q1 := HZ6.out.cell (j := 1) rfl
            have q2 := HZ6.out.cell (j := 2) rfl
            have qz := HZ6.out.frozen
            have lq := HZ6.out.lt
            have zs := HB6.out.size
            have HS3 := Lib.hid (set3c w6 (w.heap.size + 1))
            have HOw := Lib.hid (HA6.out.own (show w.heap.size + 2 ≤ g' from hgb))
            have HOl' := Lib.hid HOl.out
            go_wp2_with fail
            exact bodyPost_ret (v := .tuple #[.agg #[.int .i64 L, .int .i64 s, .slice (some ⟨g', 0, none⟩) (l.length + 1) cap'], .bool true]) (by simp [results, Try.results6, go_sem, q0, q1, q2]) rfl
              ⟨_, cap', retw (by rw [HOl.out]) H.out, by rw [H.out]; simp only; rw [HOl.out]; exact hcap', by rw [H.out]; exact (HOw.out.grown (HS3.out _ _ _) (by omega)).less (by omega), by have h := HB6.out; exact (by repeat (first | (with_reducible exact Below.refl _ _) | ((with_reducible refine alloc_ ?_ ?_); (focus (first | exact Nat.le_refl _ | (simp; done) | (simp; omega) | omega))) | ((with_reducible refine set_ ?_ ?_); (focus (first | exact Nat.le_refl _ | (simp; done) | (simp; omega) | omega))) | (with_reducible refine Below.drew ?_) | ((with_reducible refine after_ ?_ (by assumption) ?_); (rotate_left; (focus (first | exact Nat.le_refl _ | (simp; done) | (simp; omega) | omega))))))⟩
end Go.Proofs.Ytifmeloljkgcjaa
