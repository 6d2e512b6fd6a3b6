/- The list of damages that the reference draws; no conditions but that the cursor has not gone very far. -/
import Derived.Test.YtlgpgcfncmomiaaDamE
import Derived.Test.YtlgpgcfncmomiaaDamAddS
namespace Go.Proofs.Ytlgpgcfncmomiaa
open Go.RowKit

theorem flat_dam (l : List Dam) (x : Dam) : (l.map Dam.cells).flatten ++ Dam.cells x = ((l ++ [x]).map Dam.cells).flatten := by simp
theorem owns_at {w : World} {base k n : Nat} {T : TypeId} {v : Value} {xs : List Value} (h : w.ownsRow base T k v n xs) (hn : 0 < n) : ∃ g c, v = .slice (some ⟨g, 0, none⟩) n c ∧ n ≤ c := by
  rcases h.2 with ⟨_, h0⟩ | ⟨g, cap, cur, rfl, _, _, hnc, _⟩
  · omega
  · exact ⟨g, cap, rfl, hnc⟩
theorem owns_cap {w : World} {base k n cap : Nat} {T : TypeId} {A : Option Addr} {xs : List Value} (h : w.ownsRow base T k (.slice A n cap) n xs) : n ≤ cap := by
  rcases h.2 with ⟨h1, h2⟩ | ⟨g', c', cu, h1, _, _, hnc, _⟩
  · omega
  · injection h1 with h2 h3 h4; omega
theorem addD_len {k : Kin} {l : List Dam} {d : Dam} : (addD k l d).1.length ≤ 15 := by
  unfold addD
  split
  · next h => simp only [Bool.and_eq_true] at h; exact (goodD_true h.2).2.1
  · simp
/-- What is drawn: a list of the call's own, in a block even if it is empty. -/
def DamsD (gc K : Nat) (w : World) (e : Ending) (w' : World) : Prop := ∃ (g cap : Nat) (l : List Dam), e = .returned (.slice (some ⟨g, 0, none⟩) l.length cap) ∧ l.length ≤ cap ∧ l.length ≤ 17 ∧ Own w' w.heap.size 28 3 Dam.cells (some ⟨g, 0, none⟩) l ∧ Cur w' gc K ∧ w.grownBy w' (some gc)
theorem add_of {k : Kin} {l L : List Dam} {d : Dam} {b : Bool} {f : FuncId} {args : Array Value} {W : World} (h : Calls Try.prog f args W (ListPostS (addD k l d) W)) (hp : addD k l d = (L, b)) :
    Calls Try.prog f args W fun e w' => ∃ g cap, e = .returned (.tuple #[.slice (some ⟨g, 0, none⟩) L.length cap, .bool b]) ∧ w'.ownsRow W.heap.size 28 3 (.slice (some ⟨g, 0, none⟩) L.length cap) L.length (flat Dam.cells L) ∧ Below W.heap.size W w' := by rw [hp] at h; exact h
set_option maxRecDepth 100000 in
set_option maxHeartbeats 16000000 in
theorem damages_c (k : Kin) (gc K : Nat) (w : World) (h : Cur w gc K) (hK : K ≤ 10000) (hk : NearK k) : Calls Try.prog 20 #[.pointer (some ⟨gc, 0, none⟩), .agg #[.int .i64 k.i, .int .i64 k.st, .int .i64 k.wi, .int .i64 k.we, .int .i64 k.sg]] w (DamsD gc (K + 500) w) := by
  have HNK := Lib.hid hk
  have HC := Lib.hid (h.alloc (.cells k.cells.toArray 25))
  have HLT := Lib.hid h.lt
  have g0 := h.lt
  have HX := Lib.hid (Box.new w k.cells 25)
  have HW := Lib.hid (but_alloc (a := w) (g := gc) (.cells k.cells.toArray 25))
  clear h hk
  go_enter Try.func20, Try.ntmps20
  go_wp2_with fail
  have HO1 := Lib.hid (Joins.ownsRow_le (base := (w.alloc (.cells k.cells.toArray 25)).heap.size) (ownsRow_empty (w.alloc (.cells k.cells.toArray 25)) 28 3) (show w.heap.size ≤ _ by simp))
  refine (pick_c 9 gc K _ (HC.out.alloc _) (by omega) (by omega) (by omega)).mono ?_
  rintro e w1 ⟨n, rfl, n1, n2, hcw1, hgw1⟩
  have HCw1 := Lib.hid hcw1
  have HGw1 := Lib.hid hgw1
  clear hcw1 hgw1
  have HO := Lib.hid (owns_grown HO1.out HGw1.out HLT.out)
  have HB1 := Lib.hid (but_trans (but_trans HW.out (but_alloc _)) HGw1.out)
  have HX1 := Lib.hid ((HX.out.alloc (.cells #[] 28)).grown HGw1.out (by omega))
  clear HGw1 HX HC HW HO1
  obtain ⟨n, rfl⟩ : ∃ n' : Nat, n = (n' : Int) := ⟨n.toNat, by omega⟩
  simp only [World.size_alloc] at HO ⊢
  go_wp2_with fail
  go_loopw [5, 6, 7, 8] (fun v i _ _ wr => ∃ (l : List Dam) (m j g c : Nat), j + m ≤ 8 ∧ i = .int .i64 m ∧ v = .slice (some ⟨g, 0, none⟩) l.length c ∧ l.length ≤ 15 ∧ wr.ownsRow w.heap.size 28 3 (.slice (some ⟨g, 0, none⟩) l.length c) l.length ((l.map Dam.cells).flatten) ∧ Cur wr gc (K + 2 + 20 * j) ∧ Box wr w.heap.size 25 5 k.cells ∧ w.grownBy wr (some gc)) (fun _ i _ _ _ => (intOf i).toNat)
  case atStart => exact ⟨[], n, 0, w.heap.size + 1, 0, by omega, rfl, rfl, by simp, HO.out, HCw1.out, HX1.out, HB1.out⟩
  case round =>
    obtain ⟨l, m, j, g, c, hjm, rfl, rfl, hl, hown, hcur, hbx, hbut⟩ := hrel
    have HOr := Lib.hid hown
    have HCr := Lib.hid hcur
    have HXr := Lib.hid hbx
    have HBr := Lib.hid hbut
    have hc := owns_cap hown
    have x0 := hbx.cell (j := 0) rfl
    have x1 := hbx.cell (j := 1) rfl
    have x2 := hbx.cell (j := 2) rfl
    have x3 := hbx.cell (j := 3) rfl
    have x4 := hbx.cell (j := 4) rfl
    have lx := hbx.lt
    clear hown hcur hbx hbut
    rcases m with _ | m
    · go_wp2_with fail
      refine (pick_c 30 gc _ _ HCr.out (by omega) (by omega) (by omega)).mono ?_
      rintro e w2 ⟨r, rfl, r1, r2, hcw2, hgw2⟩
      have HCw2 := Lib.hid hcw2
      have HGw2 := Lib.hid hgw2
      clear hcw2 hgw2
      have HO2 := Lib.hid (owns_grown HOr.out HGw2.out HLT.out)
      have HB2 := Lib.hid (but_trans HBr.out HGw2.out)
      have hx2 := HXr.out.grown HGw2.out (by omega)
      have x0 := hx2.cell (j := 0) rfl
      have x1 := hx2.cell (j := 1) rfl
      have x2 := hx2.cell (j := 2) rfl
      have x3 := hx2.cell (j := 3) rfl
      have x4 := hx2.cell (j := 4) rfl
      have lx := hx2.lt
      clear HGw2 hx2 HOr HBr HCr HXr
      have hcase : r = 0 ∨ r = 1 ∨ (r ≠ 0 ∧ r ≠ 1) := by omega
      rcases hcase with rfl | rfl | ⟨q0, q1⟩
      · go_wp2_with fail
        refine (damage_c k gc _ _ HCw2.out (by omega) HNK.out).mono ?_
        rintro e w3 ⟨d, rfl, _, hc3, hg3⟩
        have HC3 := Lib.hid hc3
        have HO3 := Lib.hid (owns_grown HO2.out hg3 HLT.out)
        have HB3 := Lib.hid (but_trans HB2.out hg3)
        have z3 := HB3.out.size
        clear hc3 hg3 HO2 HB2
        go_wp2_with (at_builtin; refine wpList_push2 _ rfl _ _ 26 rfl w.heap.size 28 (.agg #[.int .i64 0, .int .i64 0, .int .i64 0]) 3 24 Try.underlying26 info_Damage rfl (by decide) (by decide) _ _ _ rfl (HO3.out.alloc _) w3.heap.size (Dam.cells d) rfl rfl ?c1 ?c2 ?c3 ?c4 ?_)
        try case c1 =>
          intro j u hj
          match j, hj with
          | 0, hj => simp [Dam.cells] at hj; subst hj; simp [go_sem]
          | 1, hj => simp [Dam.cells] at hj; subst hj; simp [go_sem]
          | 2, hj => simp [Dam.cells] at hj; subst hj; simp [go_sem]
        case c2 => intro u hu; simp [Dam.cells] at hu; rcases hu with rfl | rfl | rfl <;> rfl
        case c3 => omega
        case c4 => first | omega | (simp; omega)
        intro v' w' hown' hb' _
        rw [flat_dam] at hown'
        obtain ⟨e1, e2⟩ := push_end HB3.out HC3.out HLT.out (((Below.refl _ _).alloc z3 _).trans hb')
        obtain ⟨g8, c8, hv8, hc8⟩ := owns_at hown' (by omega)
        subst hv8
        have E1 := Lib.hid e1
        have E2 := Lib.hid e2
        have E3 := Lib.hid hown'
        clear e1 e2 hown' hb'
        go_wp2_with fail
        go_ret
        exact ⟨g8, c8, l ++ [d], by simp, by simpa using hc8, by simp; omega, Own.of_row' E3.out (by simp) rfl (fun _ => rfl), E1.out.mono (by omega), E2.out⟩
      · have HO3 := Lib.hid (Joins.ownsRow_le (base := w2.heap.size) (ownsRow_empty w2 28 3) HB2.out.size)
        have HB3 := Lib.hid (but_below HB2.out ((Below.refl w.heap.size w2).alloc HB2.out.size (.cells #[] 28)))
        have HC3 := Lib.hid (HCw2.out.alloc (.cells #[] 28))
        clear x0 x1 x2 x3 x4 HO2
        go_wp2_with fail
        go_loopw [5, 9] (fun v i wr => ∃ (l : List Dam) (g c : Nat), l.length ≤ 16 ∧ i = .int .i64 l.length ∧ v = .slice (some ⟨g, 0, none⟩) l.length c ∧ wr.ownsRow w.heap.size 28 3 (.slice (some ⟨g, 0, none⟩) l.length c) l.length ((l.map Dam.cells).flatten) ∧ Cur wr gc (K + 200 + 2 * l.length) ∧ w.grownBy wr (some gc)) (fun _ i _ => 17 - (intOf i).toNat)
        case atStart => exact ⟨[], w2.heap.size, 0, by simp, rfl, rfl, HO3.out, HC3.out.mono (by simp; omega), HB3.out⟩
        case round =>
          obtain ⟨l, g, c, hl, rfl, rfl, hown, hcur, hbut⟩ := hrel
          have HO := Lib.hid hown
          have HB := Lib.hid hbut
          have HR := Lib.hid hcur
          have hc := owns_cap hown
          clear hown hbut hcur
          go_wp2_with fail
          refine (pick_c 2 gc _ _ HR.out (by omega) (by omega) (by omega)).mono ?_
          rintro e w3 ⟨m, rfl, m1, m2, hcw3, hgw3⟩
          have HCw3 := Lib.hid hcw3
          have HGw3 := Lib.hid hgw3
          clear hcw3 hgw3
          have HO4 := Lib.hid (owns_grown HO.out HGw3.out HLT.out)
          have HB4 := Lib.hid (but_trans HB.out HGw3.out)
          have z3 := HB4.out.size
          clear HGw3 HO HB HR
          by_cases hlt : (l.length : Int) < 15 + m
          · have z3' := z3
            go_wp2_with (at_builtin; refine wpList_push2 _ rfl _ _ 26 rfl w.heap.size 28 (.agg #[.int .i64 0, .int .i64 0, .int .i64 0]) 3 24 Try.underlying26 info_Damage rfl (by decide) (by decide) _ _ _ rfl (HO4.out.alloc _) w3.heap.size (Dam.cells ⟨20 * (l.length : Int), 0, 1⟩) rfl rfl ?c1 ?c2 ?c3 ?c4 ?_)
            try case c1 =>
              intro j u hj
              match j, hj with
              | 0, hj => simp [Dam.cells] at hj; subst hj; simp [go_sem]
              | 1, hj => simp [Dam.cells] at hj; subst hj; simp [go_sem]
              | 2, hj => simp [Dam.cells] at hj; subst hj; simp [go_sem]
            case c2 => intro u hu; simp [Dam.cells] at hu; rcases hu with rfl | rfl | rfl <;> rfl
            case c3 => omega
            case c4 => first | omega | (simp; omega)
            intro v' w' hown' hb' _
            rw [flat_dam] at hown'
            obtain ⟨e1, e2⟩ := push_end HB4.out HCw3.out HLT.out (((Below.refl _ _).alloc z3 _).trans hb')
            obtain ⟨g8, c8, hv8, hc8⟩ := owns_at hown' (by omega)
            subst hv8
            have E1 := Lib.hid e1
            have E2 := Lib.hid e2
            have E3 := Lib.hid hown'
            clear e1 e2 hown' hb'
            go_wp2_with fail
            go_roundw
            case rel => exact ⟨l ++ [⟨20 * (l.length : Int), 0, 1⟩], g8, c8, by simp; omega, by simp, by simp, by simpa using E3.out, E1.out.mono (by simp; omega), E2.out⟩
            case measure => simp [intOf]; omega
          · go_wp2_with fail
            go_ret
            exact ⟨g, c, l, rfl, hc, by omega, Own.of_row' HO4.out rfl rfl (fun _ => rfl), HCw3.out.mono (by omega), HB4.out⟩
      · clear x0 x1 x2 x3 x4
        go_wp2_with fail
        go_ret
        exact ⟨g, c, l, rfl, hc, by omega, Own.of_row' HO2.out rfl rfl (fun _ => rfl), HCw2.out.mono (by omega), HB2.out⟩
    · have hgw : ¬ w.heap.size = gc := by omega
      go_wp2_with fail
      go_region_held3 (fun w' : World => w'.cell? ⟨w.heap.size, 0, none⟩ = some (.int .i64 k.i) ∧ w'.cell? ⟨w.heap.size, 1, none⟩ = some (.int .i64 k.st) ∧ w'.cell? ⟨w.heap.size, 2, none⟩ = some (.int .i64 k.wi) ∧ w'.cell? ⟨w.heap.size, 3, none⟩ = some (.int .i64 k.we) ∧ w'.cell? ⟨w.heap.size, 4, none⟩ = some (.int .i64 k.sg)) (first | exact ⟨y0, y1, y2, y3, y4⟩ | exact ⟨p0, p1, p2, p3, p4⟩ | exact ⟨x0, x1, x2, x3, x4⟩) (first
        | (go_at_call 7; refine (add_of (specAddDamage_c k l d g 0 c _ (by omega) hc ⟨HNK.out.1.1, HNK.out.1.2⟩ HWd.out ((own_flat HO4.out rfl rfl Dam.three : Own _ _ _ _ _ _ l).rd Dam.three)) HV.out).mono ?_; rintro e w5 ⟨g5, c5, rfl, ho5, hb5⟩; have HO5 := Lib.hid ho5; have HB5 := Lib.hid hb5; have HX5 := Lib.hid (HX4.out.carry hb5); have y0 := HX5.out.cell (j := 0) rfl; have y1 := HX5.out.cell (j := 1) rfl; have y2 := HX5.out.cell (j := 2) rfl; have y3 := HX5.out.cell (j := 3) rfl; have y4 := HX5.out.cell (j := 4) rfl; clear ho5 hb5)
        | (go_at_call 21; refine (damage_c k gc _ _ (HCr.out.carry (Below.refl _ _).drew) (by omega) HNK.out).mono ?_; rintro e w4 ⟨d, rfl, hwd, hc4, hg4⟩; have HWd := Lib.hid hwd; have HC4 := Lib.hid hc4; have HG4 := Lib.hid (show wr.grownBy w4 (some gc) from but_trans (but_below (World.grownBy.refl wr _) (Below.refl _ _).drew) hg4); have HX4 := Lib.hid (HXr.out.grown HG4.out (by omega)); have HO4 := Lib.hid (owns_grown HOr.out HG4.out HLT.out); have p0 := HX4.out.cell (j := 0) rfl; have p1 := HX4.out.cell (j := 1) rfl; have p2 := HX4.out.cell (j := 2) rfl; have p3 := HX4.out.cell (j := 3) rfl; have p4 := HX4.out.cell (j := 4) rfl; have hal := addD_len (k := k) (l := l) (d := d); obtain ⟨⟨L, b⟩, hv⟩ : ∃ p, addD k l d = p := ⟨_, rfl⟩; rw [hv] at hal; have HV := Lib.hid hv; have HAL := Lib.hid (show L.length ≤ 15 from hal); clear hwd hc4 hg4 hv hal))
      have z4 : w.heap.size ≤ w4.heap.size := Nat.le_trans HBr.out.size HG4.out.size
      have HB6 := Lib.hid (but_below (but_trans HBr.out HG4.out) (HB5.out.mono z4))
      have HC6 := Lib.hid (HC4.out.carry HB5.out)
      clear x0 x1 x2 x3 x4 p0 p1 p2 p3 p4 y0 y1 y2 y3 y4
      rcases b with _ | _
      · go_wp2_with fail
        go_roundw
        case rel => exact ⟨l, m, j + 1, g, c, by omega, by go_num, rfl, hl, ownsRow_below HO4.out HB5.out, HC6.out.mono (by omega), HX5.out, HB6.out⟩
        case measure => simp [intOf]
      · go_wp2_with fail
        go_roundw
        case rel => exact ⟨L, m, j + 1, g5, c5, by omega, by go_num, rfl, HAL.out, Joins.ownsRow_le HO5.out z4, HC6.out.mono (by omega), HX5.out, HB6.out⟩
        case measure => simp [intOf]
end Go.Proofs.Ytlgpgcfncmomiaa
