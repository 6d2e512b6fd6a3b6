/- The program's ParseCabin returns the Lean function; no conditions but the length and what the library's and the program's own text lay. -/
import Derived.Test.YteoajaichjojdaaDoorCabLib
import Derived.Deep.DeepCutAuto
import Derived.Deep.RegionLaw
import Derived.Deep.RegionWith
namespace Go.Proofs.YteoajaichjojdaaDoor
open Go.RowKit

def CabRes (p : Cbn × Bool) (w : World) (e : Ending) (w' : World) : Prop := e = .returned (.tuple #[.agg #[.int .i64 p.1.n, .int .i64 p.1.s, .int .i64 p.1.e, .int .i64 p.1.t, .int .i64 p.1.r], .bool p.2]) ∧ Below w.heap.size w w'
theorem retC {p : Cbn × Bool} {x : Cbn} {b : Bool} (h : p = (x, b)) : Ending.returned (.tuple #[.agg #[.int .i64 x.n, .int .i64 x.s, .int .i64 x.e, .int .i64 x.t, .int .i64 x.r], .bool b]) = .returned (.tuple #[.agg #[.int .i64 p.1.n, .int .i64 p.1.s, .int .i64 p.1.e, .int .i64 p.1.t, .int .i64 p.1.r], .bool p.2]) := by rw [h]
theorem res_pi {ts : Array Value} {W : World} {g : Nat} {x : Cbn} {b : Bool} (h2 : ts[2]?.getD undef = .pointer (some ⟨g, 0, none⟩)) (h3 : ts[3]?.getD undef = .bool b) (hB : Box W g 25 5 (Cbn.cells x)) :
    (results Tryd.f9 ts).run Tryd.prog W = .ok (.tuple #[.agg #[.int .i64 x.n, .int .i64 x.s, .int .i64 x.e, .int .i64 x.t, .int .i64 x.r], .bool b]) W := by
  have c0 := hB.cell (j := 0) rfl
  have c1 := hB.cell (j := 1) rfl
  have c2 := hB.cell (j := 2) rfl
  have c3 := hB.cell (j := 3) rfl
  have c4 := hB.cell (j := 4) rfl
  simp [results, Tryd.results9, go_sem, h2, h3, c0, c1, c2, c3, c4]
theorem int_of {f : FuncId} {args : Array Value} {W : World} {p : Int × Bool} {v : Int} (h : Calls Tryd.prog f args W (IntP p W)) (hp : p.1 = v) : Calls Tryd.prog f args W fun e w' => ∃ b, e = .returned (.tuple #[.int .i64 v, .bool b]) ∧ Below W.heap.size W w' :=
  h.mono fun _ _ ⟨he, hb⟩ => ⟨p.2, by rw [he, hp], hb⟩
/-- A cabin on the call's own block, behind a world. -/
def PC (w3 w : World) (gx : Nat) (vs : List Value) : Prop := Box w gx 25 5 vs ∧ Below w3.heap.size w3 w ∧ w3.heap.size ≤ gx
theorem PC.carry {w3 w w' : World} {gx : Nat} {vs : List Value} (h : PC w3 w gx vs) (hb : Below w.heap.size w w') : PC w3 w' gx vs := ⟨h.1.carry hb, h.2.1.trans (hb.mono h.2.1.size), h.2.2⟩
theorem PC.store {w3 w : World} {gx : Nat} {vs : List Value} (h : PC w3 w gx vs) (j : Nat) (v : Value) : PC w3 (w.setCell ⟨gx, j, none⟩ v) gx (vs.set j v) := ⟨h.1.set j v, h.2.1.setCell (p := ⟨gx, j, none⟩) h.2.2 v, h.2.2⟩
set_option maxRecDepth 100000 in
set_option maxHeartbeats 8000000 in
theorem implParseCabin_c (s : ByteArray) (w : World) (hs : s.size ≤ 1048576) (hT : Tab w) (hE : Err w) (hM : MaxL w) (hN : NamesAt w) : Calls Tryd.prog 9 #[.string s] w (CabRes (pCabI s.data.toList) w) := by
  have h0 : Below w.heap.size w (w.alloc (.cells (Cbn.cells zC).toArray 25)) := (Below.refl _ _).alloc (Nat.le_refl _) _
  have HZ := Lib.hid (Box.new w (Cbn.cells zC) 25)
  have HT := Lib.hid (hT.carry h0)
  have HE := Lib.hid (hE.carry h0)
  have HM := Lib.hid (hM.carry h0)
  have HN := Lib.hid (hN.carry h0)
  have HB := Lib.hid h0
  clear hT hE hM hN h0
  go_enter Tryd.func9, Tryd.ntmps9
  go_wp2_with fail
  refine (split_c s _ (by omega) HM.out).mono ?_
  rintro e w' ⟨ps, hps, rfl, rfl⟩
  have HPS := Lib.hid hps
  clear hps
  obtain ⟨wz, hwz⟩ : ∃ v, w.alloc (.cells (Cbn.cells zC).toArray 25) = v := ⟨_, rfl⟩
  rw [hwz] at HZ HT HE HM HN HB ⊢
  have hzs : wz.heap.size = w.heap.size + 1 := by rw [← hwz]; simp
  rw [hzs]
  obtain ⟨w1, hw1⟩ : ∃ v, wz.alloc (.cells (ps.map Value.string).toArray 9) = v := ⟨_, rfl⟩
  have hb1 : Below wz.heap.size wz w1 := hw1 ▸ (Below.refl _ _).alloc (Nat.le_refl _) _
  have hlit : ∀ i (hi : i < ps.length), w1.cell? ⟨w.heap.size + 1, i, none⟩ = some (.string ps[i]) := fun i hi => by
    have h := cell_of_row _ _ i (ps.map Value.string).toArray 9 (0, 0) (heap_alloc_new wz (.cells (ps.map Value.string).toArray 9))
    rw [hw1, hzs] at h
    rw [h]; simp [hi]
  have hl1 : w.heap.size + 1 < w1.heap.size := by rw [← hw1]; simp [hzs]
  rw [hw1]
  have HZ1 := Lib.hid (HZ.out.carry hb1)
  have HT1 := Lib.hid (HT.out.carry hb1)
  have HE1 := Lib.hid (HE.out.carry hb1)
  have HM1 := Lib.hid (HM.out.carry hb1)
  have HN1 := Lib.hid (HN.out.carry hb1)
  have HB1 := Lib.hid (HB.out.trans (hb1.mono HB.out.size))
  have HL1 := Lib.hid hlit
  clear hw1 hb1 hlit HZ HT HE HM HN HB hwz hzs
  obtain ⟨N, hN⟩ : ∃ N, ps.length = N := ⟨_, rfl⟩
  rw [hN]
  have HLen := Lib.hid (show (Lib.split s.data.toList [44, 32]).length = N by rw [← HPS.out, List.length_map, hN])
  by_cases hn : N = 4
  case neg =>
    have hn' : ((N : Int) != 4) = true := by rw [bne_iff_ne]; omega
    have H := Lib.hid (show pCabI s.data.toList = (zC, false) by unfold pCabI; rw [if_neg (by rw [HLen.out]; exact hn)])
    have zc := HZ1.out
    have z0 := zc.cell (j := 0) rfl
    have z1 := zc.cell (j := 1) rfl
    have z2 := zc.cell (j := 2) rfl
    have z3 := zc.cell (j := 3) rfl
    have z4 := zc.cell (j := 4) rfl
    have zf := zc.frozen
    have zl := zc.lt
    have HBz := Lib.hid HB1.out
    clear zc
    clear hn
    go_wp2_with fail
    exact bodyPost_ret (v := .tuple #[.agg #[.int .i64 (zC).n, .int .i64 (zC).s, .int .i64 (zC).e, .int .i64 (zC).t, .int .i64 (zC).r], .bool false]) (res_pi (x := zC) rfl rfl (HZ1.out.puts (us := Cbn.cells zC) rfl)) rfl ⟨retC H.out, puts_below (Nat.le_refl _) (Cbn.cells zC) _ 0 HBz.out⟩
  subst hn
  obtain ⟨p0, p1, p2, p3, rfl⟩ : ∃ p0 p1 p2 p3, ps = [p0, p1, p2, p3] := by
    rcases ps with _ | ⟨a, _ | ⟨b, _ | ⟨c, _ | ⟨d, _ | ⟨e, r⟩⟩⟩⟩⟩
    · cases hN
    · cases hN
    · cases hN
    · cases hN
    · exact ⟨a, b, c, d, rfl⟩
    · simp at hN
  have q0 := HL1.out 0 (by simp)
  have q1 := HL1.out 1 (by simp)
  have q2 := HL1.out 2 (by simp)
  have q3 := HL1.out 3 (by simp)
  simp only [List.getElem_cons_zero, List.getElem_cons_succ] at q0 q1 q2 q3
  have HSP := Lib.hid (show pCabI s.data.toList = cGive s.data.toList (cReadI p0.data.toList p1.data.toList p2.data.toList p3.data.toList) by
    unfold pCabI
    rw [if_pos HLen.out, ← HPS.out]; rfl)
  have hz : ∀ p ∈ [p0, p1, p2, p3], p.size ≤ 1048576 := fun p hp => by
    have h1 := split_size [44, 32] (Lib.count s.data.toList [44, 32]) s.data.toList p.data.toList (by
      have : p.data.toList ∈ Lib.split s.data.toList [44, 32] := by rw [← HPS.out]; exact List.mem_map_of_mem hp
      exact this)
    rw [size_list p]
    have := size_list s
    omega
  have hz0 : p0.size ≤ 1048576 := hz _ (by simp)
  have hz1 : p1.size ≤ 1048576 := hz _ (by simp)
  have hz3 : p3.size ≤ 1048576 := hz _ (by simp)
  clear hz HPS HL1 hN HLen
  go_wp2_with fail
  refine (cut2_c p0 ⟨#[58, 32]⟩ _ (by omega) HM1.out).mono ?_
  rintro e w3 ⟨a, b, c, ha, hb, rfl, hb3⟩
  have has : a.size ≤ 1048576 := by
    have := (cut_size p0.data.toList [58, 32]).1
    rw [size_list a, ha]; have := size_list p0; exact Nat.le_trans ‹_› (by omega)
  have hbs : b.size ≤ 1048576 := by
    have := (cut_size p0.data.toList [58, 32]).2
    rw [size_list b, hb]; have := size_list p0; exact Nat.le_trans ‹_› (by omega)
  have HAd := Lib.hid (show a.data.toList = (Lib.cut p0.data.toList [58, 32]).1 from ha)
  have HBd := Lib.hid (show b.data.toList = (Lib.cut p0.data.toList [58, 32]).2.1 from hb)
  have HZ3 := Lib.hid (HZ1.out.carry hb3)
  have HT3 := Lib.hid (HT1.out.carry hb3)
  have HE3 := Lib.hid (HE1.out.carry hb3)
  have HN3 := Lib.hid (HN1.out.carry hb3)
  have HB3 := Lib.hid (HB1.out.trans (hb3.mono HB1.out.size))
  have g1 := (hb3.cell (p := ⟨w.heap.size + 1, 1, none⟩) hl1).trans q1
  have g2 := (hb3.cell (p := ⟨w.heap.size + 1, 2, none⟩) hl1).trans q2
  have g3 := (hb3.cell (p := ⟨w.heap.size + 1, 3, none⟩) hl1).trans q3
  have hl3 := Nat.lt_of_lt_of_le hl1 hb3.size
  clear ha hb hb3 q0 q1 q2 q3 HZ1 HT1 HE1 HM1 HN1 HB1 hl1
  obtain ⟨st, hst⟩ : ∃ v, stI p2.data.toList = v := ⟨_, rfl⟩
  have HST := Lib.hid hst
  go_wp2_with fail
  go_cut [8] (fun p wx => ∃ g, p = .pointer (some ⟨g, 0, none⟩) ∧ PC w3 wx g [.int .i64 0, .int .i64 0, .int .i64 0, .int .i64 st, .int .i64 0])
  case first => as_aux_lemma =>
    have HIdx := Lib.hid (fun W (hW : Below w3.heap.size w3 W) => show Calls Tryd.prog 27 #[.slice (some ⟨0, 0, none⟩) 4 4, .string p2] W fun e w' => e = .returned (.int .i64 st) ∧ W = w' from by
      have h := index_c p2 W (HN3.out.carry hW)
      rwa [HST.out] at h)
    clear hst
    go_region_law (first
      | (go_simp; go_at_call 27; refine (HIdx.out _ (by repeat (first | (with_reducible exact Below.refl _ _) | ((with_reducible refine alloc_ ?_ ?_); (focus (first | exact Nat.le_refl _ | (simp; done) | (simp; omega) | omega))) | ((with_reducible refine set_ ?_ ?_); (focus (first | exact Nat.le_refl _ | (simp; done) | (simp; omega) | omega))) | (with_reducible refine Below.drew ?_) | ((with_reducible refine after_ ?_ (by assumption) ?_); (rotate_left; (focus (first | exact Nat.le_refl _ | (simp; done) | (simp; omega) | omega))))))).mono ?_; rintro e w' ⟨rfl, rfl⟩))
    all_goals
      go_wp2_with fail
      go_meet
      exact ⟨_, rfl, Box.drew (Box.new w3 [.int .i64 0, .int .i64 0, .int .i64 0, .int .i64 st, .int .i64 0] 25), ((Below.refl _ _).alloc (Nat.le_refl _) _).drew, Nat.le_refl _⟩
  case rest => as_aux_lemma =>
    obtain ⟨gx, rfl, hpc⟩ := hcut
    have HX0 := Lib.hid hpc
    obtain ⟨v0, hv0⟩ : ∃ v, (parseP (Lib.trimPrefix (Lib.cut p0.data.toList [58, 32]).1 cab6)).1 = v := ⟨_, rfl⟩
    obtain ⟨v1, hv1⟩ : ∃ v, (parseP (Lib.trimSuffix (Lib.cut p0.data.toList [58, 32]).2.1 seat6)).1 = v := ⟨_, rfl⟩
    obtain ⟨v2, hv2⟩ : ∃ v, (parseP (Lib.trimSuffix p1.data.toList kg3)).1 = v := ⟨_, rfl⟩
    obtain ⟨v4, hv4⟩ : ∃ v, (parseP (Lib.trimSuffix p3.data.toList trip6)).1 = v := ⟨_, rfl⟩
    have HC := Lib.hid (show cReadI p0.data.toList p1.data.toList p2.data.toList p3.data.toList = ⟨v0, v1, v2, st, v4⟩ by
      unfold cReadI; rw [hv0, hv1, hv2, hv4, hst])
    have HV0 := Lib.hid hv0
    have HV1 := Lib.hid hv1
    have HV2 := Lib.hid hv2
    have HV4 := Lib.hid hv4
    clear hpc hv0 hv1 hv2 hv4 hst
    have hge := HX0.out.2.2
    go_wp2_with fail
    refine (trimPre_c a ⟨#[99, 97, 98, 105, 110, 32]⟩ _).mono ?_
    rintro e w' ⟨y, hy, rfl, rfl⟩
    have HYt := Lib.hid hy
    clear hy
    have hys : y.size ≤ 1048576 := by
      rw [size_list y, HYt.out]
      (have := pre_size a.data.toList (⟨#[99, 97, 98, 105, 110, 32]⟩ : ByteArray).data.toList; have := size_list a; omega)
    go_wp2_with fail
    refine (int_of (v := v0) (implParseInt_c y _ (by omega) (HT3.out.carry HX0.out.2.1) (HE3.out.carry HX0.out.2.1)) (by rw [HYt.out]; (rw [HAd.out]; exact HV0.out))).mono ?_
    rintro e w9 ⟨bb, rfl, hb9⟩
    have HX9 := Lib.hid (HX0.out.carry hb9)
    have hx9 := HX9.out.1
    have x0 := hx9.cell (j := 0) rfl
    have x1 := hx9.cell (j := 1) rfl
    have x2 := hx9.cell (j := 2) rfl
    have x3 := hx9.cell (j := 3) rfl
    have x4 := hx9.cell (j := 4) rfl
    have xf := hx9.frozen
    have xl := hx9.lt
    have k1 := (HX9.out.2.1.cell (p := ⟨w.heap.size + 1, 1, none⟩) hl3).trans g1
    have k3 := (HX9.out.2.1.cell (p := ⟨w.heap.size + 1, 3, none⟩) hl3).trans g3
    have HX1 := Lib.hid (HX9.out.store 0 (.int .i64 v0))
    clear hb9 hx9 HX9 hys HYt
    go_wp2_with fail
    refine (trimSuf_c b ⟨#[32, 115, 101, 97, 116, 115]⟩ _ (by omega)).mono ?_
    rintro e w' ⟨y, hy, rfl, rfl⟩
    have HYt := Lib.hid hy
    clear hy
    have hys : y.size ≤ 1048576 := by
      rw [size_list y, HYt.out]
      (have := suf_size b.data.toList (⟨#[32, 115, 101, 97, 116, 115]⟩ : ByteArray).data.toList; have := size_list b; omega)
    go_wp2_with fail
    refine (int_of (v := v1) (implParseInt_c y _ (by omega) (HT3.out.carry HX1.out.2.1) (HE3.out.carry HX1.out.2.1)) (by rw [HYt.out]; (rw [HBd.out]; exact HV1.out))).mono ?_
    rintro e w9 ⟨bb, rfl, hb9⟩
    have HX9 := Lib.hid (HX1.out.carry hb9)
    have hx9 := HX9.out.1
    have x0 := hx9.cell (j := 0) rfl
    have x1 := hx9.cell (j := 1) rfl
    have x2 := hx9.cell (j := 2) rfl
    have x3 := hx9.cell (j := 3) rfl
    have x4 := hx9.cell (j := 4) rfl
    have xf := hx9.frozen
    have xl := hx9.lt
    have k1 := (HX9.out.2.1.cell (p := ⟨w.heap.size + 1, 1, none⟩) hl3).trans g1
    have k3 := (HX9.out.2.1.cell (p := ⟨w.heap.size + 1, 3, none⟩) hl3).trans g3
    have HX2 := Lib.hid (HX9.out.store 1 (.int .i64 v1))
    clear hb9 hx9 HX9 hys HYt
    go_wp2_with fail
    refine (trimSuf_c p1 ⟨#[32, 107, 103]⟩ _ (by omega)).mono ?_
    rintro e w' ⟨y, hy, rfl, rfl⟩
    have HYt := Lib.hid hy
    clear hy
    have hys : y.size ≤ 1048576 := by
      rw [size_list y, HYt.out]
      (have := suf_size p1.data.toList (⟨#[32, 107, 103]⟩ : ByteArray).data.toList; have := size_list p1; omega)
    go_wp2_with fail
    refine (int_of (v := v2) (implParseInt_c y _ (by omega) (HT3.out.carry HX2.out.2.1) (HE3.out.carry HX2.out.2.1)) (by rw [HYt.out]; exact HV2.out)).mono ?_
    rintro e w9 ⟨bb, rfl, hb9⟩
    have HX9 := Lib.hid (HX2.out.carry hb9)
    have hx9 := HX9.out.1
    have x0 := hx9.cell (j := 0) rfl
    have x1 := hx9.cell (j := 1) rfl
    have x2 := hx9.cell (j := 2) rfl
    have x3 := hx9.cell (j := 3) rfl
    have x4 := hx9.cell (j := 4) rfl
    have xf := hx9.frozen
    have xl := hx9.lt
    have k1 := (HX9.out.2.1.cell (p := ⟨w.heap.size + 1, 1, none⟩) hl3).trans g1
    have k3 := (HX9.out.2.1.cell (p := ⟨w.heap.size + 1, 3, none⟩) hl3).trans g3
    have HX3 := Lib.hid (HX9.out.store 2 (.int .i64 v2))
    clear hb9 hx9 HX9 hys HYt
    go_wp2_with fail
    refine (trimSuf_c p3 ⟨#[32, 116, 114, 105, 112, 115]⟩ _ (by omega)).mono ?_
    rintro e w' ⟨y, hy, rfl, rfl⟩
    have HYt := Lib.hid hy
    clear hy
    have hys : y.size ≤ 1048576 := by
      rw [size_list y, HYt.out]
      (have := suf_size p3.data.toList (⟨#[32, 116, 114, 105, 112, 115]⟩ : ByteArray).data.toList; have := size_list p3; omega)
    go_wp2_with fail
    refine (int_of (v := v4) (implParseInt_c y _ (by omega) (HT3.out.carry HX3.out.2.1) (HE3.out.carry HX3.out.2.1)) (by rw [HYt.out]; exact HV4.out)).mono ?_
    rintro e w9 ⟨bb, rfl, hb9⟩
    have HX9 := Lib.hid (HX3.out.carry hb9)
    have hx9 := HX9.out.1
    have x0 := hx9.cell (j := 0) rfl
    have x1 := hx9.cell (j := 1) rfl
    have x2 := hx9.cell (j := 2) rfl
    have x3 := hx9.cell (j := 3) rfl
    have x4 := hx9.cell (j := 4) rfl
    have xf := hx9.frozen
    have xl := hx9.lt
    have k1 := (HX9.out.2.1.cell (p := ⟨w.heap.size + 1, 1, none⟩) hl3).trans g1
    have k3 := (HX9.out.2.1.cell (p := ⟨w.heap.size + 1, 3, none⟩) hl3).trans g3
    have HX4 := Lib.hid (HX9.out.store 4 (.int .i64 v4))
    clear hb9 hx9 HX9 hys HYt
    obtain ⟨x, hx⟩ : ∃ x : Cbn, x = ⟨v0, v1, v2, st, v4⟩ := ⟨_, rfl⟩
    have HXx := Lib.hid hx
    go_wp2_with fail
    refine (IsCabin_c ⟨v0, v1, v2, st, v4⟩ _).mono ?_
    rintro e wi ⟨rfl, hbi⟩
    have HXi := Lib.hid (HX4.out.carry hbi)
    have HZi := Lib.hid (HZ3.out.carry HXi.out.2.1)
    have HBi := Lib.hid (HB3.out.trans (HXi.out.2.1.mono HB3.out.size))
    clear hbi hx x0 x1 x2 x3 x4 xf xl k1 k3
    have hxi := HXi.out.1
    have x0 := hxi.cell (j := 0) (v := .int .i64 v0) rfl
    have x1 := hxi.cell (j := 1) (v := .int .i64 v1) rfl
    have x2 := hxi.cell (j := 2) (v := .int .i64 v2) rfl
    have x3 := hxi.cell (j := 3) (v := .int .i64 st) rfl
    have x4 := hxi.cell (j := 4) (v := .int .i64 v4) rfl
    have xl := hxi.lt
    clear hxi
    rcases hok : okC ⟨v0, v1, v2, st, v4⟩ with _ | _
    · have H := Lib.hid (show pCabI s.data.toList = (zC, false) by
        rw [HSP.out, HC.out, cGive, if_neg (fun h => by rw [hok] at h; exact absurd h.1 (by decide))])
      have zc := HZi.out
      have z0 := zc.cell (j := 0) rfl
      have z1 := zc.cell (j := 1) rfl
      have z2 := zc.cell (j := 2) rfl
      have z3 := zc.cell (j := 3) rfl
      have z4 := zc.cell (j := 4) rfl
      have zf := zc.frozen
      have zl := zc.lt
      have HBz := Lib.hid HBi.out
      clear zc
      clear hok
      go_wp2_with fail
      exact bodyPost_ret (v := .tuple #[.agg #[.int .i64 (zC).n, .int .i64 (zC).s, .int .i64 (zC).e, .int .i64 (zC).t, .int .i64 (zC).r], .bool false]) (res_pi (x := zC) rfl rfl (HZi.out.puts (us := Cbn.cells zC) rfl)) rfl ⟨retC H.out, puts_below (Nat.le_refl _) (Cbn.cells zC) _ 0 HBz.out⟩
    · obtain ⟨t, ht⟩ : ∃ t, S (cabL ⟨v0, v1, v2, st, v4⟩) = t := ⟨_, rfl⟩
      have HTt := Lib.hid ht
      have HOK := Lib.hid hok
      have HTx := Lib.hid (fun W (hW : Below wi.heap.size wi W) => str_of (implText_c ⟨v0, v1, v2, st, v4⟩ W hok (HT3.out.carry (HXi.out.2.1.trans (hW.mono HXi.out.2.1.size))) (HN3.out.carry (HXi.out.2.1.trans (hW.mono HXi.out.2.1.size)))) ht)
      clear hok ht
      go_wp2_with fail
      refine (HTx.out _ (Below.refl _ _)).mono ?_
      rintro e wt ⟨rfl, hbt⟩
      have HXt := Lib.hid (HXi.out.carry hbt)
      have HZt := Lib.hid (HZi.out.carry hbt)
      have HBt := Lib.hid (HBi.out.trans (hbt.mono HBi.out.size))
      clear hbt x0 x1 x2 x3 x4 xl
      have hxt := HXt.out.1
      have x0 := hxt.cell (j := 0) (v := .int .i64 v0) rfl
      have x1 := hxt.cell (j := 1) (v := .int .i64 v1) rfl
      have x2 := hxt.cell (j := 2) (v := .int .i64 v2) rfl
      have x3 := hxt.cell (j := 3) (v := .int .i64 st) rfl
      have x4 := hxt.cell (j := 4) (v := .int .i64 v4) rfl
      have xl := hxt.lt
      clear hxt
      by_cases hq : t = s
      · have H := Lib.hid (show pCabI s.data.toList = (⟨v0, v1, v2, st, v4⟩, true) by
          rw [HSP.out, HC.out, cGive, if_pos ⟨HOK.out, by rw [← hq, ← HTt.out, S_data]⟩])
        have hq' : (t.toList == s.toList) = true := by rw [hq]; simp
        have zc := HZt.out
        have z0 := zc.cell (j := 0) rfl
        have z1 := zc.cell (j := 1) rfl
        have z2 := zc.cell (j := 2) rfl
        have z3 := zc.cell (j := 3) rfl
        have z4 := zc.cell (j := 4) rfl
        have zf := zc.frozen
        have zl := zc.lt
        have HBz := Lib.hid HBt.out
        clear zc
        clear hq
        go_wp2_with fail
        exact bodyPost_ret (v := .tuple #[.agg #[.int .i64 ((⟨v0, v1, v2, st, v4⟩ : Cbn)).n, .int .i64 ((⟨v0, v1, v2, st, v4⟩ : Cbn)).s, .int .i64 ((⟨v0, v1, v2, st, v4⟩ : Cbn)).e, .int .i64 ((⟨v0, v1, v2, st, v4⟩ : Cbn)).t, .int .i64 ((⟨v0, v1, v2, st, v4⟩ : Cbn)).r], .bool true]) (res_pi (x := (⟨v0, v1, v2, st, v4⟩ : Cbn)) rfl rfl (HZt.out.puts (us := Cbn.cells (⟨v0, v1, v2, st, v4⟩ : Cbn)) rfl)) rfl ⟨retC H.out, puts_below (Nat.le_refl _) (Cbn.cells (⟨v0, v1, v2, st, v4⟩ : Cbn)) _ 0 HBz.out⟩
      · have H := Lib.hid (show pCabI s.data.toList = (zC, false) by
          rw [HSP.out, HC.out, cGive, if_neg (fun h => hq (by rw [← HTt.out, h.2]; exact (S_of s).symm))])
        have hq' : (t.toList == s.toList) = false := by rw [beq_eq_false_iff_ne]; intro e; exact hq (toList_inj e)
        have zc := HZt.out
        have z0 := zc.cell (j := 0) rfl
        have z1 := zc.cell (j := 1) rfl
        have z2 := zc.cell (j := 2) rfl
        have z3 := zc.cell (j := 3) rfl
        have z4 := zc.cell (j := 4) rfl
        have zf := zc.frozen
        have zl := zc.lt
        have HBz := Lib.hid HBt.out
        clear zc
        clear hq
        go_wp2_with fail
        exact bodyPost_ret (v := .tuple #[.agg #[.int .i64 (zC).n, .int .i64 (zC).s, .int .i64 (zC).e, .int .i64 (zC).t, .int .i64 (zC).r], .bool false]) (res_pi (x := zC) rfl rfl (HZt.out.puts (us := Cbn.cells zC) rfl)) rfl ⟨retC H.out, puts_below (Nat.le_refl _) (Cbn.cells zC) _ 0 HBz.out⟩
end Go.Proofs.YteoajaichjojdaaDoor
