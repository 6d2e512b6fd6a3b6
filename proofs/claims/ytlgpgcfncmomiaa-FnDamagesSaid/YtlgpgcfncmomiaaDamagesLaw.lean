/- FnDamages returns true for all codes: an added damage is broken wires more, a good rope has all of its strength but a twentieth, and no strength is negative; no conditions. -/
import Derived.Test.YtlgpgcfncmomiaaDamDraw
import Derived.Test.YtlgpgcfncmomiaaDamVerdictS
import Derived.Test.YtlgpgcfncmomiaaVDam
import Derived.Deep.DeepCutAuto
import Derived.Deep.CutBlock
import Derived.ChangeOld
namespace Go.Proofs.Ytlgpgcfncmomiaa
open Go.RowKit Go.Joins Go.ChangeShapes Go.WideShapes Go.ChangeAt

section
variable {f : FuncId} {args : Array Value} {W : World}
theorem dp_of {p : List Dam × Bool} {L : List Dam} {b : Bool} (h : Calls Try.prog f args W (ListPostD p W)) (hp : p = (L, b)) :
    Calls Try.prog f args W fun e w' => ∃ A cap, e = .returned (.tuple #[.slice A L.length cap, .bool b]) ∧ Own w' W.heap.size 28 3 Dam.cells A L ∧ Below W.heap.size W w' := by subst hp; exact h
theorem sb_of {p : ByteArray × Bool} {v : ByteArray} {b : Bool} (h : Calls Try.prog f args W fun e w' => e = .returned (.tuple #[.string p.1, .bool p.2]) ∧ Below W.heap.size W w') (hp : p = (v, b)) :
    Calls Try.prog f args W fun e w' => e = .returned (.tuple #[.string v, .bool b]) ∧ Below W.heap.size W w' := by subst hp; exact h
theorem ib_of {p : Int × Bool} {v : Int} {b : Bool} (h : Calls Try.prog f args W fun e w' => e = .returned (.tuple #[.int .i64 p.1, .bool p.2]) ∧ Below W.heap.size W w') (hp : p = (v, b)) :
    Calls Try.prog f args W fun e w' => e = .returned (.tuple #[.int .i64 v, .bool b]) ∧ Below W.heap.size W w' := by subst hp; exact h
theorem bl_of {b c : Bool} (h : Calls Try.prog f args W fun e w' => e = .returned (.bool b) ∧ Below W.heap.size W w') (hp : b = c) :
    Calls Try.prog f args W fun e w' => e = .returned (.bool c) ∧ Below W.heap.size W w' := by subst hp; exact h
theorem br_of {a c : Int} (h : Calls Try.prog f args W fun e w' => e = .returned (.tuple #[.int .i64 a, .bool true]) ∧ Below W.heap.size W w') (hp : a = c) :
    Calls Try.prog f args W fun e w' => e = .returned (.tuple #[.int .i64 c, .bool true]) ∧ Below W.heap.size W w' := by subst hp; exact h
end
theorem add_facts {k : Kin} {l : List Dam} {d : Dam} (h : (addD k l d).2 = true) : (addD k l d).1 = putD l d ∧ goodD k l = true ∧ goodD k (putD l d) = true ∧ okDm k d = true := by
  unfold addD at h ⊢
  split at h
  · next hp =>
    rw [if_pos hp]
    simp only [Bool.and_eq_true, decide_eq_true_eq] at hp
    exact ⟨rfl, hp.1.1, hp.2, okDm_of hp.1.1 hp.1.2 hp.2⟩
  · cases h
/-- What the law asks of a verdict and of what a rope carries. -/
theorem verd_cases {k : Kin} {l : List Dam} {v : ByteArray} {t : Bool} {s : Int} {b : Bool} (h : verdP k l = (v, t)) (h2 : strP k l = (s, b)) :
    t = goodD k l ∧ b = t ∧ ((v = ⟨#[]⟩ ∧ t = false) ∨ (t = true ∧ okKd k = true ∧ (0 ≤ s ∧ s ≤ k.sg) ∧ (v = ⟨#[114, 101, 112, 108, 97, 99, 101]⟩ ∨ v = ⟨#[119, 97, 116, 99, 104]⟩ ∨ (v = ⟨#[103, 111, 111, 100]⟩ ∧ 19 * k.sg ≤ 20 * (s + 1))))) := by
  unfold verdP at h
  unfold strP at h2
  rcases hg : goodD k l with _ | _
  · rw [hg, if_neg (by simp)] at h h2
    injection h with h3 h4
    injection h2 with h5 h6
    exact ⟨h4.symm, by rw [← h4, ← h6], .inl ⟨h3.symm, h4.symm⟩⟩
  · rw [hg, if_pos rfl] at h h2
    injection h with h3 h4
    injection h2 with h5 h6
    have hk := (goodD_true hg).1
    have hm := (most_at hg 10 (-1)).1
    refine ⟨h4.symm, by rw [← h4, ← h6], .inr ⟨h4.symm, hk, by rw [← h5]; exact left_bd hk hm, ?_⟩⟩
    unfold verd at h3
    rcases hr : repl k l with _ | _
    · rw [hr, if_neg (by simp)] at h3
      by_cases h100 : allW k < 20 * most l 100 (-1)
      · rw [if_pos h100] at h3; exact .inr (.inl h3.symm)
      · rw [if_neg h100] at h3
        exact .inr (.inr ⟨h3.symm, by rw [← h5]; exact good_left hk hm hr⟩)
    · rw [hr, if_pos rfl] at h3; exact .inl h3.symm
set_option maxRecDepth 100000 in
set_option maxHeartbeats 16000000 in
theorem lawDamages (code : List Int) (A : Option Addr) (n cap : Nat) (w : World) (hin : InBytes w A n code) :
    Calls Try.prog 3 #[.slice A n cap] w fun e w' => e = .returned (.bool true) ∧ Below w.heap.size w w' := by
  have kc0 : Codes w A n := ⟨code, hin⟩
  clear hin
  by_cases hn : 65536 < (n : Int)
  · go_enter Try.func3, Try.ntmps3
    go_wp2_with fail
    refine (vBig_c _ _ _ _).mono ?_
    rintro e w' ⟨rfl, rfl⟩
    go_wp2_with fail
    go_ret
    exact ⟨rfl, Below.refl _ _⟩
  go_enter Try.func3, Try.ntmps3
  go_wp2_with fail
  refine (vBig_c _ _ _ _).mono ?_
  rintro e w' ⟨rfl, rfl⟩
  go_wp2_with fail
  refine (drawAddDamage_c _ _ _ _ kc0).mono ?_
  rintro e wa ⟨k, g, c, l, d, rfl, hnk, hnw, hc, hl, oa, hba⟩
  have hl1 : l.length ≤ 1048576 := by omega
  have HNK := Lib.hid hnk
  have HNW := Lib.hid hnw
  have HXk := Lib.hid ((Box.new wa k.cells 25).alloc (.cells d.cells.toArray 28))
  have hxd := Box.new (wa.alloc (.cells k.cells.toArray 25)) d.cells 28
  rw [World.size_alloc] at hxd
  have HXd := Lib.hid hxd
  have hB1 : Below wa.heap.size wa ((wa.alloc (.cells k.cells.toArray 25)).alloc (.cells d.cells.toArray 28)) := ((Below.refl _ _).alloc (Nat.le_refl _) _).alloc (by simp) _
  have o1 := oa.carry hB1
  have kc1 := (kc0.carry hba).carry hB1
  have HB1 := Lib.hid (hba.trans (hB1.mono hba.size))
  have hfa := add_facts (k := k) (l := l) (d := d)
  have hal := addD_len (k := k) (l := l) (d := d)
  obtain ⟨⟨M, told⟩, hv⟩ : ∃ p, addD k l d = p := ⟨_, rfl⟩
  rw [hv] at hfa hal
  have HV := Lib.hid hv
  have HFA := Lib.hid (show told = true → M = putD l d ∧ goodD k l = true ∧ goodD k (putD l d) = true ∧ okDm k d = true from hfa)
  have hM1 : M.length ≤ 1048576 := Nat.le_trans (show M.length ≤ 15 from hal) (by omega)
  clear hv hfa hal hba oa hB1 hnk hnw hxd
  go_wp2_with fail
  refine (dp_of (implAddDamage_c k l d g 0 c _ hl1 (o1.rd fun _ => rfl)) HV.out).mono ?_
  rintro e wb ⟨B3, e3, rfl, pb, hbb⟩
  have ob := o1.carry hbb
  have kcb := kc1.carry hbb
  have HXkb := Lib.hid (HXk.out.carry hbb)
  have HXdb := Lib.hid (HXd.out.carry hbb)
  have k0 := HXkb.out.cell (j := 0) rfl
  have k1 := HXkb.out.cell (j := 1) rfl
  have k2 := HXkb.out.cell (j := 2) rfl
  have k3 := HXkb.out.cell (j := 3) rfl
  have k4 := HXkb.out.cell (j := 4) rfl
  have d0 := HXdb.out.cell (j := 0) rfl
  have d1 := HXdb.out.cell (j := 1) rfl
  have d2 := HXdb.out.cell (j := 2) rfl
  have lk := HXkb.out.lt
  have ld := HXdb.out.lt
  have HBb := Lib.hid (HB1.out.trans (hbb.mono HB1.out.size))
  clear hbb o1 kc1 HXk HXd HB1
  go_wp2_with fail
  refine (add_of (specAddDamage_c k l d g 0 c _ hl1 hc HNK.out.1 HNW.out (ob.rd fun _ => rfl)) HV.out).mono ?_
  rintro e wd ⟨g4, e4, rfl, qd, hbd⟩
  have od := ob.carry hbd
  have pd := pb.carry hbd
  have qd := (own_flat qd rfl rfl Dam.three : Own _ _ _ _ _ _ M)
  have kcd := kcb.carry hbd
  have HXkd := Lib.hid (HXkb.out.carry hbd)
  have HXdd := Lib.hid (HXdb.out.carry hbd)
  have HBd := Lib.hid (HBb.out.trans (hbd.mono HBb.out.size))
  clear hbd ob pb kcb HXkb HXdb HBb k0 k1 k2 k3 k4 d0 d1 d2 lk ld
  go_wp2_with fail
  refine (rDamages_same M _ _ _ _ _ hM1 (pd.rd fun _ => rfl) (qd.rd fun _ => rfl)).mono ?_
  rintro e we ⟨rfl, hbe⟩
  have oe := od.carry hbe
  have pe := pd.carry hbe
  have kce := kcd.carry hbe
  have HXke := Lib.hid (HXkd.out.carry hbe)
  have HXde := Lib.hid (HXdd.out.carry hbe)
  have HBe := Lib.hid (HBd.out.trans (hbe.mono HBd.out.size))
  clear hbe od pd qd kcd HXkd HXdd HBd
  go_upto_if 56 with fail
  go_cut [2] (fun s wx => s = .bool false ∧ Codes wx A n ∧ Below w.heap.size w wx)
  case first => as_aux_lemma =>
    rcases told with _ | _
    · go_wp2_with fail
      go_meet
      exact ⟨rfl, kce, HBe.out⟩
    · obtain ⟨m1, m2, m3, m4⟩ := HFA.out rfl
      obtain ⟨da, _, dw⟩ := okDm_true.1 m4
      have hwk := (okKd_true.1 (goodD_true m2).1).2.2.1
      obtain ⟨a, ha⟩ : ∃ a, brok l d.a 1 (-1) = a := ⟨_, rfl⟩
      have hab := brok_bd (f := d.a) (n := 1) (s := -1) (good_few m2).2 l.length (Nat.le_refl _)
      have hl15 := (good_few m2).1
      rw [show brokTo l d.a 1 (-1) l.length = a from ha] at hab
      have hbm : brok M d.a 1 (-1) = a + d.w := by rw [m1, brok_put, hit_self, if_pos rfl, ha]
      have M2 := Lib.hid m2
      have M3 := Lib.hid (show goodD k M = true by rw [m1]; exact m3)
      have HA := Lib.hid ha
      have HBM := Lib.hid hbm
      have e1 : IntKind.i64.wrap (a + d.w) = a + d.w := IntWalk.i64_in _ (by omega)
      have k0 := HXke.out.cell (j := 0) rfl
      have k1 := HXke.out.cell (j := 1) rfl
      have k2 := HXke.out.cell (j := 2) rfl
      have k3 := HXke.out.cell (j := 3) rfl
      have k4 := HXke.out.cell (j := 4) rfl
      have d0 := HXde.out.cell (j := 0) rfl
      have d1 := HXde.out.cell (j := 1) rfl
      have d2 := HXde.out.cell (j := 2) rfl
      have lk := HXke.out.lt
      have ld := HXde.out.lt
      clear m1 m2 m3 m4 ha hbm
      go_wp2_with fail
      refine (br_of (BrokenWires_c k l d.a 1 _ _ _ M2.out da (by omega) (oe.rd fun _ => rfl)) HA.out).mono ?_
      rintro e wf ⟨rfl, hbf⟩
      have pf := pe.carry hbf
      have kcf := kce.carry hbf
      have HXkf := Lib.hid (HXke.out.carry hbf)
      have HXdf := Lib.hid (HXde.out.carry hbf)
      have HBf := Lib.hid (HBe.out.trans (hbf.mono HBe.out.size))
      clear hbf oe pe kce k0 k1 k2 k3 k4 d0 d1 d2 lk ld
      have k0 := HXkf.out.cell (j := 0) rfl
      have k1 := HXkf.out.cell (j := 1) rfl
      have k2 := HXkf.out.cell (j := 2) rfl
      have k3 := HXkf.out.cell (j := 3) rfl
      have k4 := HXkf.out.cell (j := 4) rfl
      have d0 := HXdf.out.cell (j := 0) rfl
      have d1 := HXdf.out.cell (j := 1) rfl
      have d2 := HXdf.out.cell (j := 2) rfl
      have lk := HXkf.out.lt
      have ld := HXdf.out.lt
      go_wp2_with fail
      refine (br_of (BrokenWires_c k M d.a 1 _ _ _ M3.out da (by omega) (pf.rd fun _ => rfl)) HBM.out).mono ?_
      rintro e wg ⟨rfl, hbg⟩
      have pg := pf.carry hbg
      have kcg := kcf.carry hbg
      have HXkg := Lib.hid (HXkf.out.carry hbg)
      have HXdg := Lib.hid (HXdf.out.carry hbg)
      have HBg := Lib.hid (HBf.out.trans (hbg.mono HBf.out.size))
      clear hbg pf kcf k0 k1 k2 k3 k4 d0 d1 d2 lk ld
      have k0 := HXkg.out.cell (j := 0) rfl
      have k1 := HXkg.out.cell (j := 1) rfl
      have k2 := HXkg.out.cell (j := 2) rfl
      have k3 := HXkg.out.cell (j := 3) rfl
      have k4 := HXkg.out.cell (j := 4) rfl
      have d0 := HXdg.out.cell (j := 0) rfl
      have d1 := HXdg.out.cell (j := 1) rfl
      have d2 := HXdg.out.cell (j := 2) rfl
      have lk := HXkg.out.lt
      have ld := HXdg.out.lt
      go_wp2_with fail
      refine (bl_of (AreDamages_c k M _ _ _ hM1 (pg.rd fun _ => rfl)) M3.out).mono ?_
      rintro e wh ⟨rfl, hbh⟩
      have kch := kcg.carry hbh
      have HBh := Lib.hid (HBg.out.trans (hbh.mono HBg.out.size))
      go_wp2_with fail
      go_meet
      exact ⟨rfl, kch, HBh.out⟩
  case rest => as_aux_lemma =>
    obtain ⟨rfl, kf0, hbc⟩ := hcut
    have HBC := Lib.hid hbc
    clear hbc HV HFA HXke HXde HBe oe pe kce HNK HNW
    obtain ⟨w0, hw0⟩ : ∃ w0, w0 = wc := ⟨_, rfl⟩
    subst hw0
    go_wp2_with fail
    refine (drawRopeVerdict_c _ _ _ _ kf0).mono ?_
    rintro e wa ⟨k, g, c, l, rfl, hnk, hc, hl, oa, hba⟩
    have hl1 : l.length ≤ 1048576 := by omega
    have HNK := Lib.hid hnk
    have HX := Lib.hid (Box.new wa k.cells 25)
    have hB1 : Below wa.heap.size wa (wa.alloc (.cells k.cells.toArray 25)) := (Below.refl _ _).alloc (Nat.le_refl _) _
    have o1 := oa.carry hB1
    have kc1 := (kf0.carry hba).carry hB1
    have HB1 := Lib.hid ((HBC.out.trans (hba.mono HBC.out.size)).trans (hB1.mono (Nat.le_trans HBC.out.size hba.size)))
    have hvc := fun v t s b => verd_cases (k := k) (l := l) (v := v) (t := t) (s := s) (b := b)
    obtain ⟨⟨v, t⟩, hv⟩ : ∃ p, verdP k l = p := ⟨_, rfl⟩
    obtain ⟨⟨s, b⟩, hs⟩ : ∃ p, strP k l = p := ⟨_, rfl⟩
    obtain ⟨ht, rfl, hcs⟩ := hvc v t s b hv hs
    have HV := Lib.hid hv
    have HS := Lib.hid hs
    have HT := Lib.hid ht.symm
    have HCS := Lib.hid hcs
    clear hv hs hvc ht hcs hba oa hB1 hnk kf0
    go_wp2_with fail
    refine (sb_of (implRopeVerdict_c k l _ _ _ hl1 (o1.rd fun _ => rfl)) HV.out).mono ?_
    rintro e w2 ⟨rfl, hb2⟩
    have o2 := o1.carry hb2
    have kc2 := kc1.carry hb2
    have HX2 := Lib.hid (HX.out.carry hb2)
    have HB2 := Lib.hid (HB1.out.trans (hb2.mono HB1.out.size))
    clear hb2 o1 kc1 HB1 HX
    have k0 := HX2.out.cell (j := 0) rfl
    have k1 := HX2.out.cell (j := 1) rfl
    have k2 := HX2.out.cell (j := 2) rfl
    have k3 := HX2.out.cell (j := 3) rfl
    have k4 := HX2.out.cell (j := 4) rfl
    have lk := HX2.out.lt
    go_wp2_with fail
    refine (sb_of (specRopeVerdict_c k l _ _ _ hl1 HNK.out.1 (o2.rd fun _ => rfl)) HV.out).mono ?_
    rintro e w3 ⟨rfl, hb3⟩
    have o3 := o2.carry hb3
    have kc3 := kc2.carry hb3
    have HX3 := Lib.hid (HX2.out.carry hb3)
    have HB3 := Lib.hid (HB2.out.trans (hb3.mono HB2.out.size))
    clear hb3 o2 kc2 HB2 HX2
    clear k0 k1 k2 k3 k4 lk
    have k0 := HX3.out.cell (j := 0) rfl
    have k1 := HX3.out.cell (j := 1) rfl
    have k2 := HX3.out.cell (j := 2) rfl
    have k3 := HX3.out.cell (j := 3) rfl
    have k4 := HX3.out.cell (j := 4) rfl
    have lk := HX3.out.lt
    go_wp2_with fail
    refine (bl_of (AreDamages_c k l _ _ _ hl1 (o3.rd fun _ => rfl)) HT.out).mono ?_
    rintro e w4 ⟨rfl, hb4⟩
    have o4 := o3.carry hb4
    have kc4 := kc3.carry hb4
    have HX4 := Lib.hid (HX3.out.carry hb4)
    have HB4 := Lib.hid (HB3.out.trans (hb4.mono HB3.out.size))
    clear hb4 o3 kc3 HB3 HX3
    clear k0 k1 k2 k3 k4 lk
    have k0 := HX4.out.cell (j := 0) rfl
    have k1 := HX4.out.cell (j := 1) rfl
    have k2 := HX4.out.cell (j := 2) rfl
    have k3 := HX4.out.cell (j := 3) rfl
    have k4 := HX4.out.cell (j := 4) rfl
    have lk := HX4.out.lt
    go_wp2_with fail
    refine (ib_of (implStrengthLeft_c k l _ _ _ hl1 (o4.rd fun _ => rfl)) HS.out).mono ?_
    rintro e w5 ⟨rfl, hb5⟩
    have o5 := o4.carry hb5
    have kc5 := kc4.carry hb5
    have HX5 := Lib.hid (HX4.out.carry hb5)
    have HB5 := Lib.hid (HB4.out.trans (hb5.mono HB4.out.size))
    clear hb5 o4 kc4 HB4 HX4
    clear k0 k1 k2 k3 k4 lk
    have k0 := HX5.out.cell (j := 0) rfl
    have k1 := HX5.out.cell (j := 1) rfl
    have k2 := HX5.out.cell (j := 2) rfl
    have k3 := HX5.out.cell (j := 3) rfl
    have k4 := HX5.out.cell (j := 4) rfl
    have lk := HX5.out.lt
    go_wp2_with fail
    refine (ib_of (specStrengthLeft_c k l _ _ _ hl1 HNK.out.1 (o5.rd fun _ => rfl)) HS.out).mono ?_
    rintro e w6 ⟨rfl, hb6⟩
    have o6 := o5.carry hb6
    have kc6 := kc5.carry hb6
    have HX6 := Lib.hid (HX5.out.carry hb6)
    have HB6 := Lib.hid (HB5.out.trans (hb6.mono HB5.out.size))
    clear hb6 o5 kc5 HB5 HX5
    clear k0 k1 k2 k3 k4 lk
    have k0 := HX6.out.cell (j := 0) rfl
    have k1 := HX6.out.cell (j := 1) rfl
    have k2 := HX6.out.cell (j := 2) rfl
    have k3 := HX6.out.cell (j := 3) rfl
    have k4 := HX6.out.cell (j := 4) rfl
    have lk := HX6.out.lt
    rcases HCS.out with ⟨rfl, rfl⟩ | ⟨rfl, hk, ⟨s1, s2⟩, hv⟩
    ·
      clear HCS
      go_wp2_with fail
      refine (drawIsRopeKind_c _ _ _ _ kc6).mono ?_
      rintro e w7 ⟨u, rfl, _, hb7⟩
      have HXu := Lib.hid (Box.new w7 u.cells 25)
      have HB7 := Lib.hid (HB6.out.trans (hb7.mono HB6.out.size))
      have HB8 := Lib.hid (show Below w.heap.size w (w7.alloc (.cells u.cells.toArray 25)) from HB7.out.alloc HB7.out.size _)
      clear hb7 kc6 k0 k1 k2 k3 k4 lk
      go_wp2_with fail
      obtain ⟨w8, hw8⟩ : ∃ w8, w7.alloc (.cells u.cells.toArray 25) = w8 := ⟨_, rfl⟩
      have hw8' := hw8
      simp only [Kin.cells] at hw8'
      rw [hw8']
      rw [hw8] at HXu HB8
      clear hw8 hw8'
      have k0 := HXu.out.cell (j := 0) rfl
      have k1 := HXu.out.cell (j := 1) rfl
      have k2 := HXu.out.cell (j := 2) rfl
      have k3 := HXu.out.cell (j := 3) rfl
      have k4 := HXu.out.cell (j := 4) rfl
      have lk := HXu.out.lt
      refine wp_region_mem (by kernel_rfl) (by kernel_rfl) ?_
      repeat (go_big_quiet_step ((first | (go_at_call 17; exact mem_of (isRopeKind_c u _)) | (go_at_call 18; exact mem_of (specIsRopeKind_c u _)))))
      refine wpQuiet_nil ?_
      intro _ hw'
      obtain ⟨⟨wq, hbq⟩, hw''⟩ := hw'
      obtain rfl := hw''.symm
      obtain ⟨hcq, hfq, hzq⟩ := bcell hbq
      try simp [Nat.add_one_le_iff] at hzq
      go_wp2_with fail
      go_ret
      exact ⟨by simp, HB8.out.trans (hbq.mono HB8.out.size)⟩
    · have hsg := (okKd_true.1 hk).2.2.2.2
      have e1 : IntKind.i64.wrap (s + 1) = s + 1 := IntWalk.i64_in _ (by omega)
      have e2 : IntKind.i64.wrap (20 * (s + 1)) = 20 * (s + 1) := IntWalk.i64_in _ (by omega)
      have e3 : IntKind.i64.wrap (19 * k.sg) = 19 * k.sg := IntWalk.i64_in _ (by omega)
      have e4 : ¬ s < 0 := by omega
      have e5 : ¬ k.sg < s := by omega
      rcases hv with rfl | rfl | ⟨rfl, h19⟩
      ·
        clear HCS
        go_wp2_with fail
        refine (drawIsRopeKind_c _ _ _ _ kc6).mono ?_
        rintro e w7 ⟨u, rfl, _, hb7⟩
        have HXu := Lib.hid (Box.new w7 u.cells 25)
        have HB7 := Lib.hid (HB6.out.trans (hb7.mono HB6.out.size))
        have HB8 := Lib.hid (show Below w.heap.size w (w7.alloc (.cells u.cells.toArray 25)) from HB7.out.alloc HB7.out.size _)
        clear hb7 kc6 k0 k1 k2 k3 k4 lk
        go_wp2_with fail
        obtain ⟨w8, hw8⟩ : ∃ w8, w7.alloc (.cells u.cells.toArray 25) = w8 := ⟨_, rfl⟩
        have hw8' := hw8
        simp only [Kin.cells] at hw8'
        rw [hw8']
        rw [hw8] at HXu HB8
        clear hw8 hw8'
        have k0 := HXu.out.cell (j := 0) rfl
        have k1 := HXu.out.cell (j := 1) rfl
        have k2 := HXu.out.cell (j := 2) rfl
        have k3 := HXu.out.cell (j := 3) rfl
        have k4 := HXu.out.cell (j := 4) rfl
        have lk := HXu.out.lt
        refine wp_region_mem (by kernel_rfl) (by kernel_rfl) ?_
        repeat (go_big_quiet_step ((first | (go_at_call 17; exact mem_of (isRopeKind_c u _)) | (go_at_call 18; exact mem_of (specIsRopeKind_c u _)))))
        refine wpQuiet_nil ?_
        intro _ hw'
        obtain ⟨⟨wq, hbq⟩, hw''⟩ := hw'
        obtain rfl := hw''.symm
        obtain ⟨hcq, hfq, hzq⟩ := bcell hbq
        try simp [Nat.add_one_le_iff] at hzq
        go_wp2_with fail
        go_ret
        exact ⟨by simp, HB8.out.trans (hbq.mono HB8.out.size)⟩
      ·
        clear HCS
        go_wp2_with fail
        refine (drawIsRopeKind_c _ _ _ _ kc6).mono ?_
        rintro e w7 ⟨u, rfl, _, hb7⟩
        have HXu := Lib.hid (Box.new w7 u.cells 25)
        have HB7 := Lib.hid (HB6.out.trans (hb7.mono HB6.out.size))
        have HB8 := Lib.hid (show Below w.heap.size w (w7.alloc (.cells u.cells.toArray 25)) from HB7.out.alloc HB7.out.size _)
        clear hb7 kc6 k0 k1 k2 k3 k4 lk
        go_wp2_with fail
        obtain ⟨w8, hw8⟩ : ∃ w8, w7.alloc (.cells u.cells.toArray 25) = w8 := ⟨_, rfl⟩
        have hw8' := hw8
        simp only [Kin.cells] at hw8'
        rw [hw8']
        rw [hw8] at HXu HB8
        clear hw8 hw8'
        have k0 := HXu.out.cell (j := 0) rfl
        have k1 := HXu.out.cell (j := 1) rfl
        have k2 := HXu.out.cell (j := 2) rfl
        have k3 := HXu.out.cell (j := 3) rfl
        have k4 := HXu.out.cell (j := 4) rfl
        have lk := HXu.out.lt
        refine wp_region_mem (by kernel_rfl) (by kernel_rfl) ?_
        repeat (go_big_quiet_step ((first | (go_at_call 17; exact mem_of (isRopeKind_c u _)) | (go_at_call 18; exact mem_of (specIsRopeKind_c u _)))))
        refine wpQuiet_nil ?_
        intro _ hw'
        obtain ⟨⟨wq, hbq⟩, hw''⟩ := hw'
        obtain rfl := hw''.symm
        obtain ⟨hcq, hfq, hzq⟩ := bcell hbq
        try simp [Nat.add_one_le_iff] at hzq
        go_wp2_with fail
        go_ret
        exact ⟨by simp, HB8.out.trans (hbq.mono HB8.out.size)⟩
      · have e6 : ¬ 20 * (s + 1) < 19 * k.sg := by omega
        clear h19
        clear HCS
        go_wp2_with fail
        refine (drawIsRopeKind_c _ _ _ _ kc6).mono ?_
        rintro e w7 ⟨u, rfl, _, hb7⟩
        have HXu := Lib.hid (Box.new w7 u.cells 25)
        have HB7 := Lib.hid (HB6.out.trans (hb7.mono HB6.out.size))
        have HB8 := Lib.hid (show Below w.heap.size w (w7.alloc (.cells u.cells.toArray 25)) from HB7.out.alloc HB7.out.size _)
        clear hb7 kc6 k0 k1 k2 k3 k4 lk
        go_wp2_with fail
        obtain ⟨w8, hw8⟩ : ∃ w8, w7.alloc (.cells u.cells.toArray 25) = w8 := ⟨_, rfl⟩
        have hw8' := hw8
        simp only [Kin.cells] at hw8'
        rw [hw8']
        rw [hw8] at HXu HB8
        clear hw8 hw8'
        have k0 := HXu.out.cell (j := 0) rfl
        have k1 := HXu.out.cell (j := 1) rfl
        have k2 := HXu.out.cell (j := 2) rfl
        have k3 := HXu.out.cell (j := 3) rfl
        have k4 := HXu.out.cell (j := 4) rfl
        have lk := HXu.out.lt
        refine wp_region_mem (by kernel_rfl) (by kernel_rfl) ?_
        repeat (go_big_quiet_step ((first | (go_at_call 17; exact mem_of (isRopeKind_c u _)) | (go_at_call 18; exact mem_of (specIsRopeKind_c u _)))))
        refine wpQuiet_nil ?_
        intro _ hw'
        obtain ⟨⟨wq, hbq⟩, hw''⟩ := hw'
        obtain rfl := hw''.symm
        obtain ⟨hcq, hfq, hzq⟩ := bcell hbq
        try simp [Nat.add_one_le_iff] at hzq
        go_wp2_with fail
        go_ret
        exact ⟨by simp, HB8.out.trans (hbq.mono HB8.out.size)⟩
namespace fnDamages
set_option linter.unusedVariables false
theorem own : ownKnob Try.prog.godebug = none := by kernel_rfl
theorem laidOut : laidOutB Try.prog = true := by kernel_rfl
set_option maxRecDepth 100000 in
theorem lifted (os : Os) (started : os.Started) (H : Type) (enc : TypeId × Value → H) :
    ReturnsInHanded {} Try.checked os 3 .any (Rows.fnDamagesSpec.pre6 enc Try.prog Try.f3 Rows.fnDamagesRow.domain false) (Rows.fnDamagesSpec.post enc Try.prog Try.f3 false true false false) := by
  refine returnsInHanded_of_change (C := Try.checked) own started (by kernel_rfl) Try.func3
    (ChangeSpec.witness6 (enc := enc) (C := Try.checked) false ⟨#[], #[.slice none 0 0], []⟩ 8 (by kernel_rfl) (by kernel_rfl) (by kernel_rfl) (by kernel_rfl)) ?_
  intro W base args ds gs before hval0 hW hcnd _
  have hval : ∀ (j : Nat) t v, Try.f3.params[j]? = some t → args[j]? = some v → Value.okWide Try.prog W .any base t v := hval0
  have hW' := hW
  obtain ⟨p, q, hA0, hV, rfl, hfz, hnd⟩ := hW
  have hA : DataW.TrodAll enc Try.prog W 0 (fun _ => true) true Try.f3.params.toList args.toList ds p := hA0
  rw [Try.params3] at hA hval
  obtain ⟨v0, vs0, d0, ds0, p0, q0, hargs, rfl, rfl, h0, r0⟩ := trodAll_cons hA
  obtain ⟨rfl, rfl, rfl⟩ := trodAll_nil r0
  obtain rfl : args = #[v0] := by cases args; simp_all
  obtain ⟨rfl, rfl⟩ := trodVars_none hV
  have k0 := h0
  have lt0 : ∀ x ∈ p0, x.block < W.heap.size := by obtain ⟨m, hm⟩ := k0; exact DataW.trod_lt m _ _ _ hm
  obtain ⟨a0, len0, cap0, rfl⟩ := okWide_slice Try.underlying22 (hval 0 22 v0 rfl rfl)
  obtain ⟨code, w0⟩ := open_byteS Try.underlying22 Try.underlying5 (by kernel_rfl) h0
  clear hA0 hval0
  refine (lawDamages code a0 len0 cap0 W w0).mono fun e W' ⟨he, bel⟩ => ?_
  subst he
  exact ⟨_, rfl, _, _, _, [], _, [], hW', trodAll_mk1 (shut_bool Try.underlying4 _), (trodAll_cons_mk (Below.trod laidOut (by kernel_rfl) (of_decide_eq_true (by kernel_rfl)) k0 bel lt0) trodAll_mk0), rfl, bel.frame _, fun h => by cases h⟩
theorem over : Rows.fnDamagesRow.holds Try.pinned (OpenSpec.ofChange Rows.fnDamagesSpec) :=
  OpenClaim.holds_of_wide 3 Try.f3 rfl rfl rfl rfl rfl rfl rfl ⟨rfl, rfl, rfl, rfl, rfl⟩ rfl rfl rfl rfl rfl (by kernel_rfl) Try.func3 (by kernel_rfl)
    (of_decide_eq_true (by kernel_rfl)) (by unfold Func.isWrapper; first | (rw [if_pos (by decide +kernel)]; kernel_rfl) | (rw [if_neg (by decide +kernel)]; exact ⟨rfl, rfl⟩))
    (fun os started H enc _ => lifted os started H enc)
/-- The given statement. -/
theorem proved : Rows.FnDamagesSaid := over
#print axioms proved
end fnDamages
end Go.Proofs.Ytlgpgcfncmomiaa
