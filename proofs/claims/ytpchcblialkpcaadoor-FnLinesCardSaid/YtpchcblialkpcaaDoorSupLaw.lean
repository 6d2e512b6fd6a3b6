/- FnLines returns true for all codes: a line that is reversed twice is as before, and lines are recovered from their texts; the listed variables being as the library's text lays them. -/
import Derived.Test.YtpchcblialkpcaaDoorSupDraw
import Derived.Test.YtpchcblialkpcaaDoorSupShow
import Derived.Test.YtpchcblialkpcaaDoorSupParI
import Derived.Test.YtpchcblialkpcaaDoorSupParS
import Derived.Test.YtpchcblialkpcaaDoorPairs
import Derived.Deep.DeepCutAuto
namespace Go.Proofs.YtpchcblialkpcaaDoor
open Go.RowKit

section
variable {f : FuncId} {args : Array Value} {W : World}
theorem sp_of {p : List Sup × Bool} {L : List Sup} {b : Bool} (h : Calls Tryd.prog f args W (SupPost p W)) (hp : p = (L, b)) :
    Calls Tryd.prog f args W fun e w' => ∃ A cap, e = .returned (.tuple #[.slice A L.length cap, .bool b]) ∧ Own w' W.heap.size 33 3 Sup.cells A L ∧ Below W.heap.size W w' := by subst hp; exact h
theorem cl_of {p : (Int × Int) × Bool} {u d : Int} {b : Bool} (h : Calls Tryd.prog f args W fun e w' => e = .returned (.tuple #[.int .i64 p.1.1, .int .i64 p.1.2, .bool p.2]) ∧ Below W.heap.size W w') (hp : p = ((u, d), b)) :
    Calls Tryd.prog f args W fun e w' => e = .returned (.tuple #[.int .i64 u, .int .i64 d, .bool b]) ∧ Below W.heap.size W w' := by subst hp; exact h
theorem pi_of {s : List UInt8} (h : Calls Tryd.prog f args W (ParseP s W)) : Calls Tryd.prog f args W fun e w' => ∃ L b A cap, Parsed s (L, b) ∧ e = .returned (.tuple #[.slice A L.length cap, .bool b]) ∧ Own w' W.heap.size 33 3 Sup.cells A L ∧ Below W.heap.size W w' :=
  h.mono fun _ _ ⟨⟨L, b⟩, hp, A, cap, he, ho, hb⟩ => ⟨L, b, A, cap, hp, he, ho, hb⟩
theorem ps_of {s : List UInt8} (h : Calls Tryd.prog f args W (ParseQ s W)) : Calls Tryd.prog f args W fun e w' => ∃ L b A cap, Parsed s (L, b) ∧ e = .returned (.tuple #[.slice A L.length cap, .bool b]) ∧ Own w' W.heap.size 33 3 Sup.cells A L ∧ Below W.heap.size W w' :=
  h.mono fun _ _ ⟨⟨L, b⟩, hp, A, cap, he, ho, hb⟩ => ⟨L, b, A, cap, hp, he, ho, hb⟩
theorem lt_of {p : ByteArray × Bool} {s : ByteArray} {b : Bool} (h : Calls Tryd.prog f args W (LineTP p W)) (hp : p = (s, b)) :
    Calls Tryd.prog f args W fun e w' => e = .returned (.tuple #[.string s, .bool b]) ∧ Below W.heap.size W w' := by subst hp; exact h
end
/-- What lies where the library's text lays it. -/
structure Laid (w : World) : Prop where
  tab : Tab w
  err : Err w
  max : MaxL w
theorem Laid.carry {w w' : World} (h : Laid w) (hb : Below w.heap.size w w') : Laid w' := ⟨h.tab.carry hb, h.err.carry hb, h.max.carry hb⟩
theorem rev_told {l R : List Sup} {b : Bool} (h : revU l = (R, b)) : goodU l = b ∧ R.length ≤ l.length := by
  unfold revU at h
  split at h
  · next c => simp only [Prod.mk.injEq] at h; rw [← h.1, ← h.2]; exact ⟨c, by simp⟩
  · next c => simp only [Prod.mk.injEq] at h; rw [← h.1, ← h.2]; exact ⟨by simpa using c, by simp⟩
theorem climb_told {l : List Sup} {b : Bool} (h : goodU l = b) : climbU l = (((climbU l).1.1, (climbU l).1.2), b) := by
  unfold climbU
  rw [h]; cases b <;> rfl
theorem climb_small {l : List Sup} : 0 ≤ (climbU l).1.1 ∧ (climbU l).1.1 ≤ 16000 ∧ 0 ≤ (climbU l).1.2 ∧ (climbU l).1.2 ≤ 16000 := by
  unfold climbU
  split
  · next c =>
    obtain ⟨_, h2, _, _, _, h6, _⟩ := goodU_true c
    have := climb_bd h6 l.length (Nat.le_refl _)
    simp only
    omega
  · simp
theorem lineP_told {l : List Sup} {s : ByteArray} {b : Bool} (h : lineP l = (s, b)) : (b = true → goodU l = true ∧ s = S (lineL l)) ∧ s.size ≤ 1000 := by
  unfold lineP at h
  split at h
  · next c =>
    simp only [Prod.mk.injEq] at h
    refine ⟨fun _ => ⟨c, h.1.symm⟩, ?_⟩
    obtain ⟨_, h2, _, _, _, h6, _⟩ := goodU_true c
    have := line_len h6
    rw [← h.1, S_size]; omega
  · simp only [Prod.mk.injEq] at h
    refine ⟨fun e => (by rw [← h.2] at e; cases e), ?_⟩
    rw [← h.1]; decide
theorem lineP_good {l : List Sup} (h : goodU l = true) : lineP l = (S (lineL l), true) := by unfold lineP; rw [h]; rfl
theorem parsed_len {s : List UInt8} {p : List Sup × Bool} (h : Parsed s p) : p.1.length ≤ 8 := by
  rcases h with ⟨h1, _⟩ | ⟨h1, _⟩
  · exact (goodU_true h1).2.1
  · rw [h1]; simp
set_option maxRecDepth 100000 in
set_option maxHeartbeats 32000000 in
theorem lawLines (code : List Int) (A : Option Addr) (n cap : Nat) (w : World) (hin : InBytes w A n code) (hlaid : Laid w) :
    Calls Tryd.prog 3 #[.slice A n cap] w fun e w' => e = .returned (.bool true) ∧ Below w.heap.size w w' := by
  have HK0 := Lib.hid (show Codes w A n from ⟨code, hin⟩)
  have HL0 := Lib.hid hlaid
  have HB0 := Lib.hid (Below.refl w.heap.size w)
  clear hin hlaid
  by_cases hn : 65536 < (n : Int)
  · go_enter Tryd.func3, Tryd.ntmps3
    go_wp2_with fail
    refine (vBig_c _ _ _ _).mono ?_
    rintro e w' ⟨rfl, rfl⟩
    go_wp2_with fail
    go_ret
    exact ⟨rfl, Below.refl _ _⟩
  go_enter Tryd.func3, Tryd.ntmps3
  go_wp2_with fail
  refine (vBig_c _ _ _ _).mono ?_
  rintro e w' ⟨rfl, rfl⟩
  go_wp2_with fail
  refine (drawReverseLine_c _ _ _ _ HK0.out).mono ?_
  rintro e w1 ⟨g, c, l, rfl, hl, ho1, hb1⟩
  have HL1 := Lib.hid (HL0.out.carry hb1)
  have HK1 := Lib.hid (HK0.out.carry hb1)
  have HB1 := Lib.hid (HB0.out.trans (hb1.mono HB0.out.size))
  clear HL0 HK0 HB0
  have HO1 := Lib.hid ho1
  have hl1 : l.length ≤ 1048576 := by omega
  obtain ⟨⟨R, ok⟩, hR⟩ : ∃ q, revU l = q := ⟨_, rfl⟩
  obtain ⟨hok, hRl⟩ := rev_told hR
  have hR1 : R.length ≤ 1048576 := by omega
  have HRV := Lib.hid hR
  have HOK := Lib.hid hok
  have hcl := climb_told hok
  obtain ⟨u1, u2, d1, d2⟩ := climb_small (l := l)
  obtain ⟨u, hu⟩ : ∃ u, (climbU l).1.1 = u := ⟨_, rfl⟩
  obtain ⟨d, hd⟩ : ∃ d, (climbU l).1.2 = d := ⟨_, rfl⟩
  rw [hu, hd] at hcl
  rw [hu] at u1 u2
  rw [hd] at d1 d2
  have HCL := Lib.hid hcl
  clear hb1 ho1 hR hok hRl hcl hu hd
  go_wp2_with fail
  refine (sp_of (implReverse_c l _ _ _ hl1 (HO1.out.rd fun _ => rfl)) HRV.out).mono ?_
  rintro e w2 ⟨B1, e1, rfl, p2, hb2⟩
  have HL2 := Lib.hid (HL1.out.carry hb2)
  have HK2 := Lib.hid (HK1.out.carry hb2)
  have HB2 := Lib.hid (HB1.out.trans (hb2.mono HB1.out.size))
  clear HL1 HK1 HB1
  have HO2 := Lib.hid (HO1.out.carry hb2)
  have HP2 := Lib.hid p2
  clear hb2 p2 HO1
  go_wp2_with fail
  refine (sp_of (specReverse_c l _ _ _ hl1 (HO2.out.rd fun _ => rfl)) HRV.out).mono ?_
  rintro e w3 ⟨B2, e2, rfl, q3, hb3⟩
  have HL3 := Lib.hid (HL2.out.carry hb3)
  have HK3 := Lib.hid (HK2.out.carry hb3)
  have HB3 := Lib.hid (HB2.out.trans (hb3.mono HB2.out.size))
  clear HL2 HK2 HB2
  have HO3 := Lib.hid (HO2.out.carry hb3)
  have HP3 := Lib.hid (HP2.out.carry hb3)
  have HQ3 := Lib.hid q3
  clear hb3 q3 HO2 HP2
  go_wp2_with fail
  refine (vLine_same R _ _ _ _ _ hR1 (HP3.out.rd fun _ => rfl) (HQ3.out.rd fun _ => rfl)).mono ?_
  rintro e w4 ⟨rfl, hb4⟩
  have HL4 := Lib.hid (HL3.out.carry hb4)
  have HK4 := Lib.hid (HK3.out.carry hb4)
  have HB4 := Lib.hid (HB3.out.trans (hb4.mono HB3.out.size))
  clear HL3 HK3 HB3
  have HO4 := Lib.hid (HO3.out.carry hb4)
  have HP4 := Lib.hid (HP3.out.carry hb4)
  clear hb4 HO3 HP3 HQ3
  go_wp2_with fail
  refine (b_of (IsLine_c l _ _ _ hl1 (HO4.out.rd fun _ => rfl)) HOK.out).mono ?_
  rintro e w5 ⟨rfl, hb5⟩
  have HL5 := Lib.hid (HL4.out.carry hb5)
  have HK5 := Lib.hid (HK4.out.carry hb5)
  have HB5 := Lib.hid (HB4.out.trans (hb5.mono HB4.out.size))
  clear HL4 HK4 HB4
  have HO5 := Lib.hid (HO4.out.carry hb5)
  have HP5 := Lib.hid (HP4.out.carry hb5)
  clear hb5 HO4 HP4
  go_wp2_with fail
  refine (cl_of (implClimbOf_c l _ _ _ hl1 (HO5.out.rd fun _ => rfl)) HCL.out).mono ?_
  rintro e w6 ⟨rfl, hb6⟩
  have HL6 := Lib.hid (HL5.out.carry hb6)
  have HK6 := Lib.hid (HK5.out.carry hb6)
  have HB6 := Lib.hid (HB5.out.trans (hb6.mono HB5.out.size))
  clear HL5 HK5 HB5
  have HO6 := Lib.hid (HO5.out.carry hb6)
  have HP6 := Lib.hid (HP5.out.carry hb6)
  clear hb6 HO5 HP5
  go_wp2_with fail
  refine (cl_of (specClimbOf_c l _ _ _ hl1 (HO6.out.rd fun _ => rfl)) HCL.out).mono ?_
  rintro e w7 ⟨rfl, hb7⟩
  have HL7 := Lib.hid (HL6.out.carry hb7)
  have HK7 := Lib.hid (HK6.out.carry hb7)
  have HB7 := Lib.hid (HB6.out.trans (hb7.mono HB6.out.size))
  clear HL6 HK6 HB6
  have HO7 := Lib.hid (HO6.out.carry hb7)
  have HP7 := Lib.hid (HP6.out.carry hb7)
  clear hb7 HO6 HP6
  go_upto_if 92 with fail
  go_cut [2] (fun s wx => s = .bool false ∧ Laid wx ∧ Codes wx A n ∧ Below w.heap.size w wx)
  case first => as_aux_lemma =>
    rcases ok with _ | _
    · go_wp2_with fail
      go_meet
      exact ⟨rfl, HL7.out, HK7.out, HB7.out⟩
    · obtain ⟨k1, _⟩ := rev_rev HOK.out
      obtain ⟨k3, k4⟩ := climb_law HOK.out
      rw [HRV.out] at k1 k3
      rw [HCL.out] at k3 k4
      simp only at k1 k3 k4
      have HRR := Lib.hid k1
      have HCR := Lib.hid k3
      obtain ⟨g1, g2, _, _, _, g6, _⟩ := goodU_true HOK.out
      have G6 := Lib.hid g6
      clear k1 k3 g6
      go_wp2_with fail
      refine (sp_of (implReverse_c R _ _ _ hR1 (HP7.out.rd fun _ => rfl)) HRR.out).mono ?_
      rintro e w8 ⟨B3, e3, rfl, r8, hb8⟩
      have HL8 := Lib.hid (HL7.out.carry hb8)
      have HK8 := Lib.hid (HK7.out.carry hb8)
      have HB8 := Lib.hid (HB7.out.trans (hb8.mono HB7.out.size))
      clear HL7 HK7 HB7
      have HO8 := Lib.hid (HO7.out.carry hb8)
      have HP8 := Lib.hid (HP7.out.carry hb8)
      have HR8 := Lib.hid r8
      clear hb8 r8 HO7 HP7
      go_wp2_with fail
      refine (cl_of (implClimbOf_c R _ _ _ hR1 (HP8.out.rd fun _ => rfl)) HCR.out).mono ?_
      rintro e w9 ⟨rfl, hb9⟩
      have HL9 := Lib.hid (HL8.out.carry hb9)
      have HK9 := Lib.hid (HK8.out.carry hb9)
      have HB9 := Lib.hid (HB8.out.trans (hb9.mono HB8.out.size))
      clear HL8 HK8 HB8
      have HO9 := Lib.hid ((HO8.out.carry hb9).rd fun _ => rfl)
      have HR9 := Lib.hid ((HR8.out.carry hb9).rd fun _ => rfl)
      clear hb9 HO8 HP8 HR8
      obtain ⟨m, hm⟩ : ∃ m, l.length = m + 1 := ⟨l.length - 1, by omega⟩
      obtain ⟨b', off', he, hb', _, c1, _⟩ := Sup.rd HO9.out (show 0 < l.length by omega)
      obtain ⟨b'', off'', he', _, _, d1', _⟩ := Sup.rd HO9.out (show m < l.length by omega)
      simp only [Option.some.injEq, Addr.mk.injEq, and_true] at he he'
      obtain ⟨rfl, rfl⟩ := he
      obtain ⟨rfl, rfl⟩ := he'
      simp only [Nat.zero_mul, Nat.add_zero, Nat.zero_add] at c1 d1'
      have hend : endU l = nth l m := by unfold endU; rw [show l.length - 1 = m by omega]
      rw [hend] at k4
      obtain ⟨_, q1, q2⟩ := okU_true.1 (G6.out 0 (by omega))
      obtain ⟨_, r1, r2⟩ := okU_true.1 (G6.out m (by omega))
      obtain ⟨x, hx⟩ : ∃ x, (nth l 0).h = x := ⟨_, rfl⟩
      obtain ⟨y, hy⟩ : ∃ y, (nth l m).h = y := ⟨_, rfl⟩
      rw [hx] at c1 q1 q2 k4
      rw [hy] at d1' r1 r2 k4
      obtain ⟨D, hD⟩ : ∃ D, u - d = D := ⟨_, rfl⟩
      have a1 : IntKind.i64.wrap (u - d) = D := by rw [← hD]; exact IntWalk.i64_in _ (by omega)
      have a2 : IntKind.i64.wrap (y - x) = D := by rw [← k4, hD] ; rw [← hD]; exact IntWalk.i64_in _ (by omega)
      have a3 : IntKind.i64.wrap ((l.length : Int) - 1) = (m : Int) := by rw [show (l.length : Int) - 1 = m by omega]; exact IntWalk.i64_in _ (by omega)
      have i1 : (m : Int) < l.length := by omega
      have i2 : (0 : Int) < l.length := by omega
      have i3 : (0 : Int) ≤ (m : Int) := by omega
      have HVS := Lib.hid (fun W (hW : Below w9.heap.size w9 W) => vLine_same l B3 (some ⟨g, 0, none⟩) e3 c W hl1 (HR9.out.carry hW) (HO9.out.carry hW))
      clear hm hend hx hy hD k4 g1 g2
      go_wp2_with fail
      refine wp_region_mem (by kernel_rfl) (by kernel_rfl) ?_
      repeat (go_big_quiet_step ((go_at_call 8; with_reducible exact mem_of (HVS.out _ (WIn.ok _)))))
      refine wpQuiet_nil ?_
      intro _ hw'
      obtain ⟨⟨wq, hbq⟩, hw''⟩ := hw'
      obtain rfl := hw''.symm
      obtain ⟨hcq, hfq, hzq⟩ := bcell hbq
      try simp [Nat.add_one_le_iff] at hzq
      have HE := Lib.hid (And.intro (HL9.out.carry hbq) (And.intro (HK9.out.carry hbq) (HB9.out.trans (hbq.mono HB9.out.size))))
      clear hcq hfq
      go_wp2_with fail
      go_meet
      exact ⟨rfl, HE.out.1, HE.out.2.1, HE.out.2.2⟩
  case rest => as_aux_lemma =>
    obtain ⟨rfl, hL, hK, hB⟩ := hcut
    have HL0 := Lib.hid hL
    have HK0 := Lib.hid hK
    have HB0 := Lib.hid hB
    clear hL hK hB HL7 HK7 HB7 HO7 HP7 HRV HOK HCL u1 u2 d1 d2 hl hl1 hR1
    obtain ⟨w0, hw0⟩ : ∃ w0, w0 = wc := ⟨_, rfl⟩
    subst hw0
    go_wp2_with fail
    refine (drawLineText_c _ _ _ _ HK0.out).mono ?_
    rintro e w1 ⟨g, c, z, rfl, hl, ho1, hb1⟩
    have HL1 := Lib.hid (HL0.out.carry hb1)
    have HK1 := Lib.hid (HK0.out.carry hb1)
    have HB1 := Lib.hid (HB0.out.trans (hb1.mono HB0.out.size))
    clear HL0 HK0 HB0
    have HO1 := Lib.hid ho1
    have hl1 : z.length ≤ 1048576 := by omega
    obtain ⟨⟨t, sh⟩, ht⟩ : ∃ q, lineP z = q := ⟨_, rfl⟩
    obtain ⟨hsh, hts⟩ := lineP_told ht
    have HTP := Lib.hid ht
    have HSH := Lib.hid hsh
    clear hb1 ho1 ht hsh
    go_wp2_with fail
    refine (lt_of (implShow_c z _ _ _ hl1 (HO1.out.rd fun _ => rfl) HL1.out.tab) HTP.out).mono ?_
    rintro e w2 ⟨rfl, hb2⟩
    have HL2 := Lib.hid (HL1.out.carry hb2)
    have HK2 := Lib.hid (HK1.out.carry hb2)
    have HB2 := Lib.hid (HB1.out.trans (hb2.mono HB1.out.size))
    clear HL1 HK1 HB1
    have HO2 := Lib.hid (HO1.out.carry hb2)
    clear hb2 HO1
    go_wp2_with fail
    refine (pi_of (implParseLine_c t _ (by omega) HL2.out.tab HL2.out.err HL2.out.max)).mono ?_
    rintro e w3 ⟨rd, one, B1, e1, hpar, rfl, p3, hb3⟩
    have HL3 := Lib.hid (HL2.out.carry hb3)
    have HK3 := Lib.hid (HK2.out.carry hb3)
    have HB3 := Lib.hid (HB2.out.trans (hb3.mono HB2.out.size))
    clear HL2 HK2 HB2
    have HO3 := Lib.hid (HO2.out.carry hb3)
    have HP3 := Lib.hid p3
    have HPA := Lib.hid hpar
    clear hb3 HO2 p3 hpar
    go_wp2_with fail
    refine (lt_of (specShow_c z _ _ _ hl1 (HO3.out.rd fun _ => rfl)) HTP.out).mono ?_
    rintro e w4 ⟨rfl, hb4⟩
    have HL4 := Lib.hid (HL3.out.carry hb4)
    have HK4 := Lib.hid (HK3.out.carry hb4)
    have HB4 := Lib.hid (HB3.out.trans (hb4.mono HB3.out.size))
    clear HL3 HK3 HB3
    have HO4 := Lib.hid (HO3.out.carry hb4)
    have HP4 := Lib.hid (HP3.out.carry hb4)
    clear hb4 HO3 HP3
    go_upto_region 21 with fail
    go_cut [181] (fun s wx => s = .bool false ∧ Laid wx ∧ Codes wx A n ∧ Below w.heap.size w wx)
    case first => as_aux_lemma =>
      rcases sh with _ | _
      · go_wp2_with fail
        go_meet
        exact ⟨rfl, HL4.out, HK4.out, HB4.out⟩
      · obtain ⟨hg, htz⟩ := HSH.out rfl
        have hpe := HPA.out.same (Fits.yes (s := t.data.toList) hg (by rw [htz, S_data]))
        simp only [Prod.mk.injEq] at hpe
        obtain ⟨rfl, rfl⟩ := hpe
        clear hg htz
        go_wp2_with fail
        refine (vLine_same rd _ _ _ _ _ hl1 (HP4.out.rd fun _ => rfl) (HO4.out.rd fun _ => rfl)).mono ?_
        rintro e w5 ⟨rfl, hb5⟩
        have HL5 := Lib.hid (HL4.out.carry hb5)
        have HK5 := Lib.hid (HK4.out.carry hb5)
        have HB5 := Lib.hid (HB4.out.trans (hb5.mono HB4.out.size))
        clear HL4 HK4 HB4
        clear hb5
        go_wp2_with fail
        go_meet
        exact ⟨rfl, HL5.out, HK5.out, HB5.out⟩
    case rest => as_aux_lemma =>
      obtain ⟨rfl, hL, hK, hB⟩ := hcut
      have HL0 := Lib.hid hL
      have HK0 := Lib.hid hK
      have HB0 := Lib.hid hB
      clear hL hK hB HL4 HK4 HB4 HO4 HP4 HPA HTP HSH hl hl1 hts
      obtain ⟨w9, hw9⟩ : ∃ w9, w9 = wc := ⟨_, rfl⟩
      subst hw9
      go_wp2_with fail
      refine (drawParseLine_c _ _ _ _ HK0.out).mono ?_
      rintro e w1 ⟨s, rfl, hss, hb1⟩
      have HL1 := Lib.hid (HL0.out.carry hb1)
      have HK1 := Lib.hid (HK0.out.carry hb1)
      have HB1 := Lib.hid (HB0.out.trans (hb1.mono HB0.out.size))
      clear HL0 HK0 HB0
      clear hb1
      go_wp2_with fail
      refine (pi_of (implParseLine_c s _ (by omega) HL1.out.tab HL1.out.err HL1.out.max)).mono ?_
      rintro e w2 ⟨P, fine, B1, e1, hpar, rfl, p2, hb2⟩
      have HL2 := Lib.hid (HL1.out.carry hb2)
      have HK2 := Lib.hid (HK1.out.carry hb2)
      have HB2 := Lib.hid (HB1.out.trans (hb2.mono HB1.out.size))
      clear HL1 HK1 HB1
      have HP2 := Lib.hid p2
      have HPA := Lib.hid hpar
      have hP8 := parsed_len hpar
      have hP1 : P.length ≤ 1048576 := Nat.le_trans hP8 (by decide)
      obtain ⟨⟨t, two⟩, ht⟩ : ∃ q, lineP P = q := ⟨_, rfl⟩
      have HTP := Lib.hid ht
      clear hb2 p2 hpar ht hP8
      go_wp2_with fail
      refine (lt_of (implShow_c P _ _ _ hP1 (HP2.out.rd fun _ => rfl) HL2.out.tab) HTP.out).mono ?_
      rintro e w3 ⟨rfl, hb3⟩
      have HL3 := Lib.hid (HL2.out.carry hb3)
      have HK3 := Lib.hid (HK2.out.carry hb3)
      have HB3 := Lib.hid (HB2.out.trans (hb3.mono HB2.out.size))
      clear HL2 HK2 HB2
      have HP3 := Lib.hid (HP2.out.carry hb3)
      clear hb3 HP2
      go_wp2_with fail
      refine (ps_of (specParseLine_c s _ (by omega))).mono ?_
      rintro e w4 ⟨Q, wants, B2, e2, hpar2, rfl, q4, hb4⟩
      have hpe := hpar2.same HPA.out
      simp only [Prod.mk.injEq] at hpe
      obtain ⟨rfl, rfl⟩ := hpe
      have HL4 := Lib.hid (HL3.out.carry hb4)
      have HK4 := Lib.hid (HK3.out.carry hb4)
      have HB4 := Lib.hid (HB3.out.trans (hb4.mono HB3.out.size))
      clear HL3 HK3 HB3
      have HP4 := Lib.hid (HP3.out.carry hb4)
      have HQ4 := Lib.hid q4
      clear hb4 HP3 q4 hpar2
      rcases wants with _ | _
      · go_wp2_with fail
        refine (vLine_same Q _ _ _ _ _ hP1 (HP4.out.rd fun _ => rfl) (HQ4.out.rd fun _ => rfl)).mono ?_
        rintro e w5 ⟨rfl, hb5⟩
        have HL5 := Lib.hid (HL4.out.carry hb5)
        have HK5 := Lib.hid (HK4.out.carry hb5)
        have HB5 := Lib.hid (HB4.out.trans (hb5.mono HB4.out.size))
        clear HL4 HK4 HB4
        clear hb5
        go_wp2_with fail
        go_ret
        exact ⟨rfl, HB5.out⟩
      · have htt : t = s ∧ two = true := by
          rcases HPA.out with ⟨g1, g2, _⟩ | ⟨h1, _⟩
          · have h3 := HTP.out
            rw [lineP_good g1] at h3
            simp only [Prod.mk.injEq] at h3
            refine ⟨?_, h3.2.symm⟩
            rw [← h3.1]
            have g2' : lineL Q = s.data.toList := g2
            rw [g2']; exact (S_of s).symm
          · simp at h1
        obtain ⟨rfl, rfl⟩ := htt
        go_wp2_with fail
        refine (vLine_same Q _ _ _ _ _ hP1 (HP4.out.rd fun _ => rfl) (HQ4.out.rd fun _ => rfl)).mono ?_
        rintro e w5 ⟨rfl, hb5⟩
        have HL5 := Lib.hid (HL4.out.carry hb5)
        have HK5 := Lib.hid (HK4.out.carry hb5)
        have HB5 := Lib.hid (HB4.out.trans (hb5.mono HB4.out.size))
        clear HL4 HK4 HB4
        clear hb5
        go_wp2_with fail
        go_ret
        exact ⟨rfl, HB5.out⟩
end Go.Proofs.YtpchcblialkpcaaDoor
