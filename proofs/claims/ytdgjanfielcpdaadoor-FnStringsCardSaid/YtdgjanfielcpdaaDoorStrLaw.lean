/- FnStrings returns true for all codes: FormatInt and ParseInt are inverse, AppendChecksum and VerifyChecksum are inverse, any byte that is changed is detected; the listed variables being as the library's text lays them: the given card. -/
import Derived.Test.YtdgjanfielcpdaaDoorStrLaw0
namespace Go.Proofs.YtdgjanfielcpdaaDoor
open Go.RowKit

section
variable {f : FuncId} {args : Array Value} {W : World} {p : List UInt8 × Bool} {q : Int × Bool} {l : List UInt8} {F : ByteArray} {b : Bool} {v : Int}
theorem sp_of (h : Calls Tryd.prog f args W (StrP p W)) (hp : p = (l, b)) (hF : S l = F) : Calls Tryd.prog f args W fun e w' => e = .returned (.tuple #[.string F, .bool b]) ∧ Below W.heap.size W w' := by subst hp hF; exact h
theorem ip_of (h : Calls Tryd.prog f args W (IntP q W)) (hp : q = (v, b)) : Calls Tryd.prog f args W fun e w' => e = .returned (.tuple #[.int .i64 v, .bool b]) ∧ Below W.heap.size W w' := by subst hp; exact h
end
theorem in_carry {w w' : World} {A : Option Addr} {n : Nat} {l : List Int} (h : InBytes w A n l) (hb : Below w.heap.size w w') : InBytes w' A n l := ⟨h.1, h.2.1, h.2.2.1.carry hb, h.2.2.2⟩
/-- What lies where the library's text lays it. -/
structure Laid (w : World) : Prop where
  tab : Tab w
  err : Err w
  max : MaxL w
theorem Laid.carry {w w' : World} (h : Laid w) (hb : Below w.heap.size w w') : Laid w' := ⟨h.tab.carry hb, h.err.carry hb, h.max.carry hb⟩
theorem format_back {x : Int} {l : List UInt8} (h : formatP x = (l, true)) : parseP l = (x, true) := by
  unfold formatP at h
  split at h
  · next hc =>
    simp only [Prod.mk.injEq, and_true] at h
    have := inR_true.1 hc
    rw [← h, parseP, readI_num this.1 this.2]
  · cases h
theorem format_len {x : Int} {l : List UInt8} {b : Bool} (h : formatP x = (l, b)) : l.length ≤ 21 := by
  unfold formatP at h
  split at h
  · next hc =>
    have := inR_true.1 hc
    simp only [Prod.mk.injEq] at h
    rw [← h.1]; exact num_len (by omega) (by omega)
  · simp only [Prod.mk.injEq] at h; rw [← h.1]; simp
theorem seal_no {x l : List UInt8} (h : sealP x = (l, false)) : l = [] := by
  unfold sealP at h
  split at h
  · cases h
  · simp only [Prod.mk.injEq, and_true] at h; exact h.symm
theorem seal_yes {x l : List UInt8} (h : sealP x = (l, true)) : l = sealL x ∧ 35 ∉ x ∧ l.length ≤ 4000 ∧ 0 < l.length ∧ verifyP l = (x, true) ∧ ∀ k b, k < l.length → l[k]? ≠ some b → verifyP (l.set k b) = ([], false) := by
  have h0 := h
  unfold sealP at h
  split at h
  · next hc =>
    simp only [Prod.mk.injEq, and_true] at h
    subst h
    refine ⟨rfl, hc.2.1, hc.2.2, by simp [sealL]; omega, by rw [verifyP, cut_seal hc.2.1, if_pos h0], fun k b hk hb => ?_⟩
    rw [verifyP, if_neg fun e => ?_]
    have e2 : sealL (cutL ((sealL x).set k b)) = (sealL x).set k b := by
      unfold sealP at e
      split at e
      · simp only [Prod.mk.injEq, and_true] at e; exact e
      · simp at e
    exact seal_found hc.2.1 hk hb e2
  · cases h
theorem vAt_ten {l : List Int} {A : Option Addr} {n cap : Nat} {w : World} {v : Int} (hin : InBytes w A n l) (hn : n ≤ 65536) (hv : vAtV l 10 = v) : Calls Tryd.prog 15 #[.slice A n cap, .int .i64 10] w fun e w' => e = .returned (.int .i64 v) ∧ w' = w := by
  subst hv
  exact (vAt_c 10 l A n cap w (by omega) hin hn).mono fun _ _ ⟨h1, h2⟩ => ⟨h1, h2.symm⟩
set_option maxRecDepth 100000 in
set_option maxHeartbeats 16000000 in
theorem lawStrings (code : List Int) (A : Option Addr) (n cap : Nat) (w : World) (hin : InBytes w A n code) (hlaid : Laid w) :
    Calls Tryd.prog 3 #[.slice A n cap] w fun e w' => e = .returned (.bool true) ∧ Below w.heap.size w w' := by
  by_cases hn : 65536 < (n : Int)
  · go_enter Tryd.func3, Tryd.ntmps3
    go_wp2_with fail
    refine (vBig_c _ _ _ _).mono ?_
    rintro e w' ⟨rfl, rfl⟩
    go_wp2_with fail
    go_ret
    exact ⟨rfl, Below.refl _ _⟩
  have hn2 : n ≤ 65536 := by omega
  have hbd := vAt_bd hin.2.2.2
  have HL0 := Lib.hid hlaid
  have HI0 := Lib.hid hin
  have HB0 := Lib.hid (Below.refl w.heap.size w)
  obtain ⟨va, hva⟩ : ∃ v, vAtV code 9 = v := ⟨_, rfl⟩
  obtain ⟨vb, hvb⟩ : ∃ v, vAtV code 10 = v := ⟨_, rfl⟩
  have b9 := hbd 9
  have b10 := hbd 10
  rw [hva] at b9
  rw [hvb] at b10
  have HVA := Lib.hid hva
  have HVB := Lib.hid hvb
  clear hin hlaid hbd hva hvb
  go_enter Tryd.func3, Tryd.ntmps3
  go_wp2_with fail
  refine (vBig_c _ _ _ _).mono ?_
  rintro e w' ⟨rfl, rfl⟩
  go_wp2_with fail
  refine (drawFormatInt_c _ _ _ _ ⟨_, HI0.out⟩).mono ?_
  rintro e w1 ⟨x, rfl, ⟨x1, x2⟩, hb1⟩
  have HL1 := Lib.hid (HL0.out.carry hb1)
  have HI1 := Lib.hid (in_carry HI0.out hb1)
  have HB1 := Lib.hid (HB0.out.trans (hb1.mono HB0.out.size))
  clear hb1 HL0 HI0 HB0
  obtain ⟨⟨fl, ok⟩, hf⟩ : ∃ p, formatP x = p := ⟨_, rfl⟩
  obtain ⟨F, hF⟩ : ∃ F, S fl = F := ⟨_, rfl⟩
  have hFs : F.size ≤ 21 := by rw [← hF, S_size]; exact format_len hf
  have HFO := Lib.hid hf
  have HF := Lib.hid hF
  have HFd := Lib.hid (show F.data.toList = fl by rw [← hF, S_data])
  clear hf hF
  go_wp2_with fail
  refine (sp_of (implFormatInt_c x _ HL1.out.tab) HFO.out HF.out).mono ?_
  rintro e w2 ⟨rfl, hb2⟩
  have HL2 := Lib.hid (HL1.out.carry hb2)
  have HI2 := Lib.hid (in_carry HI1.out hb2)
  have HB2 := Lib.hid (HB1.out.trans (hb2.mono HB1.out.size))
  clear hb2 HL1 HI1 HB1
  go_wp2_with fail
  refine (sp_of (specFormatInt_c x _) HFO.out HF.out).mono ?_
  rintro e w3 ⟨rfl, hb3⟩
  have HL3 := Lib.hid (HL2.out.carry hb3)
  have HI3 := Lib.hid (in_carry HI2.out hb3)
  have HB3 := Lib.hid (HB2.out.trans (hb3.mono HB2.out.size))
  clear hb3 HL2 HI2 HB2
  go_wp2_with fail
  refine (drawParseInt_c _ _ _ _ ⟨_, HI3.out⟩).mono ?_
  rintro e w4 ⟨t, rfl, hts, hb4⟩
  have HL4 := Lib.hid (HL3.out.carry hb4)
  have HI4 := Lib.hid (in_carry HI3.out hb4)
  have HB4 := Lib.hid (HB3.out.trans (hb4.mono HB3.out.size))
  clear hb4 HL3 HI3 HB3
  obtain ⟨⟨m, fine⟩, hm⟩ : ∃ p, parseP t.data.toList = p := ⟨_, rfl⟩
  have HM := Lib.hid hm
  clear hm
  go_wp2_with fail
  refine (ip_of (implParseInt_c t _ (by omega) HL4.out.tab HL4.out.err) HM.out).mono ?_
  rintro e w5 ⟨rfl, hb5⟩
  have HL5 := Lib.hid (HL4.out.carry hb5)
  have HI5 := Lib.hid (in_carry HI4.out hb5)
  have HB5 := Lib.hid (HB4.out.trans (hb5.mono HB4.out.size))
  clear hb5 HL4 HI4 HB4
  go_wp2_with fail
  refine (ip_of (specParseInt_c t _ (by omega)) HM.out).mono ?_
  rintro e w6 ⟨rfl, hb6⟩
  have HL6 := Lib.hid (HL5.out.carry hb6)
  have HI6 := Lib.hid (in_carry HI5.out hb6)
  have HB6 := Lib.hid (HB5.out.trans (hb6.mono HB5.out.size))
  clear hb6 HL5 HI5 HB5
  go_wp2_with fail
  refine (drawAppendChecksum_c _ _ _ _ ⟨_, HI6.out⟩).mono ?_
  rintro e w7 ⟨X, rfl, hXs, hb7⟩
  have HL7 := Lib.hid (HL6.out.carry hb7)
  have HI7 := Lib.hid (in_carry HI6.out hb7)
  have HB7 := Lib.hid (HB6.out.trans (hb7.mono HB6.out.size))
  clear hb7 HL6 HI6 HB6
  obtain ⟨⟨yl, sld⟩, hy⟩ : ∃ p, sealP X.data.toList = p := ⟨_, rfl⟩
  obtain ⟨Y, hY⟩ : ∃ Y, S yl = Y := ⟨_, rfl⟩
  have HYO := Lib.hid hy
  have HY := Lib.hid hY
  clear hy hY
  go_wp2_with fail
  refine (sp_of (implAppendChecksum_c X _ (by omega) HL7.out.tab) HYO.out HY.out).mono ?_
  rintro e w8 ⟨rfl, hb8⟩
  have HL8 := Lib.hid (HL7.out.carry hb8)
  have HI8 := Lib.hid (in_carry HI7.out hb8)
  have HB8 := Lib.hid (HB7.out.trans (hb8.mono HB7.out.size))
  clear hb8 HL7 HI7 HB7
  go_wp2_with fail
  refine (sp_of (specAppendChecksum_c X _ (by omega)) HYO.out HY.out).mono ?_
  rintro e w9 ⟨rfl, hb9⟩
  have HL9 := Lib.hid (HL8.out.carry hb9)
  have HI9 := Lib.hid (in_carry HI8.out hb9)
  have HB9 := Lib.hid (HB8.out.trans (hb9.mono HB8.out.size))
  clear hb9 HL8 HI8 HB8
  go_wp2_with fail
  obtain ⟨⟨back, there⟩, hbk⟩ : ∃ p, parseP F.data.toList = p := ⟨_, rfl⟩
  have HBK := Lib.hid hbk
  have HOK := Lib.hid (show ok = true → back = x ∧ there = true from fun e => by
    have h1 := HFO.out
    rw [e] at h1
    have h2 := format_back h1
    rw [← HFd.out, hbk] at h2
    simp only [Prod.mk.injEq] at h2
    exact h2)
  clear hbk
  refine (ip_of (implParseInt_c F _ (by omega) HL9.out.tab HL9.out.err) HBK.out).mono ?_
  rintro e w10 ⟨rfl, hb10⟩
  have HL10 := Lib.hid (HL9.out.carry hb10)
  have HI10 := Lib.hid (in_carry HI9.out hb10)
  have HB10 := Lib.hid (HB9.out.trans (hb10.mono HB9.out.size))
  clear hb10 HL9 HI9 HB9
  go_upto_region 15 with fail
  go_cut [106] (fun v wx => v = .bool false ∧ wx = w10)
  case first => as_aux_lemma =>
    rcases ok with _ | _
    · go_wp2_with fail
      go_meet
      exact ⟨rfl, rfl⟩
    · obtain ⟨e1, e2⟩ := HOK.out rfl
      clear HOK HBK
      subst e1 e2
      go_wp2_with fail
      go_meet
      exact ⟨rfl, rfl⟩
  case rest => as_aux_lemma =>
    obtain ⟨rfl, hwc⟩ := hcut
    subst hwc
    rcases sld with _ | _
    · have HYE := Lib.hid (show Y = ⟨#[]⟩ by rw [← HY.out, seal_no HYO.out]; rfl)
      obtain rfl := HYE.out
      clear HYE
      go_wp2_with fail
      go_ret
      exact ⟨rfl, HB10.out⟩
    · obtain ⟨hy1, hy2, hy3, hy4, hy5, hy6⟩ := seal_yes HYO.out
      have hYd : Y.data.toList = yl := by rw [← HY.out, S_data]
      have hYs : Y.size = yl.length := by rw [← hYd]; simp
      have HV := Lib.hid (show verifyP Y.data.toList = (X.data.toList, true) by rw [hYd]; exact hy5)
      have HX := Lib.hid (S_of X).symm
      have hYs2 : Y.size ≤ 4000 := by omega
      have hYs0 : 0 < Y.size := by omega
      have HY6 := Lib.hid hy6
      have HYD := Lib.hid hYd
      have HYS := Lib.hid hYs
      clear hy1 hy2 hy3 hy4 hy5 hy6 hYd hYs
      go_wp2_with fail
      refine (sp_of (implVerifyChecksum_c Y _ (by omega) HL10.out.tab HL10.out.max) HV.out HX.out).mono ?_
      rintro e w11 ⟨rfl, hb11⟩
      have HL11 := Lib.hid (HL10.out.carry hb11)
      have HI11 := Lib.hid (in_carry HI10.out hb11)
      have HB11 := Lib.hid (HB10.out.trans (hb11.mono HB10.out.size))
      clear hb11 HL10 HI10 HB10
      have hcv := Lib.run_convert_string_bytes (P := Tryd.prog) w11 9 22 5 Y Tryd.underlying9 Tryd.underlying22 Tryd.underlying5
      have hbw := Lib.bytesWorld_below w11 5 Y
      have hnew := Lib.bytesWorld_at_new w11 5 Y
      have hcells : ∀ j, j < Y.size → (Lib.bytesWorld w11 5 Y).cell? ⟨w11.heap.size, j, none⟩ = some (.int .u8 (yl.getD j 0).toNat) := fun j hj => by rw [← HYD.out]; exact Lib.bytesWorld_cell w11 5 Y j hj
      obtain ⟨cap', hcap⟩ : ∃ c, grownCap w11 Y.size 0 5 = c := ⟨_, rfl⟩
      rw [hcap] at hcv
      generalize Lib.bytesWorld w11 5 Y = w12 at hcv hbw hnew hcells
      have HL12 := Lib.hid (HL11.out.carry hbw)
      have HI12 := Lib.hid (in_carry HI11.out hbw)
      have HB12 := Lib.hid (HB11.out.trans (hbw.mono HB11.out.size))
      have HC := Lib.hid hcells
      have HN := Lib.hid hnew
      have HBW := Lib.hid hbw
      clear hcap hbw hnew hcells
      go_wp2_with fail
      refine (vAt_c 9 code _ _ _ _ (by omega) HI12.out hn2).mono ?_
      rw [HVA.out]
      rintro e w' ⟨rfl, rfl⟩
      obtain ⟨K, hK⟩ : ∃ K : Nat, va.toNat % Y.size = K := ⟨_, rfl⟩
      have hKl : K < Y.size := by rw [← hK]; exact Nat.mod_lt _ hYs0
      have r1 : va.tmod (Y.size : Int) = (K : Int) := by
        rw [Int.tmod_eq_emod_of_nonneg b9.1, ← hK]
        obtain ⟨V, hV⟩ : ∃ V : Nat, va = (V : Int) := ⟨va.toNat, by omega⟩
        rw [hV]; simp
      have r2 : ¬ (Y.size : Int) = 0 := by omega
      have r3 : ¬ Y.size = 0 := by omega
      have hcK := HC.out K hKl
      obtain ⟨a, ha⟩ : ∃ a, (yl.getD K 0).toNat = a := ⟨_, rfl⟩
      have hal : a < 256 := by rw [← ha]; exact UInt8.toNat_lt _
      rw [ha] at hcK
      have hfz : w12.frozen? ⟨w11.heap.size, K, none⟩ = false := by
        have h1 : Y.size ≤ (Lib.bytesCells w11 5 Y).size := by simp [Lib.bytesCells]
        simp only [World.frozen?, HN.out]
        simp; omega
      have hlb : w11.heap.size < w12.heap.size := lt_of_block HN.out
      obtain ⟨q, hq⟩ : ∃ q : Nat, vb.toNat % 255 = q := ⟨_, rfl⟩
      have q1 : vb.tmod 255 = (q : Int) := by rw [Int.tmod_eq_emod_of_nonneg b10.1]; omega
      have q2 : q ≤ 254 := by omega
      obtain ⟨x', hx'⟩ : ∃ x' : Nat, 1 + q = x' := ⟨_, rfl⟩
      have q3 : IntKind.i64.wrap (1 + (q : Int)) = (x' : Int) := by rw [show 1 + (q : Int) = (x' : Int) by omega]; exact IntWalk.i64_in _ (by omega)
      have q4 : 1 + (q : Int) = (x' : Int) := by omega
      have ik : (K : Int) < Y.size := by omega
      have HXOR := Lib.hid (xor_ne hal (show 1 ≤ x' by omega) (show x' < 256 by omega))
      have HA := Lib.hid ha
      have hx2 : 1 ≤ x' ∧ x' < 256 := by omega
      clear hK hq hx' ha
      go_wp2_with fail
      refine wp_region_tail 13 (by kernel_rfl) (by kernel_rfl) fun wd hbd hcd => ?_
      have HLd := Lib.hid (HL12.out.carry hbd)
      have HId := Lib.hid (in_carry HI12.out hbd)
      have HBd := Lib.hid (HB12.out.trans (hbd.mono HB12.out.size))
      have HBWd := Lib.hid (HBW.out.trans (hbd.mono (Nat.le_of_lt hlb)))
      have hcKd := (hcd w11.heap.size K).trans hcK
      have hfzd := (hbd.frozen (p := ⟨w11.heap.size, K, none⟩) hlb).trans hfz
      have hlbd : w11.heap.size < wd.heap.size := Nat.lt_of_lt_of_le hlb hbd.size
      have HCd := Lib.hid (fun j hj => (hcd w11.heap.size j).trans (HC.out j hj))
      clear hbd hcd hcK hfz
      simp only [List.take_succ_cons, List.take_zero, List.drop_succ_cons, List.drop_zero]
      repeat still_step
      still_call (vAt_ten HId.out hn2 HVB.out)
      repeat still_step
      refine wpStill_nil ?_
      obtain ⟨z1, z2, z3⟩ := HXOR.out
      obtain ⟨r, hr⟩ : ∃ r : Nat, a ^^^ x' = r := ⟨_, rfl⟩
      rw [hr] at z1 z2 z3
      have hbits : bits BinOp.xor IntKind.u8 (a : Int) (x' : Int) = (r : Int) := by
        have e : IntKind.u8.wrap ((BitVec.ofInt 8 (a : Int) ^^^ BitVec.ofInt 8 (x' : Int)).toNat : Int) = (r : Int) := by rw [z1]; exact IntWalk.u8_in _ (by omega)
        exact e
      clear z1 hr HXOR
      obtain ⟨zl, hzl⟩ : ∃ zl, yl.set K (UInt8.ofNat r) = zl := ⟨_, rfl⟩
      have hzlen : zl.length = Y.size := by rw [← hzl, List.length_set, HYS.out]
      have hzv : verifyP zl = ([], false) := by
        rw [← hzl]
        refine HY6.out K _ (by rw [← HYS.out]; exact hKl) fun e => z3 ?_
        have e2 : yl.getD K 0 = UInt8.ofNat r := by simp [List.getD, e]
        have := HA.out
        rw [e2] at this
        simp at this
        omega
      have hcz : ∀ (j : Nat) (hj : j < zl.length), (wd.setCell ⟨w11.heap.size, K, none⟩ (.int .u8 (r : Int))).cell? ((⟨w11.heap.size, 0, none⟩ : Addr).add j) = some (.int .u8 (zl[j].toNat : Int)) := fun j hj => by
        have e : (⟨w11.heap.size, 0, none⟩ : Addr).add j = ⟨w11.heap.size, j, none⟩ := by first | (simp [Addr.add]; done) | (simp [Addr.add]; omega)
        rw [e]
        have hjy : j < Y.size := by omega
        by_cases hjk : j = K
        · subst hjk
          have : zl[j] = UInt8.ofNat r := by simp [← hzl]
          rw [this, World.cell?_setCell_same _ _ _ hcKd]
          have : r % 256 = r := Nat.mod_eq_of_lt z2
          simp [this]
        · have hj2 : j < yl.length := by rw [← HYS.out]; exact hjy
          have h1 : zl[j] = yl[j] := by simp [← hzl, List.getElem_set_ne (Ne.symm hjk)]
          have h2 := HCd.out j hjy
          rw [World.cell?_setCell_other _ _ _ _ (fun e => hjk (by injection e with e1 e2; exact e2.symm)), h2, h1]
          simp [List.getD, hj2]
      have hcb := run_convert_bytes_back (P := Tryd.prog) (wd.setCell ⟨w11.heap.size, K, none⟩ (.int .u8 (r : Int))) 22 9 5 ⟨w11.heap.size, 0, none⟩ cap' zl Tryd.underlying22 Tryd.underlying5 Tryd.underlying9 hcz
      rw [hzlen] at hcb
      have hb13 : Below w11.heap.size w11 (wd.setCell ⟨w11.heap.size, K, none⟩ (.int .u8 (r : Int))) := HBWd.out.setCell (p := ⟨w11.heap.size, K, none⟩) (Nat.le_refl _) _
      have HL13 := Lib.hid (HL11.out.carry hb13)
      have HB13 := Lib.hid (HB11.out.trans (hb13.mono HB11.out.size))
      obtain ⟨Z, hZ⟩ : ∃ Z : ByteArray, ⟨zl.toArray⟩ = Z := ⟨_, rfl⟩
      have hZ2 : Z.data.toList = zl := by rw [← hZ]
      have hZs : Z.size ≤ 10000 := by
        have : Z.size = zl.length := by rw [← hZ2]; simp
        omega
      have HZV := Lib.hid (show verifyP Z.data.toList = ([], false) by rw [hZ2]; exact hzv)
      rw [hZ] at hcb
      clear hcz hb13 hZ hZ2 hzv hzl hzlen HCd HBWd HBd HId HLd HA HY6 HC HN HBW HL12 HI12 HB12
      go_wp2_with fail
      refine (sp_of (implVerifyChecksum_c Z _ hZs HL13.out.tab HL13.out.max) HZV.out rfl).mono ?_
      rintro e w14 ⟨rfl, hb14⟩
      have HB14 := Lib.hid (HB13.out.trans (hb14.mono HB13.out.size))
      clear hb14
      go_wp2_with fail
      go_ret
      exact ⟨rfl, HB14.out⟩
end Go.Proofs.YtdgjanfielcpdaaDoor
