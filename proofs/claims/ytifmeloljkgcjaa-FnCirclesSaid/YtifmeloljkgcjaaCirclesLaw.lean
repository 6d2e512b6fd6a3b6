/- FnCircles returns true for all codes: all gaps together are the ring, and a cabin that is added and removed leaves no trace; no conditions. -/
import Derived.Test.YtifmeloljkgcjaaCircDraw
import Derived.Test.YtifmeloljkgcjaaAddSpecC
import Derived.Test.YtifmeloljkgcjaaVRing
import Derived.Test.YtifmeloljkgcjaaGapsEnd
import Derived.Deep.DeepCutAuto
import Derived.Deep.CutBlock
import Derived.ChangeOld
namespace Go.Proofs.Ytifmeloljkgcjaa
open Go.RowKit Go.Joins Go.ChangeShapes Go.WideShapes Go.ChangeAt

section
variable {f : FuncId} {args : Array Value} {W : World} {L s L1 s1 : Int} {p : List Int × Bool} {O : List Int} {ok : Bool}
theorem cr_of (h : Calls Try.prog f args W (CircRoom L s p W)) (hp : p = (O, ok)) (h1 : (if ok then L else 0) = L1) (h2 : (if ok then s else 0) = s1) :
    Calls Try.prog f args W fun e w' => ∃ A cap, e = .returned (.tuple #[.agg #[.int .i64 L1, .int .i64 s1, .slice A O.length cap], .bool ok]) ∧ O.length ≤ cap ∧ Own w' W.heap.size 3 1 intCells A O ∧ Below W.heap.size W w' := by subst hp h1 h2; exact h
theorem cp_of (h : Calls Try.prog f args W (CircPost L s p W)) (hp : p = (O, ok)) (h1 : (if ok then L else 0) = L1) (h2 : (if ok then s else 0) = s1) :
    Calls Try.prog f args W fun e w' => ∃ A cap, e = .returned (.tuple #[.agg #[.int .i64 L1, .int .i64 s1, .slice A O.length cap], .bool ok]) ∧ Own w' W.heap.size 3 1 intCells A O ∧ Below W.heap.size W w' := by subst hp h1 h2; exact h
theorem gp_of (h : Calls Try.prog f args W (ListP p W)) (hp : p = (O, ok)) :
    Calls Try.prog f args W fun e w' => ∃ A cap, e = .returned (.tuple #[.slice A O.length cap, .bool ok]) ∧ Own w' W.heap.size 3 1 intCells A O ∧ Below W.heap.size W w' := by subst hp; exact h
theorem np_of {p : Int × Bool} {v : Int} (h : Calls Try.prog f args W (NumP p W)) (hp : p = (v, ok)) :
    Calls Try.prog f args W fun e w' => e = .returned (.tuple #[.int .i64 v, .bool ok]) ∧ Below W.heap.size W w' := by subst hp; exact h
theorem sum_of {v v' : Int} (h : Calls Try.prog f args W fun e w' => e = .returned (.int .i64 v) ∧ W = w') (hv : v = v') : Calls Try.prog f args W fun e w' => e = .returned (.int .i64 v') ∧ W = w' := by subst hv; exact h
theorem bl_of {b c : Bool} (h : Calls Try.prog f args W fun e w' => e = .returned (.bool b) ∧ Below W.heap.size W w') (hp : b = c) :
    Calls Try.prog f args W fun e w' => e = .returned (.bool c) ∧ Below W.heap.size W w' := by subst hp; exact h
end
theorem vCircle_one (L s : Int) (l : List Int) (A B : Option Addr) (cap cap' : Nat) (w : World) (hl : l.length ≤ 1048576) (hr : Rd w w.heap.size 1 intCells A l) (hr' : Rd w w.heap.size 1 intCells B l) :
    Calls Try.prog 8 #[.agg #[.int .i64 L, .int .i64 s, .slice A l.length cap], .agg #[.int .i64 L, .int .i64 s, .slice B l.length cap']] w fun e w' => e = .returned (.bool true) ∧ Below w.heap.size w w' :=
  (vCircle_any L s L s l l A B cap cap' w hl hl hr hr').mono fun e w' ⟨b, he, hb, hw⟩ => ⟨by rw [he, hb ⟨rfl, rfl, rfl⟩], hw⟩
theorem add_all {L s gap : Int} {l O : List Int} (h : addP L s l gap = (O, true)) : addC L s l gap = true ∧ O = addL L l ∧ goodC L s O = true ∧ gap ≤ Lib.minOf (gapsL L O) ∧ O.length = l.length + 1 ∧ smallP L s O = (Lib.minOf (gapsL L O), true) := by
  unfold addP at h
  split at h
  · next hc =>
    simp only [Prod.mk.injEq, and_true] at h
    subst h
    have hc' := hc
    simp only [addC, Bool.and_eq_true, decide_eq_true_eq] at hc'
    refine ⟨hc, rfl, hc'.2.1, hc'.2.2, addL_len, ?_⟩
    have h1 : 0 < (addL L l).length := by rw [addL_len]; omega
    simp [smallP, hc'.2.1, h1]
  · cases h
theorem add_len {L s gap : Int} {l O : List Int} {ok : Bool} (h : addP L s l gap = (O, ok)) : O.length ≤ l.length + 1 := by
  unfold addP at h
  split at h
  · simp only [Prod.mk.injEq] at h; rw [← h.1, addL_len]; omega
  · simp only [Prod.mk.injEq] at h; rw [← h.1]; simp
theorem rem_len {L s k : Int} {l O : List Int} {ok : Bool} (h : remP L s l k = (O, ok)) : O.length ≤ l.length := by
  unfold remP at h
  split at h
  · simp only [Prod.mk.injEq] at h; rw [← h.1]; simp [remL]; omega
  · simp only [Prod.mk.injEq] at h; rw [← h.1]; simp
theorem gaps_told {L s : Int} {l O : List Int} {ok : Bool} (h : gapsP L s l = (O, ok)) : ok = goodC L s l ∧ O.length ≤ l.length ∧ (ok = true → O = gapsL L l) := by
  unfold gapsP at h
  split at h
  · next hc => simp only [Prod.mk.injEq] at h; exact ⟨by rw [← h.2, hc], by rw [← h.1, gapsL_len]; omega, fun _ => h.1.symm⟩
  · next hc =>
    simp only [Prod.mk.injEq] at h
    refine ⟨by rw [← h.2]; simpa using hc, by rw [← h.1]; simp, fun e => ?_⟩
    rw [← h.2] at e; cases e
theorem even_all {L s n : Int} {O : List Int} {ok : Bool} (h : evenP L s n = (O, ok)) : O.length ≤ 12 ∧ (ok = true → 0 < n → smallP L s O = (L / n, true)) := by
  unfold evenP at h
  split at h
  · next hc =>
    simp only [Bool.and_eq_true, inR_true] at hc
    simp only [Prod.mk.injEq] at h
    obtain ⟨rfl, rfl⟩ := h
    refine ⟨by rw [evenL_len]; omega, fun _ hn => ?_⟩
    obtain ⟨N, rfl⟩ : ∃ N : Nat, n = (N : Int) := ⟨n.toNat, by omega⟩
    simp only [Int.toNat_natCast] at hc ⊢
    have h1 : 0 < (evenL L N).length := by rw [evenL_len]; omega
    rw [smallP, hc.2, Bool.true_and, if_pos (by simpa using h1), even_least (by omega) (goodC_of hc.2)]
  · next hc =>
    simp only [Prod.mk.injEq] at h
    refine ⟨by rw [← h.1]; simp, fun e => ?_⟩
    rw [← h.2] at e; cases e
set_option maxRecDepth 100000 in
set_option maxHeartbeats 16000000 in
theorem lawCircles (code : List Int) (A : Option Addr) (n cap : Nat) (w : World) (hin : InBytes w A n code) :
    Calls Try.prog 3 #[.slice A n cap] w fun e w' => e = .returned (.bool true) ∧ Below w.heap.size w w' := by
  have kc0 : Codes w A n := ⟨code, hin⟩
  clear hin
  by_cases hn : 65536 < (n : Int)
  · go_enter Try.func3, Try.ntmps3
    go_wp2_with fail
    refine (vBig_c _ _ _ _).mono ?_
    rintro e w' ⟨rfl, rfl⟩
    go_wp2_with fail
    go_ret
    exact ⟨rfl, Below.refl _ _⟩
  go_enter Try.func3, Try.ntmps3
  go_wp2_with fail
  refine (vBig_c _ _ _ _).mono ?_
  rintro e w' ⟨rfl, rfl⟩
  have HKC_0 := Lib.hid kc0
  have HB_0 := Lib.hid (Below.refl w.heap.size w)
  clear kc0
  go_wp2_with fail
  refine (drawAddCabin_c _ _ _ _ HKC_0.out).mono ?_
  rintro e wa ⟨L, s, l, g, c, gap, rfl, ⟨L1, L2⟩, hl, hcap, ⟨gp1, gp2⟩, oa, hbwa⟩
  have hN : NearC L := ⟨by omega, by omega⟩
  have HKC_wa := Lib.hid (HKC_0.out.carry hbwa)
  have HB_wa := Lib.hid (HB_0.out.trans (hbwa.mono HB_0.out.size))
  clear HKC_0 HB_0 hbwa
  have HRC_wa := Lib.hid (oa.rd int_one')
  clear oa
  go_wp2_with fail
  obtain ⟨wb, hwb⟩ : ∃ v, wa.alloc (.cells #[.int .i64 L, .int .i64 s, .slice (some ⟨g, 0, none⟩) l.length c] 26) = v := ⟨_, rfl⟩
  have hbwb : Below wa.heap.size wa wb := hwb ▸ (Below.refl _ _).alloc (Nat.le_refl _) _
  have hxwb : Box wb wa.heap.size 26 3 [.int .i64 L, .int .i64 s, .slice (some ⟨g, 0, none⟩) l.length c] := hwb ▸ Box.new wa [.int .i64 L, .int .i64 s, .slice (some ⟨g, 0, none⟩) l.length c] 26
  rw [hwb]
  clear hwb
  have HKC_wb := Lib.hid (HKC_wa.out.carry hbwb)
  have HB_wb := Lib.hid (HB_wa.out.trans (hbwb.mono HB_wa.out.size))
  have HRC_wb := Lib.hid (HRC_wa.out.carry hbwb)
  clear HKC_wa HB_wa HRC_wa hbwb
  have HXC_wb := Lib.hid (hxwb)
  clear hxwb
  obtain ⟨⟨O, ok⟩, hp⟩ : ∃ p, addP L s l gap = p := ⟨_, rfl⟩
  have hOl := add_len hp
  have HP := Lib.hid hp
  obtain ⟨M, hM⟩ : ∃ v, (if ok then L else 0) = v := ⟨_, rfl⟩
  obtain ⟨t, ht⟩ : ∃ v, (if ok then s else 0) = v := ⟨_, rfl⟩
  have HM := Lib.hid hM
  have HT := Lib.hid ht
  have hM2 : 0 ≤ M ∧ M ≤ 4001 := by rw [← hM]; split <;> omega
  have hNM : NearC M := ⟨by omega, by omega⟩
  clear hp hM ht
  refine (cr_of (implAddCabin_c L s l gap g 0 c _ (by omega) HRC_wb.out) HP.out HM.out HT.out).mono ?_
  rintro e wc1 ⟨A5, c5, rfl, hc5, o5, hbwc1⟩
  have HKC_wc1 := Lib.hid (HKC_wb.out.carry hbwc1)
  have HB_wc1 := Lib.hid (HB_wb.out.trans (hbwc1.mono HB_wb.out.size))
  have HRC_wc1 := Lib.hid (HRC_wb.out.carry hbwc1)
  have HXC_wc1 := Lib.hid (HXC_wb.out.carry hbwc1)
  clear HKC_wb HB_wb HRC_wb HXC_wb hbwc1
  have HRO_wc1 := Lib.hid (o5.rd int_one')
  clear o5
  have x0 := HXC_wc1.out.cell (j := 0) rfl
  have x1 := HXC_wc1.out.cell (j := 1) rfl
  have x2 := HXC_wc1.out.cell (j := 2) rfl
  have xl := HXC_wc1.out.lt
  go_wp2_with fail
  obtain ⟨wd, hwd⟩ : ∃ v, wc1.alloc (.cells #[.int .i64 M, .int .i64 t, .slice A5 O.length c5] 26) = v := ⟨_, rfl⟩
  have hbwd : Below wc1.heap.size wc1 wd := hwd ▸ (Below.refl _ _).alloc (Nat.le_refl _) _
  have hxwd : Box wd wc1.heap.size 26 3 [.int .i64 M, .int .i64 t, .slice A5 O.length c5] := hwd ▸ Box.new wc1 [.int .i64 M, .int .i64 t, .slice A5 O.length c5] 26
  rw [hwd]
  clear hwd
  have HKC_wd := Lib.hid (HKC_wc1.out.carry hbwd)
  have HB_wd := Lib.hid (HB_wc1.out.trans (hbwd.mono HB_wc1.out.size))
  have HRC_wd := Lib.hid (HRC_wc1.out.carry hbwd)
  have HXC_wd := Lib.hid (HXC_wc1.out.carry hbwd)
  have HRO_wd := Lib.hid (HRO_wc1.out.carry hbwd)
  clear HKC_wc1 HB_wc1 HRC_wc1 HXC_wc1 HRO_wc1 hbwd
  have HXO_wd := Lib.hid (hxwd)
  clear hxwd
  clear x0 x1 x2 xl
  refine (cp_of (specAddCabin_c L s l gap g 0 c _ hN (by omega) hcap HRC_wd.out) HP.out HM.out HT.out).mono ?_
  rintro e we ⟨A7, c7, rfl, o7, hbwe⟩
  have HKC_we := Lib.hid (HKC_wd.out.carry hbwe)
  have HB_we := Lib.hid (HB_wd.out.trans (hbwe.mono HB_wd.out.size))
  have HRC_we := Lib.hid (HRC_wd.out.carry hbwe)
  have HXC_we := Lib.hid (HXC_wd.out.carry hbwe)
  have HRO_we := Lib.hid (HRO_wd.out.carry hbwe)
  have HXO_we := Lib.hid (HXO_wd.out.carry hbwe)
  clear HKC_wd HB_wd HRC_wd HXC_wd HRO_wd HXO_wd hbwe
  have HRW_we := Lib.hid (o7.rd int_one')
  clear o7
  have x0 := HXC_we.out.cell (j := 0) rfl
  have x1 := HXC_we.out.cell (j := 1) rfl
  have x2 := HXC_we.out.cell (j := 2) rfl
  have xl := HXC_we.out.lt
  have y0 := HXO_we.out.cell (j := 0) rfl
  have y1 := HXO_we.out.cell (j := 1) rfl
  have y2 := HXO_we.out.cell (j := 2) rfl
  have yl := HXO_we.out.lt
  go_wp2_with fail
  obtain ⟨wf, hwf⟩ : ∃ v, we.alloc (.cells #[.int .i64 M, .int .i64 t, .slice A7 O.length c7] 26) = v := ⟨_, rfl⟩
  have hbwf : Below we.heap.size we wf := hwf ▸ (Below.refl _ _).alloc (Nat.le_refl _) _
  have hxwf : Box wf we.heap.size 26 3 [.int .i64 M, .int .i64 t, .slice A7 O.length c7] := hwf ▸ Box.new we [.int .i64 M, .int .i64 t, .slice A7 O.length c7] 26
  rw [hwf]
  clear hwf
  have HKC_wf := Lib.hid (HKC_we.out.carry hbwf)
  have HB_wf := Lib.hid (HB_we.out.trans (hbwf.mono HB_we.out.size))
  have HRC_wf := Lib.hid (HRC_we.out.carry hbwf)
  have HXC_wf := Lib.hid (HXC_we.out.carry hbwf)
  have HRO_wf := Lib.hid (HRO_we.out.carry hbwf)
  have HXO_wf := Lib.hid (HXO_we.out.carry hbwf)
  have HRW_wf := Lib.hid (HRW_we.out.carry hbwf)
  clear HKC_we HB_we HRC_we HXC_we HRO_we HXO_we HRW_we hbwf
  have HXW_wf := Lib.hid (hxwf)
  clear hxwf
  clear x0 x1 x2 xl y0 y1 y2 yl
  have x0 := HXC_wf.out.cell (j := 0) rfl
  have x1 := HXC_wf.out.cell (j := 1) rfl
  have x2 := HXC_wf.out.cell (j := 2) rfl
  have xl := HXC_wf.out.lt
  have y0 := HXO_wf.out.cell (j := 0) rfl
  have y1 := HXO_wf.out.cell (j := 1) rfl
  have y2 := HXO_wf.out.cell (j := 2) rfl
  have yl := HXO_wf.out.lt
  have z0 := HXW_wf.out.cell (j := 0) rfl
  have z1 := HXW_wf.out.cell (j := 1) rfl
  have z2 := HXW_wf.out.cell (j := 2) rfl
  have zl := HXW_wf.out.lt
  have hb0 : (ok != ok) = false := by simp
  have hb1 : (goodC L s l != goodC L s l) = false := by simp
  refine wp_region_mem (by kernel_rfl) (by kernel_rfl) ?_
  repeat (go_big_quiet_step ((first | (go_at_call 8; exact mem_of (vCircle_one M t O A5 A7 c5 c7 _ (by omega) (HRO_wf.out.carry (WIn.ok _)) (HRW_wf.out.carry (WIn.ok _)))) | (go_at_call 9; exact mem_of (isCircle_c L s l _ _ _ (by omega) (HRC_wf.out.carry (WIn.ok _)))) | (go_at_call 10; exact mem_of (specIsCircle_c L s l _ _ _ hN (by omega) (HRC_wf.out.carry (WIn.ok _)))))))
  refine wpQuiet_nil ?_
  intro _ hw'
  obtain ⟨⟨wq, hbq⟩, hw''⟩ := hw'
  obtain rfl := hw''.symm
  obtain ⟨hcq, hfq, hzq⟩ := bcell hbq
  try simp [Nat.add_one_le_iff] at hzq
  clear x0 x1 x2 xl y0 y1 y2 yl z0 z1 z2 zl
  clear HXW_wf HRW_wf
  clear hcq hfq
  have HKC_q := Lib.hid (HKC_wf.out.carry hbq)
  have HB_q := Lib.hid (HB_wf.out.trans (hbq.mono HB_wf.out.size))
  have HRC_q := Lib.hid (HRC_wf.out.carry hbq)
  have HXC_q := Lib.hid (HXC_wf.out.carry hbq)
  have HRO_q := Lib.hid (HRO_wf.out.carry hbq)
  have HXO_q := Lib.hid (HXO_wf.out.carry hbq)
  clear HKC_wf HB_wf HRC_wf HXC_wf HRO_wf HXO_wf
  have x0 := HXC_q.out.cell (j := 0) rfl
  have x1 := HXC_q.out.cell (j := 1) rfl
  have x2 := HXC_q.out.cell (j := 2) rfl
  have xl := HXC_q.out.lt
  have y0 := HXO_q.out.cell (j := 0) rfl
  have y1 := HXO_q.out.cell (j := 1) rfl
  have y2 := HXO_q.out.cell (j := 2) rfl
  have yl := HXO_q.out.lt
  obtain ⟨⟨Gs, told⟩, hgp⟩ : ∃ p, gapsP L s l = p := ⟨_, rfl⟩
  obtain ⟨htold, hGl, hGe⟩ := gaps_told hgp
  have HGP := Lib.hid hgp
  have HTOLD := Lib.hid htold
  have HGE := Lib.hid hGe
  clear hgp htold hGe
  go_wp2_with fail
  refine (gp_of (implGapsOf_c L s l _ _ _ hN (by omega) HRC_q.out) HGP.out).mono ?_
  rintro e wg ⟨A9, c9, rfl, o9, hbwg⟩
  have HKC_wg := Lib.hid (HKC_q.out.carry hbwg)
  have HB_wg := Lib.hid (HB_q.out.trans (hbwg.mono HB_q.out.size))
  have HRC_wg := Lib.hid (HRC_q.out.carry hbwg)
  have HXC_wg := Lib.hid (HXC_q.out.carry hbwg)
  have HRO_wg := Lib.hid (HRO_q.out.carry hbwg)
  have HXO_wg := Lib.hid (HXO_q.out.carry hbwg)
  clear HKC_q HB_q HRC_q HXC_q HRO_q HXO_q hbwg
  have HRG_wg := Lib.hid (o9.rd int_one')
  clear o9
  clear x0 x1 x2 xl y0 y1 y2 yl
  have x0 := HXC_wg.out.cell (j := 0) rfl
  have x1 := HXC_wg.out.cell (j := 1) rfl
  have x2 := HXC_wg.out.cell (j := 2) rfl
  have xl := HXC_wg.out.lt
  go_wp2_with fail
  refine (gp_of (specGapsOf_c L s l _ _ _ hN (by omega) HRC_wg.out) HGP.out).mono ?_
  rintro e wh ⟨A11, c11, rfl, o11, hbwh⟩
  have HKC_wh := Lib.hid (HKC_wg.out.carry hbwh)
  have HB_wh := Lib.hid (HB_wg.out.trans (hbwh.mono HB_wg.out.size))
  have HRC_wh := Lib.hid (HRC_wg.out.carry hbwh)
  have HXC_wh := Lib.hid (HXC_wg.out.carry hbwh)
  have HRO_wh := Lib.hid (HRO_wg.out.carry hbwh)
  have HXO_wh := Lib.hid (HXO_wg.out.carry hbwh)
  have HRG_wh := Lib.hid (HRG_wg.out.carry hbwh)
  clear HKC_wg HB_wg HRC_wg HXC_wg HRO_wg HXO_wg HRG_wg hbwh
  have HRH_wh := Lib.hid (o11.rd int_one')
  clear o11
  clear x0 x1 x2 xl
  have x0 := HXC_wh.out.cell (j := 0) rfl
  have x1 := HXC_wh.out.cell (j := 1) rfl
  have x2 := HXC_wh.out.cell (j := 2) rfl
  have xl := HXC_wh.out.lt
  go_wp2_with fail
  go_cut [108] (fun v wx => v = .bool false ∧ Below wh.heap.size wh wx)
  case first => as_aux_lemma =>
    have hb0 : (told != told) = false := by simp
    rcases told with _ | _
    ·
      refine wp_region_mem (by kernel_rfl) (by kernel_rfl) ?_
      repeat (go_big_quiet_step ((first | (go_at_call 13; exact mem_of (vInts_same Gs _ _ _ _ _ (by omega) (HRG_wh.out.carry (WIn.ok _)) (HRH_wh.out.carry (WIn.ok _)))))))
      refine wpQuiet_nil ?_
      intro _ hw'
      obtain ⟨⟨wq, hbq⟩, hw''⟩ := hw'
      obtain rfl := hw''.symm
      obtain ⟨hcq, hfq, hzq⟩ := bcell hbq
      try simp [Nat.add_one_le_iff] at hzq
      go_wp2_with fail
      go_meet
      exact ⟨rfl, hbq⟩
    ·
      by_cases h0 : l.length = 0
      ·
        have i0 : ¬ (0 : Int) < l.length := by omega
        refine wp_region_mem (by kernel_rfl) (by kernel_rfl) ?_
        repeat (go_big_quiet_step ((first | (go_at_call 13; exact mem_of (vInts_same Gs _ _ _ _ _ (by omega) (HRG_wh.out.carry (WIn.ok _)) (HRH_wh.out.carry (WIn.ok _)))))))
        refine wpQuiet_nil ?_
        intro _ hw'
        obtain ⟨⟨wq, hbq⟩, hw''⟩ := hw'
        obtain rfl := hw''.symm
        obtain ⟨hcq, hfq, hzq⟩ := bcell hbq
        try simp [Nat.add_one_le_iff] at hzq
        go_wp2_with fail
        go_meet
        exact ⟨rfl, hbq⟩
      ·
        have i0 : (0 : Int) < l.length := by omega
        have i1 : 0 < l.length := by omega
        have i2 : decide ((0 : Int) < l.length) = true := decide_eq_true i0
        have i3 : ¬ l = [] := fun e => by subst e; simp at i1
        have HW := Lib.hid (goodC_of HTOLD.out.symm)
        have HSM := Lib.hid (show Small Gs by rw [HGE.out rfl]; exact gaps_small HW.out)
        have HSU := Lib.hid (show sumTo (nth Gs) Gs.length = L by rw [HGE.out rfl]; exact gaps_all HW.out (by omega))
        refine wp_region_mem (by kernel_rfl) (by kernel_rfl) ?_
        repeat (go_big_quiet_step ((first | (go_at_call 13; exact mem_of (vInts_same Gs _ _ _ _ _ (by omega) (HRG_wh.out.carry (WIn.ok _)) (HRH_wh.out.carry (WIn.ok _)))) | (go_at_call 14; exact mem_same (sum_of (vSum_c Gs _ _ _ HSM.out (HRG_wh.out.carry (WIn.ok _))) HSU.out)))))
        refine wpQuiet_nil ?_
        intro _ hw'
        obtain ⟨⟨wq, hbq⟩, hw''⟩ := hw'
        obtain rfl := hw''.symm
        obtain ⟨hcq, hfq, hzq⟩ := bcell hbq
        try simp [Nat.add_one_le_iff] at hzq
        go_wp2_with fail
        go_meet
        exact ⟨rfl, hbq⟩
  case rest => as_aux_lemma =>
    obtain ⟨rfl, hbi⟩ := hcut
    obtain ⟨wi, hwi⟩ : ∃ v, v = wc := ⟨_, rfl⟩
    subst hwi
    clear x0 x1 x2 xl
    clear HRG_wh HRH_wh
    clear HGP HTOLD HGE
    have HKC_wi := Lib.hid (HKC_wh.out.carry hbi)
    have HB_wi := Lib.hid (HB_wh.out.trans (hbi.mono HB_wh.out.size))
    have HRC_wi := Lib.hid (HRC_wh.out.carry hbi)
    have HXC_wi := Lib.hid (HXC_wh.out.carry hbi)
    have HRO_wi := Lib.hid (HRO_wh.out.carry hbi)
    have HXO_wi := Lib.hid (HXO_wh.out.carry hbi)
    clear HKC_wh HB_wh HRC_wh HXC_wh HRO_wh HXO_wh hbi
    go_upto_if 109 with fail
    go_cut [2] (fun v wx => v = .bool false ∧ Below wi.heap.size wi wx)
    case first => as_aux_lemma =>
      clear HKC_wi HB_wi
      rcases ok with _ | _
      · go_wp2_with fail
        go_meet
        exact ⟨rfl, Below.refl _ _⟩
      ·
        obtain ⟨ha1, ha2, ha3, ha4, ha5, ha6⟩ := add_all HP.out
        have hML : M = L := by have := HM.out; simpa using this.symm
        have hTS : t = s := by have := HT.out; simpa using this.symm
        clear HP HM HT
        subst hML hTS
        obtain ⟨k0, hk1, hk2, hk3⟩ := add_back ha1
        rw [← ha2] at hk1 hk2 hk3
        have HK0 := Lib.hid (show remP M t O k0 = (l, true) by rw [remP, if_pos hk3, Int.toNat_natCast, hk2])
        obtain ⟨m, hm⟩ : ∃ m, Lib.minOf (gapsL M O) = m := ⟨_, rfl⟩
        rw [hm] at ha4 ha6
        have HS6 := Lib.hid ha6
        have HO5 := Lib.hid ha5
        have hO9 : O.length ≤ 9 := by omega
        have hmg : ¬ m < gap := by omega
        clear ha1 ha2 ha3 ha4 ha5 ha6 hk2 hk3 hm
        have y0 := HXO_wi.out.cell (j := 0) rfl
        have y1 := HXO_wi.out.cell (j := 1) rfl
        have y2 := HXO_wi.out.cell (j := 2) rfl
        have yl := HXO_wi.out.lt
        have x0 := HXC_wi.out.cell (j := 0) rfl
        have x1 := HXC_wi.out.cell (j := 1) rfl
        have x2 := HXC_wi.out.cell (j := 2) rfl
        have xl := HXC_wi.out.lt
        go_wp2_with fail
        refine (np_of (implSmallestGap_c M t O _ _ _ hNM (by omega) HRO_wi.out) HS6.out).mono ?_
        rintro e wj ⟨rfl, hbwj⟩
        have HBJ := Lib.hid hbwj
        have HRC_wj := Lib.hid (HRC_wi.out.carry hbwj)
        have HXC_wj := Lib.hid (HXC_wi.out.carry hbwj)
        have HRO_wj := Lib.hid (HRO_wi.out.carry hbwj)
        have HXO_wj := Lib.hid (HXO_wi.out.carry hbwj)
        clear HRC_wi HXC_wi HRO_wi HXO_wi hbwj
        clear x0 x1 x2 xl y0 y1 y2 yl
        have y0 := HXO_wj.out.cell (j := 0) rfl
        have y1 := HXO_wj.out.cell (j := 1) rfl
        have y2 := HXO_wj.out.cell (j := 2) rfl
        have yl := HXO_wj.out.lt
        have x0 := HXC_wj.out.cell (j := 0) rfl
        have x1 := HXC_wj.out.cell (j := 1) rfl
        have x2 := HXC_wj.out.cell (j := 2) rfl
        have xl := HXC_wj.out.lt
        go_wp2_with fail
        go_loopw [15, 16, 17, 18] (fun f i _ _ wr => ∃ (b : Bool) (k : Nat), k ≤ O.length ∧ f = .bool b ∧ i = .int .i64 k ∧ (k0 < k → b = true) ∧ Below wj.heap.size wj wr) (fun _ i _ _ _ => O.length - (intOf i).toNat)
        case atStart => exact ⟨false, 0, Nat.zero_le _, rfl, rfl, fun h => absurd h (by omega), Below.refl _ _⟩
        case round =>
          obtain ⟨b, k, hk, rfl, rfl, hkb, hbel⟩ := hrel
          have HBE := Lib.hid hbel
          have z1 := hbel.size
          clear x0 x1 x2 xl y0 y1 y2 yl
          have HRC_r := Lib.hid (HRC_wj.out.below hbel (Nat.le_refl _))
          have HXC_r := Lib.hid (HXC_wj.out.below hbel (HXC_wj.out.lt))
          have HRO_r := Lib.hid (HRO_wj.out.below hbel (Nat.le_refl _))
          have HXO_r := Lib.hid (HXO_wj.out.below hbel (HXO_wj.out.lt))
          have HRC_r := Lib.hid (HRC_r.out.mono z1)
          have HRO_r := Lib.hid (HRO_r.out.mono z1)
          clear hbel
          have y0 := HXO_r.out.cell (j := 0) rfl
          have y1 := HXO_r.out.cell (j := 1) rfl
          have y2 := HXO_r.out.cell (j := 2) rfl
          have yl := HXO_r.out.lt
          have x0 := HXC_r.out.cell (j := 0) rfl
          have x1 := HXC_r.out.cell (j := 1) rfl
          have x2 := HXC_r.out.cell (j := 2) rfl
          have xl := HXC_r.out.lt
          by_cases hlt : k < O.length
          ·
            obtain ⟨⟨R, two⟩, hrp⟩ : ∃ p, remP M t O k = p := ⟨_, rfl⟩
            have hRl := rem_len hrp
            obtain ⟨M2, hM2⟩ : ∃ v, (if two then M else 0) = v := ⟨_, rfl⟩
            obtain ⟨t2, ht2⟩ : ∃ v, (if two then t else 0) = v := ⟨_, rfl⟩
            have HRP := Lib.hid hrp
            have HM2 := Lib.hid hM2
            have HT2 := Lib.hid ht2
            have HKB := Lib.hid hkb
            clear hrp hM2 ht2 hkb
            go_wp2_with fail
            refine (cp_of (implRemoveCabin_c M t O k A5 c5 _ hNM (by omega) hc5 HRO_r.out) HRP.out HM2.out HT2.out).mono ?_
            rintro e wk ⟨A17, c17, rfl, o17, hbwk⟩
            have HBK := Lib.hid (HBE.out.trans (hbwk.mono z1))
            have zk := HBK.out.size
            have HRC_wk := Lib.hid (HRC_r.out.carry hbwk)
            have HXC_wk := Lib.hid (HXC_r.out.carry hbwk)
            have HRO_wk := Lib.hid (HRO_r.out.carry hbwk)
            have HXO_wk := Lib.hid (HXO_r.out.carry hbwk)
            clear HRC_r HXC_r HRO_r HXO_r hbwk
            have HRR_wk := Lib.hid (o17.rd int_one')
            clear o17
            clear x0 x1 x2 xl y0 y1 y2 yl
            have x0 := HXC_wk.out.cell (j := 0) rfl
            have x1 := HXC_wk.out.cell (j := 1) rfl
            have x2 := HXC_wk.out.cell (j := 2) rfl
            have xl := HXC_wk.out.lt
            have e1 : IntKind.i64.wrap ((k : Int) + 1) = k + 1 := IntWalk.i64_in _ (by omega)
            rcases b with _ | _
            ·
              rcases two with _ | _
              ·
                go_wp2_with fail
                go_roundw
                case rel => exact ⟨false, k + 1, by omega, rfl, by go_num, fun h => by (by_cases e : k0 = k); (subst e; have h1 := HRP.out; rw [HK0.out] at h1; cases h1); (exact HKB.out (by omega)), HBK.out.alloc zk _⟩
                case measure => first | (simp [intOf]; done) | (simp [intOf]; omega)
              ·
                go_wp2_with fail
                obtain ⟨wl, hwl⟩ : ∃ v, wk.alloc (.cells #[.int .i64 M2, .int .i64 t2, .slice A17 R.length c17] 26) = v := ⟨_, rfl⟩
                have hbl : Below wk.heap.size wk wl := hwl ▸ (Below.refl _ _).alloc (Nat.le_refl _) _
                rw [hwl]
                have HBL := Lib.hid (HBK.out.trans (hbl.mono zk))
                have HRC_wl := Lib.hid (HRC_wk.out.carry hbl)
                have HXC_wl := Lib.hid (HXC_wk.out.carry hbl)
                have HRO_wl := Lib.hid (HRO_wk.out.carry hbl)
                have HXO_wl := Lib.hid (HXO_wk.out.carry hbl)
                have HRR_wl := Lib.hid (HRR_wk.out.carry hbl)
                clear HRC_wk HXC_wk HRO_wk HXO_wk HRR_wk hbl
                refine (vCircle_any M2 t2 M t R l A17 (some ⟨g, 0, none⟩) c17 c _ (by omega) (by omega) HRR_wl.out HRC_wl.out).mono ?_
                rintro e wm ⟨b2, rfl, hb2, hbm⟩
                have HB2 := Lib.hid hb2
                have HBM := Lib.hid (HBL.out.trans (hbm.mono HBL.out.size))
                clear hb2 hbm
                go_wp2_with fail
                go_roundw
                case rel => exact ⟨b2, k + 1, by omega, rfl, by go_num, fun h => by (by_cases e : k0 = k); (subst e; have h1 := HRP.out; rw [HK0.out] at h1; simp only [Prod.mk.injEq, and_true] at h1; subst h1; exact HB2.out ⟨by have := HM2.out; simpa using this.symm, by have := HT2.out; simpa using this.symm, rfl⟩); (have := HKB.out (by omega); cases this), HBM.out⟩
                case measure => first | (simp [intOf]; done) | (simp [intOf]; omega)
            ·
              go_wp2_with fail
              go_roundw
              case rel => exact ⟨true, k + 1, by omega, rfl, by go_num, fun _ => rfl, HBK.out.alloc zk _⟩
              case measure => first | (simp [intOf]; done) | (simp [intOf]; omega)
          ·
            obtain rfl : k = O.length := by omega
            obtain rfl := hkb hk1
            have hlo := HO5.out
            have e1 : IntKind.i64.wrap ((l.length : Int) + 1) = l.length + 1 := IntWalk.i64_in _ (by omega)
            have e2 : ((O.length : Int) != (l.length : Int) + 1) = false := by simp; omega
            clear hlo
            go_wp2_with fail
            go_meet
            exact ⟨rfl, HBJ.out.trans (HBE.out.mono HBJ.out.size)⟩
    case rest => as_aux_lemma =>
      obtain ⟨rfl, hbn⟩ := hcut
      obtain ⟨v0, hv0⟩ : ∃ v, v = wc := ⟨_, rfl⟩
      subst hv0
      clear HXC_wi HXO_wi HRC_wi HRO_wi
      clear HP HM HT
      have HKC_v0 := Lib.hid (HKC_wi.out.carry hbn)
      have HB_v0 := Lib.hid (HB_wi.out.trans (hbn.mono HB_wi.out.size))
      clear HKC_wi HB_wi hbn
      go_wp2_with fail
      refine (drawRemoveCabin_c _ _ _ _ HKC_v0.out).mono ?_
      rintro e va ⟨X, r, q, gq, cq, y, rfl, ⟨X1, X2⟩, hql, hqc, ⟨y1, y2⟩, oq, hbva⟩
      have hNX : NearC X := ⟨by omega, by omega⟩
      have HKC_va := Lib.hid (HKC_v0.out.carry hbva)
      have HB_va := Lib.hid (HB_v0.out.trans (hbva.mono HB_v0.out.size))
      clear HKC_v0 HB_v0 hbva
      have HRD_va := Lib.hid (oq.rd int_one')
      clear oq
      go_wp2_with fail
      obtain ⟨vb, hvb⟩ : ∃ v, va.alloc (.cells #[.int .i64 X, .int .i64 r, .slice (some ⟨gq, 0, none⟩) q.length cq] 26) = v := ⟨_, rfl⟩
      have hbvb : Below va.heap.size va vb := hvb ▸ (Below.refl _ _).alloc (Nat.le_refl _) _
      have hxvb : Box vb va.heap.size 26 3 [.int .i64 X, .int .i64 r, .slice (some ⟨gq, 0, none⟩) q.length cq] := hvb ▸ Box.new va [.int .i64 X, .int .i64 r, .slice (some ⟨gq, 0, none⟩) q.length cq] 26
      rw [hvb]
      clear hvb
      have HKC_vb := Lib.hid (HKC_va.out.carry hbvb)
      have HB_vb := Lib.hid (HB_va.out.trans (hbvb.mono HB_va.out.size))
      have HRD_vb := Lib.hid (HRD_va.out.carry hbvb)
      clear HKC_va HB_va HRD_va hbvb
      have HXD_vb := Lib.hid (hxvb)
      clear hxvb
      obtain ⟨⟨R, two⟩, hrp⟩ : ∃ p, remP X r q y = p := ⟨_, rfl⟩
      have hRl := rem_len hrp
      obtain ⟨M2, hM2⟩ : ∃ v, (if two then X else 0) = v := ⟨_, rfl⟩
      obtain ⟨t2, ht2⟩ : ∃ v, (if two then r else 0) = v := ⟨_, rfl⟩
      have HRP := Lib.hid hrp
      have HM2 := Lib.hid hM2
      have HT2 := Lib.hid ht2
      clear hrp hM2 ht2
      refine (cp_of (implRemoveCabin_c X r q y _ _ _ hNX (by omega) hqc HRD_vb.out) HRP.out HM2.out HT2.out).mono ?_
      rintro e vc ⟨A21, c21, rfl, o21, hbvc⟩
      have HKC_vc := Lib.hid (HKC_vb.out.carry hbvc)
      have HB_vc := Lib.hid (HB_vb.out.trans (hbvc.mono HB_vb.out.size))
      have HRD_vc := Lib.hid (HRD_vb.out.carry hbvc)
      have HXD_vc := Lib.hid (HXD_vb.out.carry hbvc)
      clear HKC_vb HB_vb HRD_vb HXD_vb hbvc
      have HRE_vc := Lib.hid (o21.rd int_one')
      clear o21
      have x0 := HXD_vc.out.cell (j := 0) rfl
      have x1 := HXD_vc.out.cell (j := 1) rfl
      have x2 := HXD_vc.out.cell (j := 2) rfl
      have xl := HXD_vc.out.lt
      go_wp2_with fail
      obtain ⟨vd, hvd⟩ : ∃ v, vc.alloc (.cells #[.int .i64 M2, .int .i64 t2, .slice A21 R.length c21] 26) = v := ⟨_, rfl⟩
      have hbvd : Below vc.heap.size vc vd := hvd ▸ (Below.refl _ _).alloc (Nat.le_refl _) _
      have hxvd : Box vd vc.heap.size 26 3 [.int .i64 M2, .int .i64 t2, .slice A21 R.length c21] := hvd ▸ Box.new vc [.int .i64 M2, .int .i64 t2, .slice A21 R.length c21] 26
      rw [hvd]
      clear hvd
      have HKC_vd := Lib.hid (HKC_vc.out.carry hbvd)
      have HB_vd := Lib.hid (HB_vc.out.trans (hbvd.mono HB_vc.out.size))
      have HRD_vd := Lib.hid (HRD_vc.out.carry hbvd)
      have HXD_vd := Lib.hid (HXD_vc.out.carry hbvd)
      have HRE_vd := Lib.hid (HRE_vc.out.carry hbvd)
      clear HKC_vc HB_vc HRD_vc HXD_vc HRE_vc hbvd
      have HXE_vd := Lib.hid (hxvd)
      clear hxvd
      clear x0 x1 x2 xl
      refine (cp_of (specRemoveCabin_c X r q y _ _ _ hNX (by omega) hqc HRD_vd.out) HRP.out HM2.out HT2.out).mono ?_
      rintro e ve ⟨A23, c23, rfl, o23, hbve⟩
      have HKC_ve := Lib.hid (HKC_vd.out.carry hbve)
      have HB_ve := Lib.hid (HB_vd.out.trans (hbve.mono HB_vd.out.size))
      have HRD_ve := Lib.hid (HRD_vd.out.carry hbve)
      have HXD_ve := Lib.hid (HXD_vd.out.carry hbve)
      have HRE_ve := Lib.hid (HRE_vd.out.carry hbve)
      have HXE_ve := Lib.hid (HXE_vd.out.carry hbve)
      clear HKC_vd HB_vd HRD_vd HXD_vd HRE_vd HXE_vd hbve
      have HRF_ve := Lib.hid (o23.rd int_one')
      clear o23
      have x0 := HXE_ve.out.cell (j := 0) rfl
      have x1 := HXE_ve.out.cell (j := 1) rfl
      have x2 := HXE_ve.out.cell (j := 2) rfl
      have xl := HXE_ve.out.lt
      go_wp2_with fail
      obtain ⟨vf, hvf⟩ : ∃ v, ve.alloc (.cells #[.int .i64 M2, .int .i64 t2, .slice A23 R.length c23] 26) = v := ⟨_, rfl⟩
      have hbvf : Below ve.heap.size ve vf := hvf ▸ (Below.refl _ _).alloc (Nat.le_refl _) _
      have hxvf : Box vf ve.heap.size 26 3 [.int .i64 M2, .int .i64 t2, .slice A23 R.length c23] := hvf ▸ Box.new ve [.int .i64 M2, .int .i64 t2, .slice A23 R.length c23] 26
      rw [hvf]
      clear hvf
      have HKC_vf := Lib.hid (HKC_ve.out.carry hbvf)
      have HB_vf := Lib.hid (HB_ve.out.trans (hbvf.mono HB_ve.out.size))
      have HRD_vf := Lib.hid (HRD_ve.out.carry hbvf)
      have HXD_vf := Lib.hid (HXD_ve.out.carry hbvf)
      have HRE_vf := Lib.hid (HRE_ve.out.carry hbvf)
      have HXE_vf := Lib.hid (HXE_ve.out.carry hbvf)
      have HRF_vf := Lib.hid (HRF_ve.out.carry hbvf)
      clear HKC_ve HB_ve HRD_ve HXD_ve HRE_ve HXE_ve HRF_ve hbvf
      have HXF_vf := Lib.hid (hxvf)
      clear hxvf
      clear x0 x1 x2 xl
      refine (vCircle_one M2 t2 R A21 A23 c21 c23 _ (by omega) HRE_vf.out HRF_vf.out).mono ?_
      rintro e vg ⟨rfl, hbvg⟩
      have HKC_vg := Lib.hid (HKC_vf.out.carry hbvg)
      have HB_vg := Lib.hid (HB_vf.out.trans (hbvg.mono HB_vf.out.size))
      have HRD_vg := Lib.hid (HRD_vf.out.carry hbvg)
      have HXD_vg := Lib.hid (HXD_vf.out.carry hbvg)
      have HRE_vg := Lib.hid (HRE_vf.out.carry hbvg)
      have HXE_vg := Lib.hid (HXE_vf.out.carry hbvg)
      have HRF_vg := Lib.hid (HRF_vf.out.carry hbvg)
      have HXF_vg := Lib.hid (HXF_vf.out.carry hbvg)
      clear HKC_vf HB_vf HRD_vf HXD_vf HRE_vf HXE_vf HRF_vf HXF_vf hbvg
      clear HXD_vg HXE_vg HXF_vg HRD_vg HRE_vg HRF_vg
      clear HRP HM2 HT2
      go_wp2_with fail
      refine (drawEvenStarts_c _ _ _ _ HKC_vg.out).mono ?_
      rintro e vh ⟨E, u, d, rfl, ⟨E1, E2⟩, ⟨d1, d2⟩, hbvh⟩
      have HKC_vh := Lib.hid (HKC_vg.out.carry hbvh)
      have HB_vh := Lib.hid (HB_vg.out.trans (hbvh.mono HB_vg.out.size))
      clear HKC_vg HB_vg hbvh
      obtain ⟨⟨V, known⟩, hev⟩ : ∃ p, evenP E u d = p := ⟨_, rfl⟩
      obtain ⟨hVl, hVs⟩ := even_all hev
      have HVS := Lib.hid hVs
      obtain ⟨M3, hM3⟩ : ∃ v, (if known then E else 0) = v := ⟨_, rfl⟩
      obtain ⟨t3, ht3⟩ : ∃ v, (if known then u else 0) = v := ⟨_, rfl⟩
      have HEV := Lib.hid hev
      have HM3 := Lib.hid hM3
      have HT3 := Lib.hid ht3
      have hNM3 : NearC M3 := by rw [← hM3]; unfold NearC; split <;> omega
      clear hev hM3 ht3 hVs
      go_wp2_with fail
      refine (cp_of (implEvenStarts_c E u d _ (by omega) (by omega)) HEV.out HM3.out HT3.out).mono ?_
      rintro e vi ⟨A28, c28, rfl, o28, hbvi⟩
      have HKC_vi := Lib.hid (HKC_vh.out.carry hbvi)
      have HB_vi := Lib.hid (HB_vh.out.trans (hbvi.mono HB_vh.out.size))
      clear HKC_vh HB_vh hbvi
      have HRV_vi := Lib.hid (o28.rd int_one')
      clear o28
      go_wp2_with fail
      obtain ⟨vj, hvj⟩ : ∃ v, vi.alloc (.cells #[.int .i64 M3, .int .i64 t3, .slice A28 V.length c28] 26) = v := ⟨_, rfl⟩
      have hbvj : Below vi.heap.size vi vj := hvj ▸ (Below.refl _ _).alloc (Nat.le_refl _) _
      have hxvj : Box vj vi.heap.size 26 3 [.int .i64 M3, .int .i64 t3, .slice A28 V.length c28] := hvj ▸ Box.new vi [.int .i64 M3, .int .i64 t3, .slice A28 V.length c28] 26
      rw [hvj]
      clear hvj
      have HKC_vj := Lib.hid (HKC_vi.out.carry hbvj)
      have HB_vj := Lib.hid (HB_vi.out.trans (hbvj.mono HB_vi.out.size))
      have HRV_vj := Lib.hid (HRV_vi.out.carry hbvj)
      clear HKC_vi HB_vi HRV_vi hbvj
      have HXV_vj := Lib.hid (hxvj)
      clear hxvj
      refine (cp_of (specEvenStarts_c E u d _ (by omega) (by omega)) HEV.out HM3.out HT3.out).mono ?_
      rintro e vk ⟨A30, c30, rfl, o30, hbvk⟩
      have HKC_vk := Lib.hid (HKC_vj.out.carry hbvk)
      have HB_vk := Lib.hid (HB_vj.out.trans (hbvk.mono HB_vj.out.size))
      have HRV_vk := Lib.hid (HRV_vj.out.carry hbvk)
      have HXV_vk := Lib.hid (HXV_vj.out.carry hbvk)
      clear HKC_vj HB_vj HRV_vj HXV_vj hbvk
      have HRU_vk := Lib.hid (o30.rd int_one')
      clear o30
      have x0 := HXV_vk.out.cell (j := 0) rfl
      have x1 := HXV_vk.out.cell (j := 1) rfl
      have x2 := HXV_vk.out.cell (j := 2) rfl
      have xl := HXV_vk.out.lt
      go_wp2_with fail
      obtain ⟨vl, hvl⟩ : ∃ v, vk.alloc (.cells #[.int .i64 M3, .int .i64 t3, .slice A30 V.length c30] 26) = v := ⟨_, rfl⟩
      have hbvl : Below vk.heap.size vk vl := hvl ▸ (Below.refl _ _).alloc (Nat.le_refl _) _
      have hxvl : Box vl vk.heap.size 26 3 [.int .i64 M3, .int .i64 t3, .slice A30 V.length c30] := hvl ▸ Box.new vk [.int .i64 M3, .int .i64 t3, .slice A30 V.length c30] 26
      rw [hvl]
      clear hvl
      have HKC_vl := Lib.hid (HKC_vk.out.carry hbvl)
      have HB_vl := Lib.hid (HB_vk.out.trans (hbvl.mono HB_vk.out.size))
      have HRV_vl := Lib.hid (HRV_vk.out.carry hbvl)
      have HXV_vl := Lib.hid (HXV_vk.out.carry hbvl)
      have HRU_vl := Lib.hid (HRU_vk.out.carry hbvl)
      clear HKC_vk HB_vk HRV_vk HXV_vk HRU_vk hbvl
      have HXU_vl := Lib.hid (hxvl)
      clear hxvl
      clear x0 x1 x2 xl
      refine (vCircle_one M3 t3 V A28 A30 c28 c30 _ (by omega) HRV_vl.out HRU_vl.out).mono ?_
      rintro e vm ⟨rfl, hbvm⟩
      have HKC_vm := Lib.hid (HKC_vl.out.carry hbvm)
      have HB_vm := Lib.hid (HB_vl.out.trans (hbvm.mono HB_vl.out.size))
      have HRV_vm := Lib.hid (HRV_vl.out.carry hbvm)
      have HXV_vm := Lib.hid (HXV_vl.out.carry hbvm)
      have HRU_vm := Lib.hid (HRU_vl.out.carry hbvm)
      have HXU_vm := Lib.hid (HXU_vl.out.carry hbvm)
      clear HKC_vl HB_vl HRV_vl HXV_vl HRU_vl HXU_vl hbvm
      clear HXU_vm HRU_vm
      clear HEV
      go_upto_region 32 with fail
      go_cut [217] (fun v wx => v = .bool (known && decide (0 < d)) ∧ Below vm.heap.size vm wx)
      case first => as_aux_lemma =>
        rcases known with _ | _
        · go_wp2_with fail
          go_meet
          exact ⟨by simp, Below.refl _ _⟩
        · by_cases hd : 0 < d
          · go_wp2_with fail
            go_meet
            exact ⟨by simp [hd], Below.refl _ _⟩
          · go_wp2_with fail
            go_meet
            exact ⟨by simp [hd], Below.refl _ _⟩
      case rest => as_aux_lemma =>
        obtain ⟨rfl, hbn⟩ := hcut
        obtain ⟨v1, hv1⟩ : ∃ v, v = wc := ⟨_, rfl⟩
        subst hv1
        have HKC_v1 := Lib.hid (HKC_vm.out.carry hbn)
        have HB_v1 := Lib.hid (HB_vm.out.trans (hbn.mono HB_vm.out.size))
        have HRV_v1 := Lib.hid (HRV_vm.out.carry hbn)
        have HXV_v1 := Lib.hid (HXV_vm.out.carry hbn)
        clear HKC_vm HB_vm HRV_vm HXV_vm hbn
        go_upto_if 217 with fail
        go_cut [2] (fun v wx => v = .bool false ∧ Below v1.heap.size v1 wx)
        case first => as_aux_lemma =>
          clear HKC_v1 HB_v1
          rcases hkn : (known && decide (0 < d)) with _ | _
          · go_wp2_with fail
            go_meet
            exact ⟨rfl, Below.refl _ _⟩
          ·
            simp only [Bool.and_eq_true, decide_eq_true_eq] at hkn
            obtain ⟨rfl, hd⟩ := hkn
            have hME : M3 = E := by have := HM3.out; simpa using this.symm
            have hTU : t3 = u := by have := HT3.out; simpa using this.symm
            clear HM3 HT3
            subst hME hTU
            obtain ⟨m, hm⟩ : ∃ m, M3 / d = m := ⟨_, rfl⟩
            have HS3 := Lib.hid (show smallP M3 t3 V = (m, true) by rw [← hm]; exact HVS.out rfl hd)
            have a1 : M3.tdiv d = m := by rw [← hm]; exact Int.tdiv_eq_ediv_of_nonneg E1
            have m1 : 0 ≤ m := by rw [← hm]; exact Int.ediv_nonneg E1 (by omega)
            have m2 : m ≤ M3 := by rw [← hm]; exact Int.ediv_le_self _ E1
            have a2 : IntKind.i64.wrap m = m := IntWalk.i64_in _ (by omega)
            have a3 : ¬ d = 0 := by omega
            clear hm HVS
            have x0 := HXV_v1.out.cell (j := 0) rfl
            have x1 := HXV_v1.out.cell (j := 1) rfl
            have x2 := HXV_v1.out.cell (j := 2) rfl
            have xl := HXV_v1.out.lt
            go_wp2_with fail
            refine (np_of (implSmallestGap_c M3 t3 V _ _ _ hNM3 (by omega) HRV_v1.out) HS3.out).mono ?_
            rintro e v2 ⟨rfl, hbv2⟩
            go_wp2_with fail
            go_meet
            exact ⟨rfl, hbv2⟩
        case rest => as_aux_lemma =>
          obtain ⟨rfl, hbn⟩ := hcut
          obtain ⟨v2, hv2⟩ : ∃ v, v = wc := ⟨_, rfl⟩
          subst hv2
          clear HXV_v1 HRV_v1
          clear HVS HM3 HT3
          have HKC_v2 := Lib.hid (HKC_v1.out.carry hbn)
          have HB_v2 := Lib.hid (HB_v1.out.trans (hbn.mono HB_v1.out.size))
          clear HKC_v1 HB_v1 hbn
          go_wp2_with fail
          refine (drawSmallestGap_c _ _ _ _ HKC_v2.out).mono ?_
          rintro e za ⟨Z, z, h, gh, ch, rfl, ⟨Z1, Z2⟩, hhl, hhc, oh, hbza⟩
          have hNZ : NearC Z := ⟨by omega, by omega⟩
          have HKC_za := Lib.hid (HKC_v2.out.carry hbza)
          have HB_za := Lib.hid (HB_v2.out.trans (hbza.mono HB_v2.out.size))
          clear HKC_v2 HB_v2 hbza
          have HRZ_za := Lib.hid (oh.rd int_one')
          clear oh
          go_wp2_with fail
          obtain ⟨zb, hzb⟩ : ∃ v, za.alloc (.cells #[.int .i64 Z, .int .i64 z, .slice (some ⟨gh, 0, none⟩) h.length ch] 26) = v := ⟨_, rfl⟩
          have hbzb : Below za.heap.size za zb := hzb ▸ (Below.refl _ _).alloc (Nat.le_refl _) _
          have hxzb : Box zb za.heap.size 26 3 [.int .i64 Z, .int .i64 z, .slice (some ⟨gh, 0, none⟩) h.length ch] := hzb ▸ Box.new za [.int .i64 Z, .int .i64 z, .slice (some ⟨gh, 0, none⟩) h.length ch] 26
          rw [hzb]
          clear hzb
          have HKC_zb := Lib.hid (HKC_za.out.carry hbzb)
          have HB_zb := Lib.hid (HB_za.out.trans (hbzb.mono HB_za.out.size))
          have HRZ_zb := Lib.hid (HRZ_za.out.carry hbzb)
          clear HKC_za HB_za HRZ_za hbzb
          have HXZ_zb := Lib.hid (hxzb)
          clear hxzb
          obtain ⟨⟨v, some1⟩, hsm⟩ : ∃ p, smallP Z z h = p := ⟨_, rfl⟩
          have HSM := Lib.hid hsm
          clear hsm
          refine (np_of (implSmallestGap_c Z z h _ _ _ hNZ (by omega) HRZ_zb.out) HSM.out).mono ?_
          rintro e zc ⟨rfl, hbzc⟩
          have HKC_zc := Lib.hid (HKC_zb.out.carry hbzc)
          have HB_zc := Lib.hid (HB_zb.out.trans (hbzc.mono HB_zb.out.size))
          have HRZ_zc := Lib.hid (HRZ_zb.out.carry hbzc)
          have HXZ_zc := Lib.hid (HXZ_zb.out.carry hbzc)
          clear HKC_zb HB_zb HRZ_zb HXZ_zb hbzc
          have x0 := HXZ_zc.out.cell (j := 0) rfl
          have x1 := HXZ_zc.out.cell (j := 1) rfl
          have x2 := HXZ_zc.out.cell (j := 2) rfl
          have xl := HXZ_zc.out.lt
          go_wp2_with fail
          clear x0 x1 x2 xl
          refine (np_of (specSmallestGap_c Z z h _ _ _ hNZ (by omega) HRZ_zc.out) HSM.out).mono ?_
          rintro e zd ⟨rfl, hbzd⟩
          have HKC_zd := Lib.hid (HKC_zc.out.carry hbzd)
          have HB_zd := Lib.hid (HB_zc.out.trans (hbzd.mono HB_zc.out.size))
          have HRZ_zd := Lib.hid (HRZ_zc.out.carry hbzd)
          have HXZ_zd := Lib.hid (HXZ_zc.out.carry hbzd)
          clear HKC_zc HB_zc HRZ_zc HXZ_zc hbzd
          go_wp2_with fail
          go_ret
          exact ⟨by simp, HB_zd.out⟩
namespace fnCircles
set_option linter.unusedVariables false
theorem own : ownKnob Try.prog.godebug = none := by kernel_rfl
theorem laidOut : laidOutB Try.prog = true := by kernel_rfl
set_option maxRecDepth 100000 in
theorem lifted (os : Os) (started : os.Started) (H : Type) (enc : TypeId × Value → H) :
    ReturnsInHanded {} Try.checked os 3 .any (Rows.fnCirclesSpec.pre6 enc Try.prog Try.f3 Rows.fnCirclesRow.domain false) (Rows.fnCirclesSpec.post enc Try.prog Try.f3 false true false false) := by
  refine returnsInHanded_of_change (C := Try.checked) own started (by kernel_rfl) Try.func3
    (ChangeSpec.witness6 (enc := enc) (C := Try.checked) false ⟨#[], #[.slice none 0 0], []⟩ 8 (by kernel_rfl) (by kernel_rfl) (by kernel_rfl) (by kernel_rfl)) ?_
  intro W base args ds gs before hval0 hW hcnd _
  have hval : ∀ (j : Nat) t v, Try.f3.params[j]? = some t → args[j]? = some v → Value.okWide Try.prog W .any base t v := hval0
  have hW' := hW
  obtain ⟨p, q, hA0, hV, rfl, hfz, hnd⟩ := hW
  have hA : DataW.TrodAll enc Try.prog W 0 (fun _ => true) true Try.f3.params.toList args.toList ds p := hA0
  rw [Try.params3] at hA hval
  obtain ⟨v0, vs0, d0, ds0, p0, q0, hargs, rfl, rfl, h0, r0⟩ := trodAll_cons hA
  obtain ⟨rfl, rfl, rfl⟩ := trodAll_nil r0
  obtain rfl : args = #[v0] := by cases args; simp_all
  obtain ⟨rfl, rfl⟩ := trodVars_none hV
  have k0 := h0
  have lt0 : ∀ x ∈ p0, x.block < W.heap.size := by obtain ⟨m, hm⟩ := k0; exact DataW.trod_lt m _ _ _ hm
  obtain ⟨a0, len0, cap0, rfl⟩ := okWide_slice Try.underlying22 (hval 0 22 v0 rfl rfl)
  obtain ⟨code, w0⟩ := open_byteS Try.underlying22 Try.underlying5 (by kernel_rfl) h0
  clear hA0 hval0
  refine (lawCircles code a0 len0 cap0 W w0).mono fun e W' ⟨he, bel⟩ => ?_
  subst he
  exact ⟨_, rfl, _, _, _, [], _, [], hW', trodAll_mk1 (shut_bool Try.underlying4 _), (trodAll_cons_mk (Below.trod laidOut (by kernel_rfl) (of_decide_eq_true (by kernel_rfl)) k0 bel lt0) trodAll_mk0), rfl, bel.frame _, fun h => by cases h⟩
theorem over : Rows.fnCirclesRow.holds Try.pinned (OpenSpec.ofChange Rows.fnCirclesSpec) :=
  OpenClaim.holds_of_wide 3 Try.f3 rfl rfl rfl rfl rfl rfl rfl ⟨rfl, rfl, rfl, rfl, rfl⟩ rfl rfl rfl rfl rfl (by kernel_rfl) Try.func3 (by kernel_rfl)
    (of_decide_eq_true (by kernel_rfl)) (by unfold Func.isWrapper; first | (rw [if_pos (by decide +kernel)]; kernel_rfl) | (rw [if_neg (by decide +kernel)]; exact ⟨rfl, rfl⟩))
    (fun os started H enc _ => lifted os started H enc)
/-- The given statement. -/
theorem proved : Rows.FnCirclesSaid := over
#print axioms proved
end fnCircles
end Go.Proofs.Ytifmeloljkgcjaa
