/- The reference's ParseCabin returns the Lean function; no conditions but the length. -/
import Derived.Test.YteoajaichjojdaaDoorCabParI
import Derived.Test.YteoajaichjojdaaDoorL1Read
import Derived.Test.YteoajaichjojdaaDoorRelyC
namespace Go.Proofs.YteoajaichjojdaaDoor
open Go.RowKit

theorem res_ps {ts : Array Value} {W : World} {g : Nat} {x : Cbn} {b : Bool} (h2 : ts[2]?.getD undef = .pointer (some ⟨g, 0, none⟩)) (h3 : ts[3]?.getD undef = .bool b) (hB : Box W g 25 5 (Cbn.cells x)) :
    (results Tryd.f11 ts).run Tryd.prog W = .ok (.tuple #[.agg #[.int .i64 x.n, .int .i64 x.s, .int .i64 x.e, .int .i64 x.t, .int .i64 x.r], .bool b]) W := by
  have c0 := hB.cell (j := 0) rfl
  have c1 := hB.cell (j := 1) rfl
  have c2 := hB.cell (j := 2) rfl
  have c3 := hB.cell (j := 3) rfl
  have c4 := hB.cell (j := 4) rfl
  simp [results, Tryd.results11, go_sem, h2, h3, c0, c1, c2, c3, c4]
/-- A cabin on the call's own block, written by operation B. -/
def PCJ (w3 : World) (gx : Nat) (L : Array Bool) (w : World) (B : Nat) (us vs : List Value) : Prop := Below w3.heap.size w3 w ∧ Box w gx 25 5 (if L.getD B false = true then vs else us)
section
variable {w3 w w' : World} {gx B i : Nat} {L : Array Bool} {us vs : List Value}
theorem PCJ.put (h : PCJ w3 gx L w B us vs) (hi : i ≠ B) (hb : Below w.heap.size w w') : PCJ w3 gx (L.setIfInBounds i true) w' B us vs := by
  refine ⟨h.1.trans (hb.mono h.1.size), ?_⟩
  rw [getD_set_ne false hi]
  exact h.2.carry hb
theorem PCJ.old (h : PCJ w3 gx L w B us vs) (hl : L.getD B false = false) : Box w gx 25 5 us := by
  have := h.2
  rw [hl] at this
  exact this
theorem PCJ.stored (h : PCJ w3 gx L w B us vs) (hl : L.getD B true = false) {j : Nat} {v : Value} (hg : w3.heap.size ≤ gx) (hv : us.set j v = vs) : PCJ w3 gx (L.setIfInBounds B true) (w.setCell ⟨gx, j, none⟩ v) B us vs := by
  obtain ⟨hi, hf⟩ := false_of_trueC hl
  refine ⟨h.1.setCell (p := ⟨gx, j, none⟩) hg v, ?_⟩
  rw [getD_set_atC hi, if_pos rfl, ← hv]
  exact (h.old hf).set j v
theorem PCJ.done {k : Nat} (h : PCJ w3 gx L w B us vs) (hl : ∀ i, i < k → L.getD i false = true) (hB : B < k) (hg : w3.heap.size ≤ gx) : PC w3 w gx vs := by
  have h2 := h.2
  rw [hl B hB, if_pos rfl] at h2
  exact ⟨h2, h.1, hg⟩
end
theorem spl_size (c : UInt8) : ∀ (l : List UInt8), ∀ p ∈ spl c l, p.length ≤ l.length
  | [], p, h => by simp [spl] at h; subst h; exact Nat.le_refl _
  | x :: l, p, h => by
    have ih := spl_size c l
    rw [spl] at h
    split at h
    · rcases List.mem_cons.1 h with h | h
      · subst h; simp
      · have := ih p h; simp; omega
    · split at h
      · simp at h; subst h; simp
      · next a b e =>
        rcases List.mem_cons.1 h with h | h
        · subst h
          have := ih a (by rw [e]; exact List.mem_cons_self)
          simp; omega
        · have := ih p (by rw [e]; exact List.mem_cons_of_mem _ h)
          simp; omega
def readV (gw N cw : Nat) (p1 x : ByteArray) (gx : Nat) (v0 : Int) (b0 : Bool) (i : Nat) (v : Value) : Prop := match i with
  | 0 => v = .slice (some ⟨gw, 0, none⟩) N cw
  | 1 => v = .pointer (some ⟨gw, 1, none⟩)
  | 2 => v = .string p1
  | 3 => v = .slice (some ⟨gw, 0, none⟩) N cw
  | 4 => v = .pointer (some ⟨gw, 1, none⟩)
  | 5 => v = .string p1
  | 6 => v = .int .i64 p1.size
  | 7 => v = .int .i64 ((p1.size : Int) - 1)
  | 8 => v = .string x
  | 9 => v = .tuple #[.int .i64 v0, .bool b0]
  | 10 => v = .tuple #[.int .i64 v0, .bool b0]
  | 11 => v = .int .i64 v0
  | 12 => v = .bool b0
  | 13 => v = .pointer (some ⟨gx, 0, none⟩)
  | _ => True

set_option maxRecDepth 100000 in
set_option maxHeartbeats 16000000 in
theorem specParseCabin_c (s : ByteArray) (w : World) (hs : s.size ≤ 1048576) : Calls Tryd.prog 11 #[.string s] w (CabRes (pCabS s.data.toList) w) := by
  have h0 : Below w.heap.size w (w.alloc (.cells (Cbn.cells zC).toArray 25)) := (Below.refl _ _).alloc (Nat.le_refl _) _
  have HZ := Lib.hid (Box.new w (Cbn.cells zC) 25)
  have HB := Lib.hid h0
  clear h0
  go_enter Tryd.func11, Tryd.ntmps11
  go_wp2_with fail
  refine (l1Split_c s 32 _ hs).mono ?_
  rintro e w1 ⟨ps, A, cw, hps, rfl, hown, hb1⟩
  have HPS := Lib.hid hps
  have HZ1 := Lib.hid (HZ.out.carry hb1)
  have HB1 := Lib.hid (HB.out.trans (hb1.mono HB.out.size))
  have HR1 := Lib.hid (hown.rd txt_one)
  have HOw := Lib.hid hown
  clear hps hown hb1 HZ HB
  obtain ⟨N, hN⟩ : ∃ N, ps.length = N := ⟨_, rfl⟩
  rw [hN]
  have HLen := Lib.hid (show (spl 32 s.data.toList).length = N by rw [← HPS.out, List.length_map, hN])
  have HNp := Lib.hid hN
  have hs60 : s.data.toList.length = s.size := (size_list s).symm
  by_cases c1 : 60 < s.size
  · have H := Lib.hid (show pCabS s.data.toList = (zC, false) by
      unfold pCabS wordsOk
      rw [decide_eq_false (show ¬ s.data.toList.length ≤ 60 by omega)]; rfl)
    have c1' : decide ((60 : Int) < s.size) = true := decide_eq_true (by omega)
    have zc := HZ1.out
    have z0 := zc.cell (j := 0) rfl
    have z1 := zc.cell (j := 1) rfl
    have z2 := zc.cell (j := 2) rfl
    have z3 := zc.cell (j := 3) rfl
    have z4 := zc.cell (j := 4) rfl
    have zf := zc.frozen
    have zl := zc.lt
    have HBz := Lib.hid HB1.out
    clear zc
    clear hN hs60
    go_wp2_with fail
    exact bodyPost_ret (v := .tuple #[.agg #[.int .i64 (zC).n, .int .i64 (zC).s, .int .i64 (zC).e, .int .i64 (zC).t, .int .i64 (zC).r], .bool false]) (res_ps (x := zC) rfl rfl (HZ1.out.puts (us := Cbn.cells zC) rfl)) rfl ⟨retC H.out, puts_below (Nat.le_refl _) (Cbn.cells zC) _ 0 HBz.out⟩
  have c1' : decide ((60 : Int) < s.size) = false := decide_eq_false (by omega)
  by_cases c2 : N = 9 ∨ N = 10
  case neg =>
    have H := Lib.hid (show pCabS s.data.toList = (zC, false) by
      unfold pCabS wordsOk
      rw [HLen.out, decide_eq_false (show ¬ N = 9 by omega), decide_eq_false (show ¬ N = 10 by omega)]; simp)
    have n9 : ((N : Int) != 9) = true := by rw [bne_iff_ne]; omega
    have n10 : ((N : Int) != 10) = true := by rw [bne_iff_ne]; omega
    have zc := HZ1.out
    have z0 := zc.cell (j := 0) rfl
    have z1 := zc.cell (j := 1) rfl
    have z2 := zc.cell (j := 2) rfl
    have z3 := zc.cell (j := 3) rfl
    have z4 := zc.cell (j := 4) rfl
    have zf := zc.frozen
    have zl := zc.lt
    have HBz := Lib.hid HB1.out
    clear zc
    clear hN hs60 c2
    go_wp2_with fail
    exact bodyPost_ret (v := .tuple #[.agg #[.int .i64 (zC).n, .int .i64 (zC).s, .int .i64 (zC).e, .int .i64 (zC).t, .int .i64 (zC).r], .bool false]) (res_ps (x := zC) rfl rfl (HZ1.out.puts (us := Cbn.cells zC) rfl)) rfl ⟨retC H.out, puts_below (Nat.le_refl _) (Cbn.cells zC) _ 0 HBz.out⟩
  obtain ⟨gw, _, _, rfl, hgw0, _⟩ := HOw.out (by omega)
  have hcl : ∀ i (hi : i < ps.length), gw < w1.heap.size ∧ w1.cell? ⟨gw, i, none⟩ = some (.string ps[i]) := fun i hi => by
    obtain ⟨b, off, he, hb, hc⟩ := HR1.out i hi
    simp only [Option.some.injEq, Addr.mk.injEq, and_true] at he
    obtain ⟨rfl, rfl⟩ := he
    have := hc 0 _ rfl
    rw [nth_eq hi] at this
    exact ⟨hb, by simpa using this⟩
  have hgw3 := (hcl 1 (by omega)).1
  obtain ⟨p1, e1⟩ : ∃ p, ps[1]'(by omega) = p := ⟨_, rfl⟩
  obtain ⟨p2, e2⟩ : ∃ p, ps[2]'(by omega) = p := ⟨_, rfl⟩
  obtain ⟨p4, e4⟩ : ∃ p, ps[4]'(by omega) = p := ⟨_, rfl⟩
  obtain ⟨pl, el⟩ : ∃ p, ps[N - 2]'(by omega) = p := ⟨_, rfl⟩
  have hw1c := (hcl 1 (by omega)).2
  have hw2c := (hcl 2 (by omega)).2
  have hw4c := (hcl 4 (by omega)).2
  have hwlc := (hcl (N - 2) (by omega)).2
  rw [e1] at hw1c
  rw [e2] at hw2c
  rw [e4] at hw4c
  rw [el] at hwlc
  have hwd : ∀ i (hi : i < ps.length), (spl 32 s.data.toList).getD i [] = ps[i].data.toList := fun i hi => by
    rw [← HPS.out]; simp [hi]
  have HW1 := Lib.hid (show (spl 32 s.data.toList).getD 1 [] = p1.data.toList by rw [hwd 1 (by omega), e1])
  have HW2 := Lib.hid (show (spl 32 s.data.toList).getD 2 [] = p2.data.toList by rw [hwd 2 (by omega), e2])
  have HW4 := Lib.hid (show (spl 32 s.data.toList).getD 4 [] = p4.data.toList by rw [hwd 4 (by omega), e4])
  have HWl := Lib.hid (show (spl 32 s.data.toList).getD (N - 2) [] = pl.data.toList by rw [hwd (N - 2) (by omega), el])
  have hsz : ∀ p ∈ ps, p.size ≤ 60 := fun p hp => by
    have hm : p.data.toList ∈ spl 32 s.data.toList := by rw [← HPS.out]; exact List.mem_map_of_mem hp
    have := spl_size 32 s.data.toList _ hm
    rw [size_list p]; omega
  have hz1 : p1.size ≤ 60 := by rw [← e1]; exact hsz _ (List.getElem_mem _)
  have hz2 : p2.size ≤ 60 := by rw [← e2]; exact hsz _ (List.getElem_mem _)
  have hz4 : p4.size ≤ 60 := by rw [← e4]; exact hsz _ (List.getElem_mem _)
  have hzl : pl.size ≤ 60 := by rw [← el]; exact hsz _ (List.getElem_mem _)
  clear hsz hwd hcl e1 e2 e4 el HOw HR1
  go_upto_region 3 with fail
  go_cut [29] (fun v wx => v = .bool (decide ((p1.size : Int) < 2)) ∧ wx = w1)
  case first => as_aux_lemma =>
    have i1 : (1 : Int) < N := by omega
    rcases c2 with c2 | c2
    · have n9 : ((N : Int) != 9) = false := by simp [c2]
      clear c2 hN
      go_wp2_with fail
      go_meet
      exact ⟨rfl, rfl⟩
    · have n9 : ((N : Int) != 9) = true := by rw [bne_iff_ne]; omega
      have n10 : ((N : Int) != 10) = false := by simp [c2]
      clear c2 hN
      go_wp2_with fail
      go_meet
      exact ⟨rfl, rfl⟩
  case rest => as_aux_lemma =>
    obtain ⟨rfl, hw⟩ := hcut
    have hw2 := hw.symm
    subst hw2
    have s6 : IntKind.i64.wrap ((N : Int) - 2) = (N : Int) - 2 := IntWalk.i64_in _ (by omega)
    have s7 : ((N : Int) - 2).toNat = N - 2 := by omega
    have s8 : (0 : Int) ≤ (N : Int) - 2 := by omega
    have s9 : (N : Int) - 2 < N := by omega
    have i1 : (1 : Int) < N := by omega
    have i2 : (2 : Int) < N := by omega
    have i4 : (4 : Int) < N := by omega
    by_cases c3 : p1.size < 2
    · have H := Lib.hid (show pCabS s.data.toList = (zC, false) by
        unfold pCabS wordsOk
        rw [HW1.out, decide_eq_false (show ¬ 2 ≤ p1.data.toList.length by rw [← size_list]; omega)]; simp)
      have c3' : decide ((p1.size : Int) < 2) = true := decide_eq_true (by omega)
      have zc := HZ1.out
      have z0 := zc.cell (j := 0) rfl
      have z1 := zc.cell (j := 1) rfl
      have z2 := zc.cell (j := 2) rfl
      have z3 := zc.cell (j := 3) rfl
      have z4 := zc.cell (j := 4) rfl
      have zf := zc.frozen
      have zl := zc.lt
      have HBz := Lib.hid HB1.out
      clear zc
      clear hN hs60 c2
      go_wp2_with fail
      exact bodyPost_ret (v := .tuple #[.agg #[.int .i64 (zC).n, .int .i64 (zC).s, .int .i64 (zC).e, .int .i64 (zC).t, .int .i64 (zC).r], .bool false]) (res_ps (x := zC) rfl rfl (HZ1.out.puts (us := Cbn.cells zC) rfl)) rfl ⟨retC H.out, puts_below (Nat.le_refl _) (Cbn.cells zC) _ 0 HBz.out⟩
    · have c3' : decide ((p1.size : Int) < 2) = false := decide_eq_false (by omega)
      have HOK := Lib.hid (show wordsOk s.data.toList = true by
        unfold wordsOk
        rw [HW1.out, HLen.out, decide_eq_true (show s.data.toList.length ≤ 60 by omega), decide_eq_true (show 2 ≤ p1.data.toList.length by rw [← size_list]; omega)]
        rcases (show N = 9 ∨ N = 10 by omega) with h | h <;> simp [h])
      obtain ⟨x, hx⟩ : ∃ x, p1.extract 0 (p1.size - 1) = x := ⟨_, rfl⟩
      have HXl := Lib.hid (show x.data.toList = p1.data.toList.take (p1.data.toList.length - 1) by rw [← hx, cut_list, List.drop_zero, Nat.sub_zero, ← size_list])
      have hxs : x.size ≤ 10000 := by rw [size_list x, HXl.out, List.length_take]; have := size_list p1; omega
      obtain ⟨⟨v0, b0⟩, hv0⟩ : ∃ v, parseP x.data.toList = v := ⟨_, rfl⟩
      obtain ⟨v1, hv1⟩ : ∃ v, (parseP p2.data.toList).1 = v := ⟨_, rfl⟩
      obtain ⟨v2, hv2⟩ : ∃ v, (parseP p4.data.toList).1 = v := ⟨_, rfl⟩
      obtain ⟨v4, hv4⟩ : ∃ v, (parseP pl.data.toList).1 = v := ⟨_, rfl⟩
      have HRd := Lib.hid (fun W => show Calls Tryd.prog 36 #[.string x] W fun e w' => e = .returned (.tuple #[.int .i64 v0, .bool b0]) ∧ Below W.heap.size W w' from by
        have h := l1Read_c x W (by omega)
        rw [hv0] at h; exact h)
      have HC := Lib.hid (show pCabS s.data.toList = cScan s.data.toList ⟨v0, v1, v2, 0, v4⟩ 4 by
        unfold pCabS
        rw [HOK.out, if_pos rfl]
        unfold cReadS
        rw [HW1.out, HW2.out, HW4.out, HLen.out, HWl.out, ← HXl.out, hv0, hv1, hv2, hv4])
      have HV1 := Lib.hid hv1
      have HV2 := Lib.hid hv2
      have HV4 := Lib.hid hv4
      have sA : (1 : Int) ≤ p1.size := by omega
      have s1 : ((p1.size : Int) - 1).toNat = p1.size - 1 := by omega
      have s2 : IntKind.i64.wrap ((p1.size : Int) - 1) = (p1.size : Int) - 1 := IntWalk.i64_in _ (by omega)
      have s3 : (0 : Int) ≤ (p1.size : Int) - 1 := by omega
      have s4 : (p1.size : Int) - 1 ≤ p1.size := by omega
      have s5 : min (p1.size - 1) p1.size = p1.size - 1 := by omega
      clear hv0 hv1 hv2 hv4 hN hs60 c2
      go_wp2_with fail
      obtain ⟨wb, hwb⟩ : ∃ v, w1.alloc (.cells #[.int .i64 0, .int .i64 0, .int .i64 0, .int .i64 0, .int .i64 0] 25) = v := ⟨_, rfl⟩
      have HX0 := Lib.hid (show PC w1 wb w1.heap.size [.int .i64 0, .int .i64 0, .int .i64 0, .int .i64 0, .int .i64 0] by
        rw [← hwb]
        exact ⟨Box.new w1 [.int .i64 0, .int .i64 0, .int .i64 0, .int .i64 0, .int .i64 0] 25, (Below.refl _ _).alloc (Nat.le_refl _) _, Nat.le_refl _⟩)
      rw [hwb]
      clear hwb
      obtain ⟨gx, hgx⟩ : ∃ gx, w1.heap.size = gx := ⟨_, rfl⟩
      rw [hgx] at HX0
      try rw [hgx]
      have hge : w1.heap.size ≤ gx := by omega
      have HJ0 := Lib.hid (show PCJ w1 gx (Array.replicate 15 false) wb.drew 14 [.int .i64 0, .int .i64 0, .int .i64 0, .int .i64 0, .int .i64 0] [.int .i64 v0, .int .i64 0, .int .i64 0, .int .i64 0, .int .i64 0] from ⟨HX0.out.2.1.drew, by
        rw [show (Array.replicate 15 false).getD 14 false = false from rfl]; exact HX0.out.1.drew⟩)
      clear hgx
      go_cut [32, 43, 44] (fun _ _ _ wx => PC w1 wx gx [.int .i64 v0, .int .i64 0, .int .i64 0, .int .i64 0, .int .i64 0])
      case first => as_aux_lemma =>
        rename_i K1 h1
        refine wp_region_relyC (readV gw N cw p1 x gx v0 b0) (fun L _ w => PCJ w1 gx L w 14 [.int .i64 0, .int .i64 0, .int .i64 0, .int .i64 0, .int .i64 0] [.int .i64 v0, .int .i64 0, .int .i64 0, .int .i64 0, .int .i64 0]) (by kernel_rfl) (by kernel_rfl) HJ0.out ⟨?_, ?_, ?_, ?_, ?_, ?_, ?_, ?_, ?_, ?_, ?_, ?_, ?_, ?_, ?_, trivial⟩ ?_
        · intro L a' w' hs9 hsz hl hj hf hd KK hK
          have HJ := Lib.hid hj
          have e104 : a'.tmps[4]?.getD undef = .slice (some ⟨gw, 0, none⟩) N cw := by simpa [Act.eval] using hf 4 (unwritten_of (by kernel_rfl))
          have HL := Lib.hid hl
          clear hf hd hj hs9 hl hsz
          go_simp
          exact hK _ _ rfl (HJ.out.put (by decide) (Below.refl _ _))
        · intro L a' w' hs9 hsz hl hj hf hd KK hK
          have HJ := Lib.hid hj
          have e33 : readV gw N cw p1 x gx v0 b0 0 (a'.tmps[33]?.getD undef) := by simpa [Act.eval] using (relyC_dep hd 0 (by kernel_rfl)).2 33 (by kernel_rfl)
          simp only [readV] at e33
          have HL := Lib.hid hl
          clear hf hd hj hs9 hl hsz
          go_simp
          exact hK _ _ rfl (HJ.out.put (by decide) (Below.refl _ _))
        · intro L a' w' hs9 hsz hl hj hf hd KK hK
          have HJ := Lib.hid hj
          have e34 : readV gw N cw p1 x gx v0 b0 1 (a'.tmps[34]?.getD undef) := by simpa [Act.eval] using (relyC_dep hd 1 (by kernel_rfl)).2 34 (by kernel_rfl)
          simp only [readV] at e34
          have q1 := (hj.1.cell (p := ⟨gw, 1, none⟩) hgw3).trans hw1c
          have HL := Lib.hid hl
          clear hf hd hj hs9 hl hsz
          go_simp
          exact hK _ _ rfl (HJ.out.put (by decide) (Below.refl _ _))
        · intro L a' w' hs9 hsz hl hj hf hd KK hK
          have HJ := Lib.hid hj
          have e104 : a'.tmps[4]?.getD undef = .slice (some ⟨gw, 0, none⟩) N cw := by simpa [Act.eval] using hf 4 (unwritten_of (by kernel_rfl))
          have HL := Lib.hid hl
          clear hf hd hj hs9 hl hsz
          go_simp
          exact hK _ _ rfl (HJ.out.put (by decide) (Below.refl _ _))
        · intro L a' w' hs9 hsz hl hj hf hd KK hK
          have HJ := Lib.hid hj
          have e36 : readV gw N cw p1 x gx v0 b0 3 (a'.tmps[36]?.getD undef) := by simpa [Act.eval] using (relyC_dep hd 3 (by kernel_rfl)).2 36 (by kernel_rfl)
          simp only [readV] at e36
          have HL := Lib.hid hl
          clear hf hd hj hs9 hl hsz
          go_simp
          exact hK _ _ rfl (HJ.out.put (by decide) (Below.refl _ _))
        · intro L a' w' hs9 hsz hl hj hf hd KK hK
          have HJ := Lib.hid hj
          have e37 : readV gw N cw p1 x gx v0 b0 4 (a'.tmps[37]?.getD undef) := by simpa [Act.eval] using (relyC_dep hd 4 (by kernel_rfl)).2 37 (by kernel_rfl)
          simp only [readV] at e37
          have q1 := (hj.1.cell (p := ⟨gw, 1, none⟩) hgw3).trans hw1c
          have HL := Lib.hid hl
          clear hf hd hj hs9 hl hsz
          go_simp
          exact hK _ _ rfl (HJ.out.put (by decide) (Below.refl _ _))
        · intro L a' w' hs9 hsz hl hj hf hd KK hK
          have HJ := Lib.hid hj
          have e38 : readV gw N cw p1 x gx v0 b0 5 (a'.tmps[38]?.getD undef) := by simpa [Act.eval] using (relyC_dep hd 5 (by kernel_rfl)).2 38 (by kernel_rfl)
          simp only [readV] at e38
          have HL := Lib.hid hl
          clear hf hd hj hs9 hl hsz
          go_simp
          exact hK _ _ rfl (HJ.out.put (by decide) (Below.refl _ _))
        · intro L a' w' hs9 hsz hl hj hf hd KK hK
          have HJ := Lib.hid hj
          have e39 : readV gw N cw p1 x gx v0 b0 6 (a'.tmps[39]?.getD undef) := by simpa [Act.eval] using (relyC_dep hd 6 (by kernel_rfl)).2 39 (by kernel_rfl)
          simp only [readV] at e39
          have HL := Lib.hid hl
          clear hf hd hj hs9 hl hsz
          go_simp
          exact hK _ _ rfl (HJ.out.put (by decide) (Below.refl _ _))
        · intro L a' w' hs9 hsz hl hj hf hd KK hK
          have HJ := Lib.hid hj
          have e35 : readV gw N cw p1 x gx v0 b0 2 (a'.tmps[35]?.getD undef) := by simpa [Act.eval] using (relyC_dep hd 2 (by kernel_rfl)).2 35 (by kernel_rfl)
          simp only [readV] at e35
          have e40 : readV gw N cw p1 x gx v0 b0 7 (a'.tmps[40]?.getD undef) := by simpa [Act.eval] using (relyC_dep hd 7 (by kernel_rfl)).2 40 (by kernel_rfl)
          simp only [readV] at e40
          have HL := Lib.hid hl
          clear hf hd hj hs9 hl hsz
          go_simp
          exact hK _ _ rfl (HJ.out.put (by decide) (Below.refl _ _))
        · intro L a' w' hs9 hsz hl hj hf hd KK hK
          have HJ := Lib.hid hj
          have e41 : readV gw N cw p1 x gx v0 b0 8 (a'.tmps[41]?.getD undef) := by simpa [Act.eval] using (relyC_dep hd 8 (by kernel_rfl)).2 41 (by kernel_rfl)
          simp only [readV] at e41
          have HL := Lib.hid hl
          clear hf hd hj hs9 hl hsz
          go_simp
          refine (HRd.out w').mono ?_
          rintro e wx ⟨rfl, hbx⟩
          exact hK _ _ rfl (HJ.out.put (by decide) hbx)
        · intro L a' w' hs9 hsz hl hj hf hd KK hK
          have HJ := Lib.hid hj
          have e42 : readV gw N cw p1 x gx v0 b0 9 (a'.tmps[42]?.getD undef) := by simpa [Act.eval] using (relyC_dep hd 9 (by kernel_rfl)).2 42 (by kernel_rfl)
          simp only [readV] at e42
          have HL := Lib.hid hl
          clear hf hd hj hs9 hl hsz
          go_simp
          exact hK _ _ rfl (HJ.out.put (by decide) (Below.refl _ _))
        · intro L a' w' hs9 hsz hl hj hf hd KK hK
          have HJ := Lib.hid hj
          have e32 : readV gw N cw p1 x gx v0 b0 10 (a'.tmps[32]?.getD undef) := by simpa [Act.eval] using (relyC_dep hd 10 (by kernel_rfl)).2 32 (by kernel_rfl)
          simp only [readV] at e32
          have HL := Lib.hid hl
          clear hf hd hj hs9 hl hsz
          go_simp
          exact hK _ _ rfl (HJ.out.put (by decide) (Below.refl _ _))
        · intro L a' w' hs9 hsz hl hj hf hd KK hK
          have HJ := Lib.hid hj
          have e32 : readV gw N cw p1 x gx v0 b0 10 (a'.tmps[32]?.getD undef) := by simpa [Act.eval] using (relyC_dep hd 10 (by kernel_rfl)).2 32 (by kernel_rfl)
          simp only [readV] at e32
          have HL := Lib.hid hl
          clear hf hd hj hs9 hl hsz
          go_simp
          exact hK _ _ rfl (HJ.out.put (by decide) (Below.refl _ _))
        · intro L a' w' hs9 hsz hl hj hf hd KK hK
          have HJ := Lib.hid hj
          have e106 : a'.tmps[6]?.getD undef = .pointer (some ⟨gx, 0, none⟩) := by simpa [Act.eval] using hf 6 (unwritten_of (by kernel_rfl))
          have HL := Lib.hid hl
          clear hf hd hj hs9 hl hsz
          go_simp
          exact hK _ _ rfl (HJ.out.put (by decide) (Below.refl _ _))
        · intro L a' w' hs9 hsz hl hj hf hd KK hK
          have HJ := Lib.hid hj
          have e45 : readV gw N cw p1 x gx v0 b0 13 (a'.tmps[45]?.getD undef) := by simpa [Act.eval] using (relyC_dep hd 13 (by kernel_rfl)).2 45 (by kernel_rfl)
          simp only [readV] at e45
          have e43 : readV gw N cw p1 x gx v0 b0 11 (a'.tmps[43]?.getD undef) := by simpa [Act.eval] using (relyC_dep hd 11 (by kernel_rfl)).2 43 (by kernel_rfl)
          simp only [readV] at e43
          have hbx := hj.old (false_of_trueC hl).2
          have x0 := hbx.cell (j := 0) rfl
          have xf := hbx.frozen
          have xl := hbx.lt
          have HN := Lib.hid (HJ.out.stored hl (v := .int .i64 v0) (j := 0) HX0.out.2.2 rfl)
          clear hbx
          have HL := Lib.hid hl
          clear hf hd hj hs9 hl hsz
          go_simp
          exact hK (.bool false) _ trivial HN.out
        intro L a' w' hj hL hsz hdf hfr hvs
        have hdone := hj.done hL (by decide) hge
        have HD9 := Lib.hid hdone
        clear hdone
        obtain ⟨tm, df⟩ := a'
        obtain ⟨ts, rfl⟩ : ∃ ts : List Value, tm = ts.toArray := ⟨tm.toList, by simp⟩
        simp only at hdf
        subst hdf
        have hlen : ts.length = 88 := by simpa using hsz
        have f0 := hfr 0 (unwritten_of (by kernel_rfl))
        have f1 := hfr 1 (unwritten_of (by kernel_rfl))
        have f2 := hfr 2 (unwritten_of (by kernel_rfl))
        have f3 := hfr 3 (unwritten_of (by kernel_rfl))
        have f4 := hfr 4 (unwritten_of (by kernel_rfl))
        have f5 := hfr 5 (unwritten_of (by kernel_rfl))
        have f6 := hfr 6 (unwritten_of (by kernel_rfl))
        have f7 := hfr 7 (unwritten_of (by kernel_rfl))
        have f8 := hfr 8 (unwritten_of (by kernel_rfl))
        have f9 := hfr 9 (unwritten_of (by kernel_rfl))
        have f10 := hfr 10 (unwritten_of (by kernel_rfl))
        have f11 := hfr 11 (unwritten_of (by kernel_rfl))
        have f12 := hfr 12 (unwritten_of (by kernel_rfl))
        have f13 := hfr 13 (unwritten_of (by kernel_rfl))
        have f14 := hfr 14 (unwritten_of (by kernel_rfl))
        have f15 := hfr 15 (unwritten_of (by kernel_rfl))
        have f16 := hfr 16 (unwritten_of (by kernel_rfl))
        have f17 := hfr 17 (unwritten_of (by kernel_rfl))
        have f18 := hfr 18 (unwritten_of (by kernel_rfl))
        have f19 := hfr 19 (unwritten_of (by kernel_rfl))
        have f20 := hfr 20 (unwritten_of (by kernel_rfl))
        have f21 := hfr 21 (unwritten_of (by kernel_rfl))
        have f22 := hfr 22 (unwritten_of (by kernel_rfl))
        have f23 := hfr 23 (unwritten_of (by kernel_rfl))
        have f24 := hfr 24 (unwritten_of (by kernel_rfl))
        have f25 := hfr 25 (unwritten_of (by kernel_rfl))
        have f26 := hfr 26 (unwritten_of (by kernel_rfl))
        have f27 := hfr 27 (unwritten_of (by kernel_rfl))
        have f28 := hfr 28 (unwritten_of (by kernel_rfl))
        have f29 := hfr 29 (unwritten_of (by kernel_rfl))
        have f30 := hfr 30 (unwritten_of (by kernel_rfl))
        have f31 := hfr 31 (unwritten_of (by kernel_rfl))
        have f46 := hfr 46 (unwritten_of (by kernel_rfl))
        have f47 := hfr 47 (unwritten_of (by kernel_rfl))
        have f48 := hfr 48 (unwritten_of (by kernel_rfl))
        have f49 := hfr 49 (unwritten_of (by kernel_rfl))
        have f50 := hfr 50 (unwritten_of (by kernel_rfl))
        have f51 := hfr 51 (unwritten_of (by kernel_rfl))
        have f52 := hfr 52 (unwritten_of (by kernel_rfl))
        have f53 := hfr 53 (unwritten_of (by kernel_rfl))
        have f54 := hfr 54 (unwritten_of (by kernel_rfl))
        have f55 := hfr 55 (unwritten_of (by kernel_rfl))
        have f56 := hfr 56 (unwritten_of (by kernel_rfl))
        have f57 := hfr 57 (unwritten_of (by kernel_rfl))
        have f58 := hfr 58 (unwritten_of (by kernel_rfl))
        have f59 := hfr 59 (unwritten_of (by kernel_rfl))
        have f60 := hfr 60 (unwritten_of (by kernel_rfl))
        have f61 := hfr 61 (unwritten_of (by kernel_rfl))
        have f62 := hfr 62 (unwritten_of (by kernel_rfl))
        have f63 := hfr 63 (unwritten_of (by kernel_rfl))
        have f64 := hfr 64 (unwritten_of (by kernel_rfl))
        have f65 := hfr 65 (unwritten_of (by kernel_rfl))
        have f66 := hfr 66 (unwritten_of (by kernel_rfl))
        have f67 := hfr 67 (unwritten_of (by kernel_rfl))
        have f68 := hfr 68 (unwritten_of (by kernel_rfl))
        have f69 := hfr 69 (unwritten_of (by kernel_rfl))
        have f70 := hfr 70 (unwritten_of (by kernel_rfl))
        have f71 := hfr 71 (unwritten_of (by kernel_rfl))
        have f72 := hfr 72 (unwritten_of (by kernel_rfl))
        have f73 := hfr 73 (unwritten_of (by kernel_rfl))
        have f74 := hfr 74 (unwritten_of (by kernel_rfl))
        have f75 := hfr 75 (unwritten_of (by kernel_rfl))
        have f76 := hfr 76 (unwritten_of (by kernel_rfl))
        have f77 := hfr 77 (unwritten_of (by kernel_rfl))
        have f78 := hfr 78 (unwritten_of (by kernel_rfl))
        have f79 := hfr 79 (unwritten_of (by kernel_rfl))
        have f80 := hfr 80 (unwritten_of (by kernel_rfl))
        have f81 := hfr 81 (unwritten_of (by kernel_rfl))
        have f82 := hfr 82 (unwritten_of (by kernel_rfl))
        have f83 := hfr 83 (unwritten_of (by kernel_rfl))
        have f84 := hfr 84 (unwritten_of (by kernel_rfl))
        have f85 := hfr 85 (unwritten_of (by kernel_rfl))
        have f86 := hfr 86 (unwritten_of (by kernel_rfl))
        have f87 := hfr 87 (unwritten_of (by kernel_rfl))
        clear hfr hvs hsz hj hL
        rcases ts with _ | ⟨y0, ts⟩
        · simp at hlen
        rcases ts with _ | ⟨y1, ts⟩
        · simp at hlen
        rcases ts with _ | ⟨y2, ts⟩
        · simp at hlen
        rcases ts with _ | ⟨y3, ts⟩
        · simp at hlen
        rcases ts with _ | ⟨y4, ts⟩
        · simp at hlen
        rcases ts with _ | ⟨y5, ts⟩
        · simp at hlen
        rcases ts with _ | ⟨y6, ts⟩
        · simp at hlen
        rcases ts with _ | ⟨y7, ts⟩
        · simp at hlen
        rcases ts with _ | ⟨y8, ts⟩
        · simp at hlen
        rcases ts with _ | ⟨y9, ts⟩
        · simp at hlen
        rcases ts with _ | ⟨y10, ts⟩
        · simp at hlen
        rcases ts with _ | ⟨y11, ts⟩
        · simp at hlen
        rcases ts with _ | ⟨y12, ts⟩
        · simp at hlen
        rcases ts with _ | ⟨y13, ts⟩
        · simp at hlen
        rcases ts with _ | ⟨y14, ts⟩
        · simp at hlen
        rcases ts with _ | ⟨y15, ts⟩
        · simp at hlen
        rcases ts with _ | ⟨y16, ts⟩
        · simp at hlen
        rcases ts with _ | ⟨y17, ts⟩
        · simp at hlen
        rcases ts with _ | ⟨y18, ts⟩
        · simp at hlen
        rcases ts with _ | ⟨y19, ts⟩
        · simp at hlen
        rcases ts with _ | ⟨y20, ts⟩
        · simp at hlen
        rcases ts with _ | ⟨y21, ts⟩
        · simp at hlen
        rcases ts with _ | ⟨y22, ts⟩
        · simp at hlen
        rcases ts with _ | ⟨y23, ts⟩
        · simp at hlen
        rcases ts with _ | ⟨y24, ts⟩
        · simp at hlen
        rcases ts with _ | ⟨y25, ts⟩
        · simp at hlen
        rcases ts with _ | ⟨y26, ts⟩
        · simp at hlen
        rcases ts with _ | ⟨y27, ts⟩
        · simp at hlen
        rcases ts with _ | ⟨y28, ts⟩
        · simp at hlen
        rcases ts with _ | ⟨y29, ts⟩
        · simp at hlen
        rcases ts with _ | ⟨y30, ts⟩
        · simp at hlen
        rcases ts with _ | ⟨y31, ts⟩
        · simp at hlen
        rcases ts with _ | ⟨y32, ts⟩
        · simp at hlen
        rcases ts with _ | ⟨y33, ts⟩
        · simp at hlen
        rcases ts with _ | ⟨y34, ts⟩
        · simp at hlen
        rcases ts with _ | ⟨y35, ts⟩
        · simp at hlen
        rcases ts with _ | ⟨y36, ts⟩
        · simp at hlen
        rcases ts with _ | ⟨y37, ts⟩
        · simp at hlen
        rcases ts with _ | ⟨y38, ts⟩
        · simp at hlen
        rcases ts with _ | ⟨y39, ts⟩
        · simp at hlen
        rcases ts with _ | ⟨y40, ts⟩
        · simp at hlen
        rcases ts with _ | ⟨y41, ts⟩
        · simp at hlen
        rcases ts with _ | ⟨y42, ts⟩
        · simp at hlen
        rcases ts with _ | ⟨y43, ts⟩
        · simp at hlen
        rcases ts with _ | ⟨y44, ts⟩
        · simp at hlen
        rcases ts with _ | ⟨y45, ts⟩
        · simp at hlen
        rcases ts with _ | ⟨y46, ts⟩
        · simp at hlen
        rcases ts with _ | ⟨y47, ts⟩
        · simp at hlen
        rcases ts with _ | ⟨y48, ts⟩
        · simp at hlen
        rcases ts with _ | ⟨y49, ts⟩
        · simp at hlen
        rcases ts with _ | ⟨y50, ts⟩
        · simp at hlen
        rcases ts with _ | ⟨y51, ts⟩
        · simp at hlen
        rcases ts with _ | ⟨y52, ts⟩
        · simp at hlen
        rcases ts with _ | ⟨y53, ts⟩
        · simp at hlen
        rcases ts with _ | ⟨y54, ts⟩
        · simp at hlen
        rcases ts with _ | ⟨y55, ts⟩
        · simp at hlen
        rcases ts with _ | ⟨y56, ts⟩
        · simp at hlen
        rcases ts with _ | ⟨y57, ts⟩
        · simp at hlen
        rcases ts with _ | ⟨y58, ts⟩
        · simp at hlen
        rcases ts with _ | ⟨y59, ts⟩
        · simp at hlen
        rcases ts with _ | ⟨y60, ts⟩
        · simp at hlen
        rcases ts with _ | ⟨y61, ts⟩
        · simp at hlen
        rcases ts with _ | ⟨y62, ts⟩
        · simp at hlen
        rcases ts with _ | ⟨y63, ts⟩
        · simp at hlen
        rcases ts with _ | ⟨y64, ts⟩
        · simp at hlen
        rcases ts with _ | ⟨y65, ts⟩
        · simp at hlen
        rcases ts with _ | ⟨y66, ts⟩
        · simp at hlen
        rcases ts with _ | ⟨y67, ts⟩
        · simp at hlen
        rcases ts with _ | ⟨y68, ts⟩
        · simp at hlen
        rcases ts with _ | ⟨y69, ts⟩
        · simp at hlen
        rcases ts with _ | ⟨y70, ts⟩
        · simp at hlen
        rcases ts with _ | ⟨y71, ts⟩
        · simp at hlen
        rcases ts with _ | ⟨y72, ts⟩
        · simp at hlen
        rcases ts with _ | ⟨y73, ts⟩
        · simp at hlen
        rcases ts with _ | ⟨y74, ts⟩
        · simp at hlen
        rcases ts with _ | ⟨y75, ts⟩
        · simp at hlen
        rcases ts with _ | ⟨y76, ts⟩
        · simp at hlen
        rcases ts with _ | ⟨y77, ts⟩
        · simp at hlen
        rcases ts with _ | ⟨y78, ts⟩
        · simp at hlen
        rcases ts with _ | ⟨y79, ts⟩
        · simp at hlen
        rcases ts with _ | ⟨y80, ts⟩
        · simp at hlen
        rcases ts with _ | ⟨y81, ts⟩
        · simp at hlen
        rcases ts with _ | ⟨y82, ts⟩
        · simp at hlen
        rcases ts with _ | ⟨y83, ts⟩
        · simp at hlen
        rcases ts with _ | ⟨y84, ts⟩
        · simp at hlen
        rcases ts with _ | ⟨y85, ts⟩
        · simp at hlen
        rcases ts with _ | ⟨y86, ts⟩
        · simp at hlen
        rcases ts with _ | ⟨y87, ts⟩
        · simp at hlen
        obtain rfl : ts = [] := List.eq_nil_of_length_eq_zero (by simpa using hlen)
        simp only [Act.eval, Array.getD_eq_getD_getElem?, List.getElem?_toArray, List.getElem?_cons_succ, List.getElem?_cons_zero, Option.getD_some] at f0 f1 f2 f3 f4 f5 f6 f7 f8 f9 f10 f11 f12 f13 f14 f15 f16 f17 f18 f19 f20 f21 f22 f23 f24 f25 f26 f27 f28 f29 f30 f31 f46 f47 f48 f49 f50 f51 f52 f53 f54 f55 f56 f57 f58 f59 f60 f61 f62 f63 f64 f65 f66 f67 f68 f69 f70 f71 f72 f73 f74 f75 f76 f77 f78 f79 f80 f81 f82 f83 f84 f85 f86 f87
        subst f0 f1 f2 f3 f4 f5 f6 f7 f8 f9 f10 f11 f12 f13 f14 f15 f16 f17 f18 f19 f20 f21 f22 f23 f24 f25 f26 f27 f28 f29 f30 f31 f46 f47 f48 f49 f50 f51 f52 f53 f54 f55 f56 f57 f58 f59 f60 f61 f62 f63 f64 f65 f66 f67 f68 f69 f70 f71 f72 f73 f74 f75 f76 f77 f78 f79 f80 f81 f82 f83 f84 f85 f86 f87
        clear hlen
        refine h1 _ _ (Met.intro ?_)
        refine K1 _ _ ?_
        (repeat apply Exists.intro)
        exact ⟨HD9.out, rfl⟩
      case rest => as_aux_lemma =>
        have HX1 := Lib.hid hcut
        have k2 := (HX1.out.2.1.cell (p := ⟨gw, 2, none⟩) hgw3).trans hw2c
        clear hcut
        go_wp2_with fail
        refine (int_of (v := v1) (l1Read_c p2 _ (by have := hz2; omega)) HV1.out).mono ?_
        rintro e w9 ⟨bb, rfl, hb9⟩
        have HX9 := Lib.hid (HX1.out.carry hb9)
        have hx9 := HX9.out.1
        have x0 := hx9.cell (j := 0) rfl
        have x1 := hx9.cell (j := 1) rfl
        have x2 := hx9.cell (j := 2) rfl
        have x3 := hx9.cell (j := 3) rfl
        have x4 := hx9.cell (j := 4) rfl
        have xf := hx9.frozen
        have xl := hx9.lt
        have k2 := (HX9.out.2.1.cell (p := ⟨gw, 2, none⟩) hgw3).trans hw2c
        have k4 := (HX9.out.2.1.cell (p := ⟨gw, 4, none⟩) hgw3).trans hw4c
        have kl := (HX9.out.2.1.cell (p := ⟨gw, N - 2, none⟩) hgw3).trans hwlc
        have HX2 := Lib.hid (HX9.out.store 1 (.int .i64 v1))
        clear hb9 hx9 HX9
        go_wp2_with fail
        refine (int_of (v := v2) (l1Read_c p4 _ (by have := hz4; omega)) HV2.out).mono ?_
        rintro e w9 ⟨bb, rfl, hb9⟩
        have HX9 := Lib.hid (HX2.out.carry hb9)
        have hx9 := HX9.out.1
        have x0 := hx9.cell (j := 0) rfl
        have x1 := hx9.cell (j := 1) rfl
        have x2 := hx9.cell (j := 2) rfl
        have x3 := hx9.cell (j := 3) rfl
        have x4 := hx9.cell (j := 4) rfl
        have xf := hx9.frozen
        have xl := hx9.lt
        have k2 := (HX9.out.2.1.cell (p := ⟨gw, 2, none⟩) hgw3).trans hw2c
        have k4 := (HX9.out.2.1.cell (p := ⟨gw, 4, none⟩) hgw3).trans hw4c
        have kl := (HX9.out.2.1.cell (p := ⟨gw, N - 2, none⟩) hgw3).trans hwlc
        have HX3 := Lib.hid (HX9.out.store 2 (.int .i64 v2))
        clear hb9 hx9 HX9
        go_wp2_with fail
        refine (int_of (v := v4) (l1Read_c pl _ (by have := hzl; omega)) HV4.out).mono ?_
        rintro e w9 ⟨bb, rfl, hb9⟩
        have HX9 := Lib.hid (HX3.out.carry hb9)
        have hx9 := HX9.out.1
        have x0 := hx9.cell (j := 0) rfl
        have x1 := hx9.cell (j := 1) rfl
        have x2 := hx9.cell (j := 2) rfl
        have x3 := hx9.cell (j := 3) rfl
        have x4 := hx9.cell (j := 4) rfl
        have xf := hx9.frozen
        have xl := hx9.lt
        have k2 := (HX9.out.2.1.cell (p := ⟨gw, 2, none⟩) hgw3).trans hw2c
        have k4 := (HX9.out.2.1.cell (p := ⟨gw, 4, none⟩) hgw3).trans hw4c
        have kl := (HX9.out.2.1.cell (p := ⟨gw, N - 2, none⟩) hgw3).trans hwlc
        have HX4 := Lib.hid (HX9.out.store 4 (.int .i64 v4))
        clear hb9 hx9 HX9
        go_wp2_with fail
        clear x0 x1 x2 x3 x4 xf xl k2 k4 kl
        go_loopw [7] (fun i wr => ∃ (k : Nat) (tk : Int), k ≤ 4 ∧ i = .int .i64 k ∧ PC w1 wr gx [.int .i64 v0, .int .i64 v1, .int .i64 v2, .int .i64 tk, .int .i64 v4] ∧ pCabS s.data.toList = cScan s.data.toList ⟨v0, v1, v2, 0, v4⟩ (4 - k)) (fun i _ => 4 - (intOf i).toNat)
        case atStart => exact ⟨0, 0, Nat.zero_le _, rfl, HX4.out, HC.out⟩
        case round =>
          obtain ⟨k, tk, hk, rfl, hpc, hsc⟩ := hrel
          have HP := Lib.hid hpc
          have HSc := Lib.hid hsc
          have hx := hpc.1
          have x0 := hx.cell (j := 0) rfl
          have x1 := hx.cell (j := 1) rfl
          have x2 := hx.cell (j := 2) rfl
          have x3 := hx.cell (j := 3) rfl
          have x4 := hx.cell (j := 4) rfl
          have xf := hx.frozen
          have xl := hx.lt
          clear hpc hsc hx
          by_cases hlt : k < 4
          · obtain ⟨m, hm⟩ : ∃ m, 4 - k = m + 1 := ⟨3 - k, by omega⟩
            have HSS := Lib.hid (show pCabS s.data.toList = if okC ⟨v0, v1, v2, (k : Int), v4⟩ = true ∧ cabL ⟨v0, v1, v2, (k : Int), v4⟩ = s.data.toList then (⟨v0, v1, v2, (k : Int), v4⟩, true) else cScan s.data.toList ⟨v0, v1, v2, 0, v4⟩ (4 - (k + 1)) by
              rw [HSc.out, hm, cScan, show (3 : Int) - m = k by omega, show 4 - (k + 1) = m by omega]; rfl)
            clear hm
            go_wp2_with fail
            refine (l5One_c ⟨v0, v1, v2, (k : Int), v4⟩ _).mono ?_
            rintro e wi ⟨rfl, hbi⟩
            have HPi := Lib.hid ((HP.out.store 3 (.int .i64 (k : Int))).carry hbi)
            have hxi := HPi.out.1
            clear x0 x1 x2 x3 x4 xf xl hbi
            have x0 := hxi.cell (j := 0) (v := .int .i64 v0) rfl
            have x1 := hxi.cell (j := 1) (v := .int .i64 v1) rfl
            have x2 := hxi.cell (j := 2) (v := .int .i64 v2) rfl
            have x3 := hxi.cell (j := 3) (v := .int .i64 (k : Int)) rfl
            have x4 := hxi.cell (j := 4) (v := .int .i64 v4) rfl
            have xl := hxi.lt
            clear hxi
            rcases hok : okC ⟨v0, v1, v2, (k : Int), v4⟩ with _ | _
            · have HN := Lib.hid (HSS.out.trans (if_neg (fun h => by rw [hok] at h; exact absurd h.1 (by decide))))
              clear hok
              go_wp2_with fail
              go_roundw
              case rel => exact ⟨k + 1, k, by omega, by go_num, HPi.out, HN.out⟩
              case measure => simp [intOf]; omega
            · obtain ⟨t, ht⟩ : ∃ t, S (cabL ⟨v0, v1, v2, (k : Int), v4⟩) = t := ⟨_, rfl⟩
              have HTt := Lib.hid ht
              have HOk := Lib.hid hok
              have HTx := Lib.hid (fun W => str_of (specText_c ⟨v0, v1, v2, (k : Int), v4⟩ W hok) ht)
              clear hok ht
              go_wp2_with fail
              refine (HTx.out _).mono ?_
              rintro e wt ⟨rfl, hbt⟩
              have HPt := Lib.hid (HPi.out.carry hbt)
              have hxt := HPt.out.1
              clear x0 x1 x2 x3 x4 xl hbt
              have x0 := hxt.cell (j := 0) (v := .int .i64 v0) rfl
              have x1 := hxt.cell (j := 1) (v := .int .i64 v1) rfl
              have x2 := hxt.cell (j := 2) (v := .int .i64 v2) rfl
              have x3 := hxt.cell (j := 3) (v := .int .i64 (k : Int)) rfl
              have x4 := hxt.cell (j := 4) (v := .int .i64 v4) rfl
              have xl := hxt.lt
              clear hxt
              by_cases hq : t = s
              · have H := Lib.hid (HSS.out.trans (if_pos ⟨HOk.out, by rw [← hq, ← HTt.out, S_data]⟩))
                have hq' : (t.toList == s.toList) = true := by rw [hq]; simp
                have HZt := Lib.hid (HZ1.out.carry HPt.out.2.1)
                have HBt := Lib.hid (HB1.out.trans (HPt.out.2.1.mono HB1.out.size))
                have zc := HZt.out
                have z0 := zc.cell (j := 0) rfl
                have z1 := zc.cell (j := 1) rfl
                have z2 := zc.cell (j := 2) rfl
                have z3 := zc.cell (j := 3) rfl
                have z4 := zc.cell (j := 4) rfl
                have zf := zc.frozen
                have zl := zc.lt
                have HBz := Lib.hid HBt.out
                clear zc
                clear hq
                go_wp2_with fail
                exact bodyPost_ret (v := .tuple #[.agg #[.int .i64 ((⟨v0, v1, v2, (k : Int), v4⟩ : Cbn)).n, .int .i64 ((⟨v0, v1, v2, (k : Int), v4⟩ : Cbn)).s, .int .i64 ((⟨v0, v1, v2, (k : Int), v4⟩ : Cbn)).e, .int .i64 ((⟨v0, v1, v2, (k : Int), v4⟩ : Cbn)).t, .int .i64 ((⟨v0, v1, v2, (k : Int), v4⟩ : Cbn)).r], .bool true]) (res_ps (x := (⟨v0, v1, v2, (k : Int), v4⟩ : Cbn)) rfl rfl (HZt.out.puts (us := Cbn.cells (⟨v0, v1, v2, (k : Int), v4⟩ : Cbn)) rfl)) rfl ⟨retC H.out, puts_below (Nat.le_refl _) (Cbn.cells (⟨v0, v1, v2, (k : Int), v4⟩ : Cbn)) _ 0 HBz.out⟩
              · have HN := Lib.hid (HSS.out.trans (if_neg (fun h => hq (by rw [← HTt.out, h.2]; exact (S_of s).symm))))
                have hq' : (t.toList == s.toList) = false := by rw [beq_eq_false_iff_ne]; intro e; exact hq (toList_inj e)
                clear hq
                go_wp2_with fail
                go_roundw
                case rel => exact ⟨k + 1, k, by omega, by go_num, HPt.out, HN.out⟩
                case measure => simp [intOf]; omega
          · obtain rfl : k = 4 := by omega
            have H := Lib.hid (show pCabS s.data.toList = (zC, false) by rw [HSc.out]; rfl)
            have HZr := Lib.hid (HZ1.out.carry HP.out.2.1)
            have HBr := Lib.hid (HB1.out.trans (HP.out.2.1.mono HB1.out.size))
            have zc := HZr.out
            have z0 := zc.cell (j := 0) rfl
            have z1 := zc.cell (j := 1) rfl
            have z2 := zc.cell (j := 2) rfl
            have z3 := zc.cell (j := 3) rfl
            have z4 := zc.cell (j := 4) rfl
            have zf := zc.frozen
            have zl := zc.lt
            have HBz := Lib.hid HBr.out
            clear zc
            go_wp2_with fail
            exact bodyPost_ret (v := .tuple #[.agg #[.int .i64 (zC).n, .int .i64 (zC).s, .int .i64 (zC).e, .int .i64 (zC).t, .int .i64 (zC).r], .bool false]) (res_ps (x := zC) rfl rfl (HZr.out.puts (us := Cbn.cells zC) rfl)) rfl ⟨retC H.out, puts_below (Nat.le_refl _) (Cbn.cells zC) _ 0 HBz.out⟩
end Go.Proofs.YteoajaichjojdaaDoor
