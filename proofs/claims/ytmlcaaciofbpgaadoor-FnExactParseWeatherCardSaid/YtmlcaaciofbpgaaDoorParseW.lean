/- The program's ParseWeather returns the Lean function; no conditions but the length and what the library's text lays. -/
import Derived.Test.YtmlcaaciofbpgaaDoorWeaWalk
import Derived.Test.YtmlcaaciofbpgaaDoorParseD
import Derived.Test.YtmlcaaciofbpgaaDoorL1Split
import Derived.Test.YtmlcaaciofbpgaaDoorRelyA
import Derived.Deep.DeepCutAuto
namespace Go.Proofs.YtmlcaaciofbpgaaDoor
open Go.RowKit

theorem split_len (sep : List UInt8) (h0 : sep ≠ []) : ∀ (n : Nat) (s : List UInt8), s.length ≤ n → (Lib.split s sep).length = Lib.count s sep + 1 := fun n => by
  induction n with
  | zero =>
    intro s hs
    have : s = [] := List.eq_nil_of_length_eq_zero (by omega)
    subst this
    rcases Lib.index_spec [] sep with ⟨h, _⟩ | ⟨i, h, _⟩
    · unfold Lib.split; rw [Lib.count_miss h]; rfl
    · have h2 := Lib.index_room [] sep (by omega)
      have : 0 < sep.length := List.length_pos_iff.2 h0
      simp at h2; omega
  | succ n ih =>
    intro s hs
    rcases Lib.index_spec s sep with ⟨h, _⟩ | ⟨i, h, _⟩
    · unfold Lib.split; rw [Lib.count_miss h]; rfl
    · have h2 := Lib.index_room s sep (by omega)
      have h3 : 0 < sep.length := List.length_pos_iff.2 h0
      have h4 := ih (s.drop (i + sep.length)) (by simp; omega)
      unfold Lib.split at h4 ⊢
      rw [Lib.count_hit h0 h, Nat.add_comm 1, Lib.splitK, if_neg (by simp; omega)]
      rw [show (Lib.index s sep).toNat = i by omega, List.length_cons, h4]
theorem split_c (s : ByteArray) (w : World) (hs : s.size ≤ 2000000) (hM : MaxL w) : Calls Tryd.prog 11 #[.string s, .string ⟨#[44, 32]⟩] w fun e w' => ∃ ps : List ByteArray, ps.map (·.data.toList) = Lib.split s.data.toList [44, 32] ∧ e = .returned (.slice (some ⟨w.heap.size, 0, none⟩) ps.length ps.length) ∧ w' = w.alloc (.cells (ps.map Value.string).toArray 9) := by
  obtain ⟨m, hm⟩ := hM.2
  refine (Tryd.strings_Split s ⟨#[44, 32]⟩ m w (by omega) hm (by decide)).mono ?_
  rintro e w' ⟨rfl, rfl⟩
  have h1 := Lib.splitB_data ⟨#[44, 32]⟩ 0 (Lib.countB s ⟨#[44, 32]⟩) s
  have h2 : (Lib.splitB ⟨#[44, 32]⟩ 0 (Lib.countB s ⟨#[44, 32]⟩) s).length = Lib.countB s ⟨#[44, 32]⟩ + 1 := by
    have := congrArg List.length h1
    rw [List.length_map] at this
    rw [this]
    exact split_len [44, 32] (by simp) s.data.toList.length s.data.toList (Nat.le_refl _)
  exact ⟨_, h1, by rw [h2], rfl⟩
theorem cut2_c (s sep : ByteArray) (w : World) (hs : s.size ≤ 2000000) (hM : MaxL w) : Calls Tryd.prog 12 #[.string s, .string sep] w fun e w' => ∃ (a b : ByteArray) (c : Bool), a.data.toList = (Lib.cut s.data.toList sep.data.toList).1 ∧ b.data.toList = (Lib.cut s.data.toList sep.data.toList).2.1 ∧ e = .returned (.tuple #[.string a, .string b, .bool c]) ∧ Below w.heap.size w w' := by
  obtain ⟨m, hm⟩ := hM.2
  refine (Tryd.strings_Cut s sep m w (by omega) hm).mono ?_
  rintro e w' ⟨rfl, n, rfl⟩
  exact ⟨_, _, _, rfl, rfl, rfl, below_drewN _ _⟩
theorem cut_size (s sep : List UInt8) : (Lib.cut s sep).1.length ≤ s.length ∧ (Lib.cut s sep).2.1.length ≤ s.length := by
  unfold Lib.cut
  split
  · constructor <;> simp <;> omega
  · simp
theorem split_size (sep : List UInt8) : ∀ (k : Nat) (s : List UInt8), ∀ p ∈ Lib.splitK sep 0 k s, p.length ≤ s.length
  | 0, s, p, h => by simp [Lib.splitK] at h; subst h; exact Nat.le_refl _
  | k + 1, s, p, h => by
    rw [Lib.splitK] at h
    split at h
    · simp at h; subst h; exact Nat.le_refl _
    · rcases List.mem_cons.1 h with h | h
      · subst h; simp; omega
      · have := split_size sep k _ p h
        simp at this; omega
theorem trimS_c (s : ByteArray) (w : World) (hs : s.size ≤ 2000000) : Calls Tryd.prog 14 #[.string s, .string ⟨#[32, 67]⟩] w fun e w' => ∃ a : ByteArray, a.data.toList = Lib.trimSuffix s.data.toList [32, 67] ∧ e = .returned (.string a) ∧ w' = w := by
  refine (Tryd.strings_TrimSuffix s ⟨#[32, 67]⟩ w (by omega)).mono ?_
  rintro e w' ⟨rfl, rfl⟩
  exact ⟨_, rfl, rfl, rfl⟩
theorem trim_size (s : List UInt8) : (Lib.trimSuffix s [32, 67]).length ≤ s.length := by
  unfold Lib.trimSuffix
  split <;> simp
theorem pGiveI_few {s : List UInt8} {ps : List (List UInt8)} (h : Lib.split s [44, 32] = ps) (hn : ¬ (2 ≤ ps.length ∧ ps.length ≤ 3)) : pGiveI s = (⟨0, 0, 0, 0, false⟩, false) := by
  unfold pGiveI
  rw [h]
  rcases ps with _ | ⟨a, _ | ⟨b, _ | ⟨c, _ | ⟨d, ps⟩⟩⟩⟩
  · rfl
  · rfl
  · simp at hn
  · simp at hn
  · rfl
theorem pGiveI_some {s p0 p1 : List UInt8} {ps : List (List UInt8)} (h : Lib.split s [44, 32] = p0 :: p1 :: ps) (hn : ps.length ≤ 1) : pGiveI s = wGive s (wReadI p0 p1 (decide (ps.length = 1))) := by
  unfold pGiveI
  rw [h]
  rcases ps with _ | ⟨c, _ | ⟨d, ps⟩⟩
  · rfl
  · rfl
  · simp at hn
def FillAt (w3 : World) (x : Wea) (p : Value) (wx : World) : Prop := ∃ g, p = .pointer (some ⟨g, 0, none⟩) ∧ w3.heap.size ≤ g ∧ Box wx g 23 5 [.int .i64 0, .int .i64 x.wi, .int .i64 0, .int .i64 x.d, .bool x.s] ∧ Below w3.heap.size w3 wx
theorem tin_of {f : FuncId} {args : Array Value} {W : World} {v v' : Int} (h : Calls Tryd.prog f args W fun e w' => e = .returned (.int .i64 v) ∧ Below W.heap.size W w') (hv : v = v') : Calls Tryd.prog f args W fun e w' => e = .returned (.int .i64 v') ∧ Below W.heap.size W w' := by subst hv; exact h
theorem res_at {ts : Array Value} {W : World} {g : Nat} {a0 a1 a2 a3 : Int} {a4 b : Bool} (h2 : ts[2]?.getD undef = .pointer (some ⟨g, 0, none⟩)) (h3 : ts[3]?.getD undef = .bool b) (hB : Box W g 23 5 [.int .i64 a0, .int .i64 a1, .int .i64 a2, .int .i64 a3, .bool a4]) :
    (results Tryd.f5 ts).run Tryd.prog W = .ok (.tuple #[.agg #[.int .i64 a0, .int .i64 a1, .int .i64 a2, .int .i64 a3, .bool a4], .bool b]) W := by
  have c0 := hB.cell (j := 0) rfl
  have c1 := hB.cell (j := 1) rfl
  have c2 := hB.cell (j := 2) rfl
  have c3 := hB.cell (j := 3) rfl
  have c4 := hB.cell (j := 4) rfl
  simp [results, Tryd.results5, go_sem, h2, h3, c0, c1, c2, c3, c4]
def parV (wi p1 : ByteArray) (b N : Nat) (v1 v2 : Int) (b3 : Bool) (i : Nat) (v : Value) : Prop := match i with
  | 0 => v = .string wi
  | 1 => v = .int .i64 v1
  | 2 => v = .slice (some ⟨b, 0, none⟩) N N
  | 3 => v = .pointer (some ⟨b, 1, none⟩)
  | 4 => v = .string p1
  | 5 => ∃ t : ByteArray, v = .string t ∧ t.data.toList = Lib.trimSuffix p1.data.toList [32, 67] ∧ t.size ≤ 1048576
  | 6 => v = .int .i64 v2
  | 7 => v = .slice (some ⟨b, 0, none⟩) N N
  | 8 => v = .int .i64 N
  | 9 => v = .bool b3
  | 10 => v = .agg #[.int .i64 0, .int .i64 v1, .int .i64 0, .int .i64 v2, .bool b3]
  | _ => True
theorem trimmed_size {t p : ByteArray} (ht : t.data.toList = Lib.trimSuffix p.data.toList [32, 67]) (hp : p.size ≤ 1048576) : t.size ≤ 1048576 := by
  have h := trim_size p.data.toList
  rw [size_list t, ht]
  have := size_list p
  omega
set_option maxRecDepth 100000 in
set_option maxHeartbeats 8000000 in
theorem implParseWeather_c (s : ByteArray) (w : World) (hs : s.size ≤ 1048576) (hT : Tab w) (hE : Err w) (hM : MaxL w) : Calls Tryd.prog 5 #[.string s] w (WeaP (pGiveI s.data.toList) w) := by
  have h0 : Below w.heap.size w (w.alloc (.cells #[.int .i64 0, .int .i64 0, .int .i64 0, .int .i64 0, .bool false] 23)) := (Below.refl _ _).alloc (Nat.le_refl _) _
  have HZ := Lib.hid (Box.new w zeroW 23)
  have HT := Lib.hid (hT.carry h0)
  have HE := Lib.hid (hE.carry h0)
  have HM := Lib.hid (hM.carry h0)
  have HB := Lib.hid h0
  clear hT hE hM h0
  go_enter Tryd.func5, Tryd.ntmps5
  go_wp2_with fail
  refine (split_c s _ (by omega) HM.out).mono ?_
  rintro e w' ⟨ps, hps, rfl, rfl⟩
  have HPS := Lib.hid hps
  clear hps
  obtain ⟨w1, hw1⟩ : ∃ v, (w.alloc (.cells #[.int .i64 0, .int .i64 0, .int .i64 0, .int .i64 0, .bool false] 23)).alloc (.cells (ps.map Value.string).toArray 9) = v := ⟨_, rfl⟩
  have hb1 : Below (w.alloc (.cells #[.int .i64 0, .int .i64 0, .int .i64 0, .int .i64 0, .bool false] 23)).heap.size (w.alloc (.cells #[.int .i64 0, .int .i64 0, .int .i64 0, .int .i64 0, .bool false] 23)) w1 := hw1 ▸ (Below.refl _ _).alloc (Nat.le_refl _) _
  have hlit : ∀ i (hi : i < ps.length), w1.cell? ⟨w.heap.size + 1, i, none⟩ = some (.string ps[i]) := fun i hi => by
    have h := cell_of_row _ _ i (ps.map Value.string).toArray 9 (0, 0) (heap_alloc_new (w.alloc (.cells #[.int .i64 0, .int .i64 0, .int .i64 0, .int .i64 0, .bool false] 23)) (.cells (ps.map Value.string).toArray 9))
    rw [hw1, World.size_alloc] at h
    rw [h]; simp [hi]
  have hl1 : w.heap.size + 1 < w1.heap.size := by rw [← hw1]; simp
  rw [hw1]
  have HZ1 := Lib.hid (HZ.out.carry hb1)
  have HT1 := Lib.hid (HT.out.carry hb1)
  have HE1 := Lib.hid (HE.out.carry hb1)
  have HM1 := Lib.hid (HM.out.carry hb1)
  have HB1 := Lib.hid (HB.out.trans (hb1.mono HB.out.size))
  have HL1 := Lib.hid hlit
  clear hw1 hb1 hlit HZ HT HE HM HB
  rw [World.size_alloc]
  obtain ⟨N, hN⟩ : ∃ N, ps.length = N := ⟨_, rfl⟩
  rw [hN]
  by_cases hn : 2 ≤ N ∧ N ≤ 3
  · obtain ⟨p0, e0⟩ : ∃ p0, ps[0]'(by omega) = p0 := ⟨_, rfl⟩
    obtain ⟨p1, e1⟩ : ∃ p1, ps[1]'(by omega) = p1 := ⟨_, rfl⟩
    have q0 := HL1.out 0 (by omega)
    have q1 := HL1.out 1 (by omega)
    rw [e0] at q0
    rw [e1] at q1
    obtain ⟨b3, hb3⟩ : ∃ b3, decide ((N : Int) = 3) = b3 := ⟨_, rfl⟩
    have hb3' : ((N : Int) == 3) = b3 := by rw [← hb3]; rfl
    have HSP := Lib.hid (show pGiveI s.data.toList = wGive s.data.toList (wReadI p0.data.toList p1.data.toList b3) by
      have hl := HPS.out
      rcases ps with _ | ⟨a, _ | ⟨b, r⟩⟩
      · simp at hN; omega
      · simp at hN; omega
      · simp only [List.getElem_cons_zero, List.getElem_cons_succ] at e0 e1
        subst e0 e1
        rw [pGiveI_some (p0 := a.data.toList) (p1 := b.data.toList) (ps := r.map (·.data.toList)) (by rw [← hl]; rfl) (by simp at hN ⊢; omega), ← hb3]
        congr 2
        simp at hN
        rw [List.length_map]
        exact decide_eq_decide.2 (by omega))
    have hz : ∀ p ∈ ps, p.size ≤ 1048576 := fun p hp => by
      have h1 := split_size [44, 32] (Lib.count s.data.toList [44, 32]) s.data.toList p.data.toList (by
        have : p.data.toList ∈ Lib.split s.data.toList [44, 32] := by rw [← HPS.out]; exact List.mem_map_of_mem hp
        exact this)
      rw [size_list p]
      have := size_list s
      omega
    have hz0 : p0.size ≤ 1048576 := by rw [← e0]; exact hz _ (List.getElem_mem _)
    have hz1 : p1.size ≤ 1048576 := by rw [← e1]; exact hz _ (List.getElem_mem _)
    clear hz e0 e1 HPS HL1 hN
    have n1 : ¬ (N : Int) < 2 := by omega
    have n2 : ¬ (3 : Int) < N := by omega
    have i0 : (0 : Int) < N := by omega
    have i1 : (1 : Int) < N := by omega
    go_wp2_with fail
    refine (cut2_c p0 ⟨#[58, 32]⟩ _ (by omega) HM1.out).mono ?_
    rintro e w2 ⟨a, b, c, ha, hb, rfl, hb2⟩
    have ha2 : a.size ≤ 1048576 := by
      have := (cut_size p0.data.toList [58, 32]).1
      rw [size_list a, ha]; have := size_list p0; exact Nat.le_trans ‹_› (by omega)
    have hb2s : b.size ≤ 1048576 := by
      have := (cut_size p0.data.toList [58, 32]).2
      rw [size_list b, hb]; have := size_list p0; exact Nat.le_trans ‹_› (by omega)
    have HAd := Lib.hid (show a.data.toList = (Lib.cut p0.data.toList [58, 32]).1 from ha)
    have HBd := Lib.hid (show b.data.toList = (Lib.cut p0.data.toList [58, 32]).2.1 from hb)
    have HZ2 := Lib.hid (HZ1.out.carry hb2)
    have HT2 := Lib.hid (HT1.out.carry hb2)
    have HE2 := Lib.hid (HE1.out.carry hb2)
    have HM2 := Lib.hid (HM1.out.carry hb2)
    have HB2 := Lib.hid (HB1.out.trans (hb2.mono HB1.out.size))
    have r1 := (hb2.cell (p := ⟨w.heap.size + 1, 1, none⟩) hl1).trans q1
    have hl2 := Nat.lt_of_lt_of_le hl1 hb2.size
    clear ha hb hb2 q0 q1 HZ1 HT1 HE1 HM1 HB1 hl1
    go_wp2_with fail
    refine (cut2_c b ⟨#[32, 109, 47, 115, 32, 102, 114, 111, 109, 32]⟩ _ (by omega) HM2.out).mono ?_
    rintro e w3 ⟨wi, fr, c2, ha, hb, rfl, hb3w⟩
    have hwi : wi.size ≤ 1048576 := by
      have := (cut_size b.data.toList msL).1
      rw [size_list wi, ha]; have := size_list b; exact Nat.le_trans ‹_› (by omega)
    have hfr : fr.size ≤ 1048576 := by
      have := (cut_size b.data.toList msL).2
      rw [size_list fr, hb]; have := size_list b; exact Nat.le_trans ‹_› (by omega)
    have HWd := Lib.hid (show wi.data.toList = (Lib.cut b.data.toList msL).1 from ha)
    have HFd := Lib.hid (show fr.data.toList = (Lib.cut b.data.toList msL).2.1 from hb)
    have HZ3 := Lib.hid (HZ2.out.carry hb3w)
    have HT3 := Lib.hid (HT2.out.carry hb3w)
    have HE3 := Lib.hid (HE2.out.carry hb3w)
    have HM3 := Lib.hid (HM2.out.carry hb3w)
    have HB3 := Lib.hid (HB2.out.trans (hb3w.mono HB2.out.size))
    have x1 := (hb3w.cell (p := ⟨w.heap.size + 1, 1, none⟩) hl2).trans r1
    have hl3 := Nat.lt_of_lt_of_le hl2 hb3w.size
    clear ha hb hb3w r1 HZ2 HT2 HE2 HM2 HB2 hl2
    obtain ⟨v1, hv1⟩ : ∃ v, readT wi.data.toList = v := ⟨_, rfl⟩
    obtain ⟨v2, hv2⟩ : ∃ v, readT (Lib.trimSuffix p1.data.toList [32, 67]) = v := ⟨_, rfl⟩
    have HV1 := Lib.hid hv1
    have HV2 := Lib.hid hv2
    clear hv1 hv2
    go_wp2_with fail
    go_cut [11] (fun p wx => FillAt w3 ⟨0, v1, 0, v2, b3⟩ p wx)
    case first => as_aux_lemma =>
      rename_i K1 h1
      refine wp_region_relyA (parV wi p1 (w.heap.size + 1) N v1 v2 b3) (MadeJ w3 23 5 zeroW [.int .i64 0, .int .i64 v1, .int .i64 0, .int .i64 v2, .bool b3] 11 11 12) (by kernel_rfl) (by kernel_rfl) ?_ ?_ ?_
      · exact MadeJ.start (Below.refl _ _).drew
      · refine ⟨?_, ?_, ?_, ?_, ?_, ?_, ?_, ?_, ?_, ?_, ?_, ?_, ?_, trivial⟩
        · intro L a' w' hs hsz hl hj hf hd KK hK
          have HJ := Lib.hid hj
          have HB9 := Lib.hid hj.1
          have e8 : a'.tmps[8]?.getD undef = .string wi := by simpa [Act.eval] using hf 8 (unwritten_of (by kernel_rfl))
          have HL := Lib.hid hl
          have HS := Lib.hid hsz
          clear hf hd hj hs hl hsz
          go_simp
          exact hK _ _ rfl (HJ.out.put (by decide) (by decide) (by decide)  (Below.refl _ _))
        · intro L a' w' hs hsz hl hj hf hd KK hK
          have HJ := Lib.hid hj
          have HB9 := Lib.hid hj.1
          have e37 : parV wi p1 (w.heap.size + 1) N v1 v2 b3 0 (a'.tmps[37]?.getD undef) := by simpa [Act.eval] using (relyA_dep hd 0 (by kernel_rfl)).2 37 (by kernel_rfl)
          simp only [parV] at e37
          have HL := Lib.hid hl
          have HS := Lib.hid hsz
          clear hf hd hj hs hl hsz
          go_simp
          refine (tin_of (v' := v1) (readTenths_c wi w' (by omega) (HT3.out.carry HB9.out) (HE3.out.carry HB9.out) (HM3.out.carry HB9.out)) HV1.out).mono ?_
          rintro e wx ⟨rfl, hbx⟩
          exact hK _ _ rfl (HJ.out.put (by decide) (by decide) (by decide)  hbx)
        · intro L a' w' hs hsz hl hj hf hd KK hK
          have HJ := Lib.hid hj
          have HB9 := Lib.hid hj.1
          have e4 : a'.tmps[4]?.getD undef = .slice (some ⟨w.heap.size + 1, 0, none⟩) N N := by simpa [Act.eval] using hf 4 (unwritten_of (by kernel_rfl))
          have HL := Lib.hid hl
          have HS := Lib.hid hsz
          clear hf hd hj hs hl hsz
          go_simp
          exact hK _ _ rfl (HJ.out.put (by decide) (by decide) (by decide)  (Below.refl _ _))
        · intro L a' w' hs hsz hl hj hf hd KK hK
          have HJ := Lib.hid hj
          have HB9 := Lib.hid hj.1
          have e39 : parV wi p1 (w.heap.size + 1) N v1 v2 b3 2 (a'.tmps[39]?.getD undef) := by simpa [Act.eval] using (relyA_dep hd 2 (by kernel_rfl)).2 39 (by kernel_rfl)
          simp only [parV] at e39
          have HL := Lib.hid hl
          have HS := Lib.hid hsz
          clear hf hd hj hs hl hsz
          go_simp
          exact hK _ _ rfl (HJ.out.put (by decide) (by decide) (by decide)  (Below.refl _ _))
        · intro L a' w' hs hsz hl hj hf hd KK hK
          have HJ := Lib.hid hj
          have HB9 := Lib.hid hj.1
          have e40 : parV wi p1 (w.heap.size + 1) N v1 v2 b3 3 (a'.tmps[40]?.getD undef) := by simpa [Act.eval] using (relyA_dep hd 3 (by kernel_rfl)).2 40 (by kernel_rfl)
          simp only [parV] at e40
          have q := (HB9.out.cell (p := ⟨w.heap.size + 1, 1, none⟩) hl3).trans x1
          have HL := Lib.hid hl
          have HS := Lib.hid hsz
          clear hf hd hj hs hl hsz
          go_simp
          exact hK _ _ rfl (HJ.out.put (by decide) (by decide) (by decide)  (Below.refl _ _))
        · intro L a' w' hs hsz hl hj hf hd KK hK
          have HJ := Lib.hid hj
          have HB9 := Lib.hid hj.1
          have e41 : parV wi p1 (w.heap.size + 1) N v1 v2 b3 4 (a'.tmps[41]?.getD undef) := by simpa [Act.eval] using (relyA_dep hd 4 (by kernel_rfl)).2 41 (by kernel_rfl)
          simp only [parV] at e41
          have HL := Lib.hid hl
          have HS := Lib.hid hsz
          clear hf hd hj hs hl hsz
          go_simp
          refine (trimS_c p1 w' (by omega)).mono ?_
          rintro e wx ⟨t, ht, rfl, rfl⟩
          exact hK _ _ ⟨t, rfl, ht, trimmed_size ht hz1⟩ (HJ.out.put (by decide) (by decide) (by decide)  (Below.refl _ _))
        · intro L a' w' hs hsz hl hj hf hd KK hK
          have HJ := Lib.hid hj
          have HB9 := Lib.hid hj.1
          have e42 : parV wi p1 (w.heap.size + 1) N v1 v2 b3 5 (a'.tmps[42]?.getD undef) := by simpa [Act.eval] using (relyA_dep hd 5 (by kernel_rfl)).2 42 (by kernel_rfl)
          simp only [parV] at e42
          obtain ⟨t, e42, ht, hts⟩ := e42
          have HL := Lib.hid hl
          have HS := Lib.hid hsz
          clear hf hd hj hs hl hsz
          go_simp
          refine (tin_of (v' := v2) (readTenths_c t w' (by omega) (HT3.out.carry HB9.out) (HE3.out.carry HB9.out) (HM3.out.carry HB9.out)) (by rw [ht]; exact HV2.out)).mono ?_
          rintro e wx ⟨rfl, hbx⟩
          exact hK _ _ rfl (HJ.out.put (by decide) (by decide) (by decide)  hbx)
        · intro L a' w' hs hsz hl hj hf hd KK hK
          have HJ := Lib.hid hj
          have HB9 := Lib.hid hj.1
          have e4 : a'.tmps[4]?.getD undef = .slice (some ⟨w.heap.size + 1, 0, none⟩) N N := by simpa [Act.eval] using hf 4 (unwritten_of (by kernel_rfl))
          have HL := Lib.hid hl
          have HS := Lib.hid hsz
          clear hf hd hj hs hl hsz
          go_simp
          exact hK _ _ rfl (HJ.out.put (by decide) (by decide) (by decide)  (Below.refl _ _))
        · intro L a' w' hs hsz hl hj hf hd KK hK
          have HJ := Lib.hid hj
          have HB9 := Lib.hid hj.1
          have e44 : parV wi p1 (w.heap.size + 1) N v1 v2 b3 7 (a'.tmps[44]?.getD undef) := by simpa [Act.eval] using (relyA_dep hd 7 (by kernel_rfl)).2 44 (by kernel_rfl)
          simp only [parV] at e44
          have HL := Lib.hid hl
          have HS := Lib.hid hsz
          clear hf hd hj hs hl hsz
          go_simp
          exact hK _ _ rfl (HJ.out.put (by decide) (by decide) (by decide)  (Below.refl _ _))
        · intro L a' w' hs hsz hl hj hf hd KK hK
          have HJ := Lib.hid hj
          have HB9 := Lib.hid hj.1
          have e45 : parV wi p1 (w.heap.size + 1) N v1 v2 b3 8 (a'.tmps[45]?.getD undef) := by simpa [Act.eval] using (relyA_dep hd 8 (by kernel_rfl)).2 45 (by kernel_rfl)
          simp only [parV] at e45
          have HL := Lib.hid hl
          have HS := Lib.hid hsz
          clear hf hd hj hs hl hsz
          go_simp
          exact hK _ _ rfl (HJ.out.put (by decide) (by decide) (by decide)  (Below.refl _ _))
        · intro L a' w' hs hsz hl hj hf hd KK hK
          have HJ := Lib.hid hj
          have HB9 := Lib.hid hj.1
          have e38 : parV wi p1 (w.heap.size + 1) N v1 v2 b3 1 (a'.tmps[38]?.getD undef) := by simpa [Act.eval] using (relyA_dep hd 1 (by kernel_rfl)).2 38 (by kernel_rfl)
          simp only [parV] at e38
          have e43 : parV wi p1 (w.heap.size + 1) N v1 v2 b3 6 (a'.tmps[43]?.getD undef) := by simpa [Act.eval] using (relyA_dep hd 6 (by kernel_rfl)).2 43 (by kernel_rfl)
          simp only [parV] at e43
          have e46 : parV wi p1 (w.heap.size + 1) N v1 v2 b3 9 (a'.tmps[46]?.getD undef) := by simpa [Act.eval] using (relyA_dep hd 9 (by kernel_rfl)).2 46 (by kernel_rfl)
          simp only [parV] at e46
          have HL := Lib.hid hl
          have HS := Lib.hid hsz
          clear hf hd hj hs hl hsz
          go_simp
          exact hK _ _ rfl (HJ.out.put (by decide) (by decide) (by decide)  (Below.refl _ _))
        · intro L a' w' hs hsz hl hj hf hd KK hK
          have HJ := Lib.hid hj
          have HB9 := Lib.hid hj.1
          have HL := Lib.hid hl
          have HS := Lib.hid hsz
          clear hf hd hj hs hl hsz
          go_simp
          exact hK _ _ trivial (HJ.out.made (by decide) HL.out (by have h : a'.tmps.size = 71 := HS.out; omega) rfl)
        · intro L a' w' hs hsz hl hj hf hd KK hK
          have HJ := Lib.hid hj
          have HB9 := Lib.hid hj.1
          have e47 : parV wi p1 (w.heap.size + 1) N v1 v2 b3 10 (a'.tmps[47]?.getD undef) := by simpa [Act.eval] using (relyA_dep hd 10 (by kernel_rfl)).2 47 (by kernel_rfl)
          simp only [parV] at e47
          have hA := (relyA_dep hd 11 (by kernel_rfl)).1
          obtain ⟨g, hgv, hg0, hQ⟩ := HJ.out.at hl hA
          have HGV := Lib.hid hgv
          have e11 : a'.tmps[11]?.getD undef = .pointer (some ⟨g, 0, none⟩) := by simpa [Act.eval] using hgv
          have HQ := Lib.hid hQ
          have q0 := HQ.out.cell (j := 0) rfl
          have q1 := HQ.out.cell (j := 1) rfl
          have q2 := HQ.out.cell (j := 2) rfl
          have q3 := HQ.out.cell (j := 3) rfl
          have q4 := HQ.out.cell (j := 4) rfl
          have qz := HQ.out.frozen
          have lq := HQ.out.lt
          clear hgv hQ
          have HL := Lib.hid hl
          have HS := Lib.hid hsz
          clear hf hd hj hs hl hsz
          go_simp
          exact hK (.bool false) _ trivial (HJ.out.stored (g := g) (v := .bool false) (by decide) HL.out hA (by decide) HGV.out hg0 (((((HB9.out.setCell (p := ⟨g, 0, none⟩) hg0 _).setCell (p := ⟨g, 1, none⟩) hg0 _).setCell (p := ⟨g, 2, none⟩) hg0 _).setCell (p := ⟨g, 3, none⟩) hg0 _).setCell (p := ⟨g, 4, none⟩) hg0 _) (HQ.out.puts (us := [.int .i64 0, .int .i64 v1, .int .i64 0, .int .i64 v2, .bool b3]) rfl))
      · intro L a' w' hj hL hsz hdf hfr hvs
        obtain ⟨g, e11, hg0, hQ, hB⟩ := hj.done hL (by decide) (by decide)
        have HP9 : FillAt w3 ⟨0, v1, 0, v2, b3⟩ (.pointer (some ⟨g, 0, none⟩)) w' := ⟨g, rfl, hg0, hQ, hB⟩
        obtain ⟨tm, df⟩ := a'
        obtain ⟨ts, rfl⟩ : ∃ ts : List Value, tm = ts.toArray := ⟨tm.toList, by simp⟩
        simp only at hdf
        subst hdf
        have hlen : ts.length = 71 := by simpa using hsz
        have f0 := hfr 0 (unwritten_of (by kernel_rfl))
        have f1 := hfr 1 (unwritten_of (by kernel_rfl))
        have f2 := hfr 2 (unwritten_of (by kernel_rfl))
        have f3 := hfr 3 (unwritten_of (by kernel_rfl))
        have f4 := hfr 4 (unwritten_of (by kernel_rfl))
        have f5 := hfr 5 (unwritten_of (by kernel_rfl))
        have f6 := hfr 6 (unwritten_of (by kernel_rfl))
        have f7 := hfr 7 (unwritten_of (by kernel_rfl))
        have f8 := hfr 8 (unwritten_of (by kernel_rfl))
        have f9 := hfr 9 (unwritten_of (by kernel_rfl))
        have f10 := hfr 10 (unwritten_of (by kernel_rfl))
        have f12 := hfr 12 (unwritten_of (by kernel_rfl))
        have f13 := hfr 13 (unwritten_of (by kernel_rfl))
        have f14 := hfr 14 (unwritten_of (by kernel_rfl))
        have f15 := hfr 15 (unwritten_of (by kernel_rfl))
        have f16 := hfr 16 (unwritten_of (by kernel_rfl))
        have f17 := hfr 17 (unwritten_of (by kernel_rfl))
        have f18 := hfr 18 (unwritten_of (by kernel_rfl))
        have f19 := hfr 19 (unwritten_of (by kernel_rfl))
        have f20 := hfr 20 (unwritten_of (by kernel_rfl))
        have f21 := hfr 21 (unwritten_of (by kernel_rfl))
        have f22 := hfr 22 (unwritten_of (by kernel_rfl))
        have f23 := hfr 23 (unwritten_of (by kernel_rfl))
        have f24 := hfr 24 (unwritten_of (by kernel_rfl))
        have f25 := hfr 25 (unwritten_of (by kernel_rfl))
        have f26 := hfr 26 (unwritten_of (by kernel_rfl))
        have f27 := hfr 27 (unwritten_of (by kernel_rfl))
        have f28 := hfr 28 (unwritten_of (by kernel_rfl))
        have f29 := hfr 29 (unwritten_of (by kernel_rfl))
        have f30 := hfr 30 (unwritten_of (by kernel_rfl))
        have f31 := hfr 31 (unwritten_of (by kernel_rfl))
        have f32 := hfr 32 (unwritten_of (by kernel_rfl))
        have f33 := hfr 33 (unwritten_of (by kernel_rfl))
        have f34 := hfr 34 (unwritten_of (by kernel_rfl))
        have f35 := hfr 35 (unwritten_of (by kernel_rfl))
        have f36 := hfr 36 (unwritten_of (by kernel_rfl))
        have f48 := hfr 48 (unwritten_of (by kernel_rfl))
        have f49 := hfr 49 (unwritten_of (by kernel_rfl))
        have f50 := hfr 50 (unwritten_of (by kernel_rfl))
        have f51 := hfr 51 (unwritten_of (by kernel_rfl))
        have f52 := hfr 52 (unwritten_of (by kernel_rfl))
        have f53 := hfr 53 (unwritten_of (by kernel_rfl))
        have f54 := hfr 54 (unwritten_of (by kernel_rfl))
        have f55 := hfr 55 (unwritten_of (by kernel_rfl))
        have f56 := hfr 56 (unwritten_of (by kernel_rfl))
        have f57 := hfr 57 (unwritten_of (by kernel_rfl))
        have f58 := hfr 58 (unwritten_of (by kernel_rfl))
        have f59 := hfr 59 (unwritten_of (by kernel_rfl))
        have f60 := hfr 60 (unwritten_of (by kernel_rfl))
        have f61 := hfr 61 (unwritten_of (by kernel_rfl))
        have f62 := hfr 62 (unwritten_of (by kernel_rfl))
        have f63 := hfr 63 (unwritten_of (by kernel_rfl))
        have f64 := hfr 64 (unwritten_of (by kernel_rfl))
        have f65 := hfr 65 (unwritten_of (by kernel_rfl))
        have f66 := hfr 66 (unwritten_of (by kernel_rfl))
        have f67 := hfr 67 (unwritten_of (by kernel_rfl))
        have f68 := hfr 68 (unwritten_of (by kernel_rfl))
        have f69 := hfr 69 (unwritten_of (by kernel_rfl))
        have f70 := hfr 70 (unwritten_of (by kernel_rfl))
        clear hfr hvs hsz hj hL hQ hB hg0
        rcases ts with _ | ⟨y0, ts⟩
        · simp at hlen
        rcases ts with _ | ⟨y1, ts⟩
        · simp at hlen
        rcases ts with _ | ⟨y2, ts⟩
        · simp at hlen
        rcases ts with _ | ⟨y3, ts⟩
        · simp at hlen
        rcases ts with _ | ⟨y4, ts⟩
        · simp at hlen
        rcases ts with _ | ⟨y5, ts⟩
        · simp at hlen
        rcases ts with _ | ⟨y6, ts⟩
        · simp at hlen
        rcases ts with _ | ⟨y7, ts⟩
        · simp at hlen
        rcases ts with _ | ⟨y8, ts⟩
        · simp at hlen
        rcases ts with _ | ⟨y9, ts⟩
        · simp at hlen
        rcases ts with _ | ⟨y10, ts⟩
        · simp at hlen
        rcases ts with _ | ⟨y11, ts⟩
        · simp at hlen
        rcases ts with _ | ⟨y12, ts⟩
        · simp at hlen
        rcases ts with _ | ⟨y13, ts⟩
        · simp at hlen
        rcases ts with _ | ⟨y14, ts⟩
        · simp at hlen
        rcases ts with _ | ⟨y15, ts⟩
        · simp at hlen
        rcases ts with _ | ⟨y16, ts⟩
        · simp at hlen
        rcases ts with _ | ⟨y17, ts⟩
        · simp at hlen
        rcases ts with _ | ⟨y18, ts⟩
        · simp at hlen
        rcases ts with _ | ⟨y19, ts⟩
        · simp at hlen
        rcases ts with _ | ⟨y20, ts⟩
        · simp at hlen
        rcases ts with _ | ⟨y21, ts⟩
        · simp at hlen
        rcases ts with _ | ⟨y22, ts⟩
        · simp at hlen
        rcases ts with _ | ⟨y23, ts⟩
        · simp at hlen
        rcases ts with _ | ⟨y24, ts⟩
        · simp at hlen
        rcases ts with _ | ⟨y25, ts⟩
        · simp at hlen
        rcases ts with _ | ⟨y26, ts⟩
        · simp at hlen
        rcases ts with _ | ⟨y27, ts⟩
        · simp at hlen
        rcases ts with _ | ⟨y28, ts⟩
        · simp at hlen
        rcases ts with _ | ⟨y29, ts⟩
        · simp at hlen
        rcases ts with _ | ⟨y30, ts⟩
        · simp at hlen
        rcases ts with _ | ⟨y31, ts⟩
        · simp at hlen
        rcases ts with _ | ⟨y32, ts⟩
        · simp at hlen
        rcases ts with _ | ⟨y33, ts⟩
        · simp at hlen
        rcases ts with _ | ⟨y34, ts⟩
        · simp at hlen
        rcases ts with _ | ⟨y35, ts⟩
        · simp at hlen
        rcases ts with _ | ⟨y36, ts⟩
        · simp at hlen
        rcases ts with _ | ⟨y37, ts⟩
        · simp at hlen
        rcases ts with _ | ⟨y38, ts⟩
        · simp at hlen
        rcases ts with _ | ⟨y39, ts⟩
        · simp at hlen
        rcases ts with _ | ⟨y40, ts⟩
        · simp at hlen
        rcases ts with _ | ⟨y41, ts⟩
        · simp at hlen
        rcases ts with _ | ⟨y42, ts⟩
        · simp at hlen
        rcases ts with _ | ⟨y43, ts⟩
        · simp at hlen
        rcases ts with _ | ⟨y44, ts⟩
        · simp at hlen
        rcases ts with _ | ⟨y45, ts⟩
        · simp at hlen
        rcases ts with _ | ⟨y46, ts⟩
        · simp at hlen
        rcases ts with _ | ⟨y47, ts⟩
        · simp at hlen
        rcases ts with _ | ⟨y48, ts⟩
        · simp at hlen
        rcases ts with _ | ⟨y49, ts⟩
        · simp at hlen
        rcases ts with _ | ⟨y50, ts⟩
        · simp at hlen
        rcases ts with _ | ⟨y51, ts⟩
        · simp at hlen
        rcases ts with _ | ⟨y52, ts⟩
        · simp at hlen
        rcases ts with _ | ⟨y53, ts⟩
        · simp at hlen
        rcases ts with _ | ⟨y54, ts⟩
        · simp at hlen
        rcases ts with _ | ⟨y55, ts⟩
        · simp at hlen
        rcases ts with _ | ⟨y56, ts⟩
        · simp at hlen
        rcases ts with _ | ⟨y57, ts⟩
        · simp at hlen
        rcases ts with _ | ⟨y58, ts⟩
        · simp at hlen
        rcases ts with _ | ⟨y59, ts⟩
        · simp at hlen
        rcases ts with _ | ⟨y60, ts⟩
        · simp at hlen
        rcases ts with _ | ⟨y61, ts⟩
        · simp at hlen
        rcases ts with _ | ⟨y62, ts⟩
        · simp at hlen
        rcases ts with _ | ⟨y63, ts⟩
        · simp at hlen
        rcases ts with _ | ⟨y64, ts⟩
        · simp at hlen
        rcases ts with _ | ⟨y65, ts⟩
        · simp at hlen
        rcases ts with _ | ⟨y66, ts⟩
        · simp at hlen
        rcases ts with _ | ⟨y67, ts⟩
        · simp at hlen
        rcases ts with _ | ⟨y68, ts⟩
        · simp at hlen
        rcases ts with _ | ⟨y69, ts⟩
        · simp at hlen
        rcases ts with _ | ⟨y70, ts⟩
        · simp at hlen
        obtain rfl : ts = [] := List.eq_nil_of_length_eq_zero (by simpa using hlen)
        simp only [Act.eval, Array.getD_eq_getD_getElem?, List.getElem?_toArray, List.getElem?_cons_succ, List.getElem?_cons_zero, Option.getD_some] at e11 f0 f1 f2 f3 f4 f5 f6 f7 f8 f9 f10 f12 f13 f14 f15 f16 f17 f18 f19 f20 f21 f22 f23 f24 f25 f26 f27 f28 f29 f30 f31 f32 f33 f34 f35 f36 f48 f49 f50 f51 f52 f53 f54 f55 f56 f57 f58 f59 f60 f61 f62 f63 f64 f65 f66 f67 f68 f69 f70
        subst e11 f0 f1 f2 f3 f4 f5 f6 f7 f8 f9 f10 f12 f13 f14 f15 f16 f17 f18 f19 f20 f21 f22 f23 f24 f25 f26 f27 f28 f29 f30 f31 f32 f33 f34 f35 f36 f48 f49 f50 f51 f52 f53 f54 f55 f56 f57 f58 f59 f60 f61 f62 f63 f64 f65 f66 f67 f68 f69 f70
        refine h1 _ _ (Met.intro ?_)
        refine K1 _ _ ?_
        (repeat apply Exists.intro)
        exact ⟨HP9, rfl⟩
    case rest => as_aux_lemma =>
      obtain ⟨g, rfl, hg, hx, hbel⟩ := hcut
      have HX := Lib.hid hx
      have HW := Lib.hid hbel
      clear hx hbel x1
      have gw : ¬ g = w.heap.size := by omega
      obtain ⟨v0, hv0⟩ : ∃ v, (parseP a.data.toList).1 = v := ⟨_, rfl⟩
      obtain ⟨vf, hvf⟩ : ∃ v, (parseP fr.data.toList).1 = v := ⟨_, rfl⟩
      have HV0 := Lib.hid hv0
      have HVF := Lib.hid hvf
      have HGI := Lib.hid (show pGiveI s.data.toList = wGive s.data.toList ⟨v0, v1, vf, v2, b3⟩ by
        rw [HSP.out, wReadI]
        simp only [← HAd.out, ← HBd.out, ← HWd.out, ← HFd.out, hv0, hvf, HV1.out, HV2.out])
      clear hv0 hvf HSP HV1 HV2 HAd HBd HWd HFd HM3
      go_wp2_with fail
      refine (int_of (implParseInt_c a _ (by omega) (HT3.out.carry HW.out) (HE3.out.carry HW.out)) HV0.out).mono ?_
      rintro e w6 ⟨bb, rfl, hb6⟩
      have HX6 := Lib.hid (HX.out.carry hb6)
      have HW6 := Lib.hid (HW.out.trans (hb6.mono HW.out.size))
      have y0 := HX6.out.cell (j := 0) rfl
      have yz := HX6.out.frozen
      have yl := HX6.out.lt
      have HX7 := Lib.hid (HX6.out.set 0 (.int .i64 v0))
      have HW7 := Lib.hid (HW6.out.setCell (p := ⟨g, 0, none⟩) (show w3.heap.size ≤ g from hg) (.int .i64 v0))
      clear hb6 HX HW
      go_wp2_with fail
      refine (int_of (implParseInt_c fr _ (by omega) (HT3.out.carry HW7.out) (HE3.out.carry HW7.out)) HVF.out).mono ?_
      rintro e w7 ⟨bb2, rfl, hb7⟩
      have HX8 := Lib.hid (HX7.out.carry hb7)
      have HW8 := Lib.hid (HW7.out.trans (hb7.mono HW7.out.size))
      clear hb7 HX6 HW6 HX7 HW7 y0 yz yl
      have y0 := HX8.out.cell (j := 0) rfl
      have y1 := HX8.out.cell (j := 1) rfl
      have y2 := HX8.out.cell (j := 2) rfl
      have y3 := HX8.out.cell (j := 3) rfl
      have y4 := HX8.out.cell (j := 4) rfl
      have yz := HX8.out.frozen
      have yl := HX8.out.lt
      have HX9 := Lib.hid (HX8.out.set 2 (.int .i64 vf))
      have HW9 := Lib.hid (HW8.out.setCell (p := ⟨g, 2, none⟩) (show w3.heap.size ≤ g from hg) (.int .i64 vf))
      go_wp2_with fail
      refine (IsWeather_c ⟨v0, v1, vf, v2, b3⟩ _).mono ?_
      rintro e w8 ⟨rfl, hb8⟩
      have HX10 := Lib.hid (HX9.out.carry hb8)
      have HW10 := Lib.hid (HW9.out.trans (hb8.mono HW9.out.size))
      clear hb8 HX8 HW8 HX9 HW9 y0 y1 y2 y3 y4 yz yl
      have HZ10 := Lib.hid (HZ3.out.carry HW10.out)
      have HB10 := Lib.hid (HB3.out.trans (HW10.out.mono HB3.out.size))
      rcases hok : okW ⟨v0, v1, vf, v2, b3⟩ with _ | _
      · have H := Lib.hid (show pGiveI s.data.toList = (⟨0, 0, 0, 0, false⟩, false) by rw [HGI.out, wGive, if_neg (fun h => by rw [hok] at h; exact absurd h.1 (by simp))])
        have z0 := HZ10.out.cell (j := 0) rfl
        have z1 := HZ10.out.cell (j := 1) rfl
        have z2 := HZ10.out.cell (j := 2) rfl
        have z3 := HZ10.out.cell (j := 3) rfl
        have z4 := HZ10.out.cell (j := 4) rfl
        have zz := HZ10.out.frozen
        have lz := HZ10.out.lt
        have zs := HB10.out.size
        go_wp2_with fail
        exact bodyPost_ret (v := .tuple #[.agg #[.int .i64 0, .int .i64 0, .int .i64 0, .int .i64 0, .bool false], .bool false]) (res_at rfl rfl (HZ10.out.puts (us := zeroW) rfl)) rfl ⟨retW H.out, by have h := HB10.out; exact (by repeat (first | (with_reducible exact Below.refl _ _) | ((with_reducible refine alloc_ ?_ ?_); (focus (first | exact Nat.le_refl _ | (simp; done) | (simp; omega) | omega))) | ((with_reducible refine set_ ?_ ?_); (focus (first | exact Nat.le_refl _ | (simp; done) | (simp; omega) | omega))) | (with_reducible refine Below.drew ?_) | ((with_reducible refine after_ ?_ (by assumption) ?_); (rotate_left; (focus (first | exact Nat.le_refl _ | (simp; done) | (simp; omega) | omega))))))⟩
      · have y0 := HX10.out.cell (j := 0) rfl
        have y1 := HX10.out.cell (j := 1) rfl
        have y2 := HX10.out.cell (j := 2) rfl
        have y3 := HX10.out.cell (j := 3) rfl
        have y4 := HX10.out.cell (j := 4) rfl
        have yl := HX10.out.lt
        obtain ⟨T, hT⟩ : ∃ T, S (wtL ⟨v0, v1, vf, v2, b3⟩) = T := ⟨_, rfl⟩
        have HTx := Lib.hid hT
        clear hT
        go_wp2_with fail
        refine (str_of (implText_c ⟨v0, v1, vf, v2, b3⟩ _ hok (HT3.out.carry HW10.out)) HTx.out).mono ?_
        rintro e w9 ⟨rfl, hb9⟩
        have HX11 := Lib.hid (HX10.out.carry hb9)
        have HW11 := Lib.hid (HW10.out.trans (hb9.mono HW10.out.size))
        have HZ11 := Lib.hid (HZ3.out.carry HW11.out)
        have HB11 := Lib.hid (HB3.out.trans (HW11.out.mono HB3.out.size))
        clear hb9 y0 y1 y2 y3 y4 yl
        by_cases hq : wtL ⟨v0, v1, vf, v2, b3⟩ = s.data.toList
        · have H := Lib.hid (show pGiveI s.data.toList = (⟨v0, v1, vf, v2, b3⟩, true) by rw [HGI.out, wGive, if_pos ⟨hok, hq⟩])
          have hTs : T = s := by rw [← HTx.out, hq]; exact (S_of s).symm
          subst hTs
          have y0 := HX11.out.cell (j := 0) rfl
          have y1 := HX11.out.cell (j := 1) rfl
          have y2 := HX11.out.cell (j := 2) rfl
          have y3 := HX11.out.cell (j := 3) rfl
          have y4 := HX11.out.cell (j := 4) rfl
          have yl := HX11.out.lt
          have z0 := HZ11.out.cell (j := 0) rfl
          have z1 := HZ11.out.cell (j := 1) rfl
          have z2 := HZ11.out.cell (j := 2) rfl
          have z3 := HZ11.out.cell (j := 3) rfl
          have z4 := HZ11.out.cell (j := 4) rfl
          have zz := HZ11.out.frozen
          have lz := HZ11.out.lt
          have zs := HB11.out.size
          clear hq
          go_wp2_with fail
          exact bodyPost_ret (v := .tuple #[.agg #[.int .i64 v0, .int .i64 v1, .int .i64 vf, .int .i64 v2, .bool b3], .bool true]) (res_at rfl rfl (HZ11.out.puts (us := [.int .i64 v0, .int .i64 v1, .int .i64 vf, .int .i64 v2, .bool b3]) rfl)) rfl ⟨retW H.out, by have h := HB11.out; exact (by repeat (first | (with_reducible exact Below.refl _ _) | ((with_reducible refine alloc_ ?_ ?_); (focus (first | exact Nat.le_refl _ | (simp; done) | (simp; omega) | omega))) | ((with_reducible refine set_ ?_ ?_); (focus (first | exact Nat.le_refl _ | (simp; done) | (simp; omega) | omega))) | (with_reducible refine Below.drew ?_) | ((with_reducible refine after_ ?_ (by assumption) ?_); (rotate_left; (focus (first | exact Nat.le_refl _ | (simp; done) | (simp; omega) | omega))))))⟩
        · have H := Lib.hid (show pGiveI s.data.toList = (⟨0, 0, 0, 0, false⟩, false) by rw [HGI.out, wGive, if_neg (fun h => hq h.2)])
          have hts : ¬ T = s := fun e => hq (by rw [← S_data (wtL ⟨v0, v1, vf, v2, b3⟩), HTx.out, e])
          have hts2 : (T.toList == s.toList) = false := by
            rw [beq_eq_false_iff_ne]; intro e; exact hts (toList_inj e)
          clear hq
          have z0 := HZ11.out.cell (j := 0) rfl
          have z1 := HZ11.out.cell (j := 1) rfl
          have z2 := HZ11.out.cell (j := 2) rfl
          have z3 := HZ11.out.cell (j := 3) rfl
          have z4 := HZ11.out.cell (j := 4) rfl
          have zz := HZ11.out.frozen
          have lz := HZ11.out.lt
          have zs := HB11.out.size
          go_wp2_with fail
          exact bodyPost_ret (v := .tuple #[.agg #[.int .i64 0, .int .i64 0, .int .i64 0, .int .i64 0, .bool false], .bool false]) (res_at rfl rfl (HZ11.out.puts (us := zeroW) rfl)) rfl ⟨retW H.out, by have h := HB11.out; exact (by repeat (first | (with_reducible exact Below.refl _ _) | ((with_reducible refine alloc_ ?_ ?_); (focus (first | exact Nat.le_refl _ | (simp; done) | (simp; omega) | omega))) | ((with_reducible refine set_ ?_ ?_); (focus (first | exact Nat.le_refl _ | (simp; done) | (simp; omega) | omega))) | (with_reducible refine Below.drew ?_) | ((with_reducible refine after_ ?_ (by assumption) ?_); (rotate_left; (focus (first | exact Nat.le_refl _ | (simp; done) | (simp; omega) | omega))))))⟩
  · have H := Lib.hid (show pGiveI s.data.toList = (⟨0, 0, 0, 0, false⟩, false) from pGiveI_few HPS.out.symm (by rw [List.length_map, hN]; exact hn))
    clear hN HL1
    have hcase : N < 2 ∨ (¬ N < 2 ∧ 3 < N) := by omega
    rcases hcase with h2 | ⟨h2, h3⟩
    · have n1 : (N : Int) < 2 := by omega
      clear h2 hn
      have z0 := HZ1.out.cell (j := 0) rfl
      have z1 := HZ1.out.cell (j := 1) rfl
      have z2 := HZ1.out.cell (j := 2) rfl
      have z3 := HZ1.out.cell (j := 3) rfl
      have z4 := HZ1.out.cell (j := 4) rfl
      have zz := HZ1.out.frozen
      have lz := HZ1.out.lt
      have zs := HB1.out.size
      go_wp2_with fail
      exact bodyPost_ret (v := .tuple #[.agg #[.int .i64 0, .int .i64 0, .int .i64 0, .int .i64 0, .bool false], .bool false]) (res_at rfl rfl (HZ1.out.puts (us := zeroW) rfl)) rfl ⟨retW H.out, by have h := HB1.out; exact (by repeat (first | (with_reducible exact Below.refl _ _) | ((with_reducible refine alloc_ ?_ ?_); (focus (first | exact Nat.le_refl _ | (simp; done) | (simp; omega) | omega))) | ((with_reducible refine set_ ?_ ?_); (focus (first | exact Nat.le_refl _ | (simp; done) | (simp; omega) | omega))) | (with_reducible refine Below.drew ?_) | ((with_reducible refine after_ ?_ (by assumption) ?_); (rotate_left; (focus (first | exact Nat.le_refl _ | (simp; done) | (simp; omega) | omega))))))⟩
    · have n1 : ¬ (N : Int) < 2 := by omega
      have n2 : (3 : Int) < N := by omega
      clear h2 h3 hn
      have z0 := HZ1.out.cell (j := 0) rfl
      have z1 := HZ1.out.cell (j := 1) rfl
      have z2 := HZ1.out.cell (j := 2) rfl
      have z3 := HZ1.out.cell (j := 3) rfl
      have z4 := HZ1.out.cell (j := 4) rfl
      have zz := HZ1.out.frozen
      have lz := HZ1.out.lt
      have zs := HB1.out.size
      go_wp2_with fail
      exact bodyPost_ret (v := .tuple #[.agg #[.int .i64 0, .int .i64 0, .int .i64 0, .int .i64 0, .bool false], .bool false]) (res_at rfl rfl (HZ1.out.puts (us := zeroW) rfl)) rfl ⟨retW H.out, by have h := HB1.out; exact (by repeat (first | (with_reducible exact Below.refl _ _) | ((with_reducible refine alloc_ ?_ ?_); (focus (first | exact Nat.le_refl _ | (simp; done) | (simp; omega) | omega))) | ((with_reducible refine set_ ?_ ?_); (focus (first | exact Nat.le_refl _ | (simp; done) | (simp; omega) | omega))) | (with_reducible refine Below.drew ?_) | ((with_reducible refine after_ ?_ (by assumption) ?_); (rotate_left; (focus (first | exact Nat.le_refl _ | (simp; done) | (simp; omega) | omega))))))⟩
end Go.Proofs.YtmlcaaciofbpgaaDoor
