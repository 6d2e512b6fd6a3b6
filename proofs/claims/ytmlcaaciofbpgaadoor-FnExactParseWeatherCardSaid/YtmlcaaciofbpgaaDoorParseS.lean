/- The reference's ParseWeather returns the Lean function; no conditions but the length. -/
import Derived.Test.YtmlcaaciofbpgaaDoorWeaWalk
import Derived.Test.YtmlcaaciofbpgaaDoorParseD
import Derived.Test.YtmlcaaciofbpgaaDoorL1Split
import Derived.Test.YtmlcaaciofbpgaaDoorRelyA
import Derived.Deep.DeepCutAuto
namespace Go.Proofs.YtmlcaaciofbpgaaDoor
open Go.RowKit

theorem split32_c (s : ByteArray) (w : World) (hs : s.size ≤ 1048576) : Calls Tryd.prog 7 #[.string s, .int .u8 32] w (TextsP (spl 32 s.data.toList) w) := l1Split_c s 32 w hs
theorem texts_at {w : World} {base : Nat} {A : Option Addr} {ps : List ByteArray} (h : Own w base 9 1 txtCells A ps) (h0 : 0 < ps.length) : ∃ g, A = some ⟨g, 0, none⟩ ∧ g < w.heap.size ∧ ∀ i, i < ps.length → w.cell? ⟨g, i, none⟩ = some (.string (nth ps i)) := by
  obtain ⟨g, N, f, rfl, _, hN, hf, hc⟩ := h h0
  refine ⟨g, rfl, hf.lt, fun i hi => ?_⟩
  rw [hf.cell (by omega)]
  have := hc i hi 0 (.string (nth ps i)) (by omega) rfl
  rw [← this]; simp
theorem pGiveS_at {s : List UInt8} {ps : List ByteArray} (h : ps.map (·.data.toList) = spl 32 s) (h60 : ¬ 60 < s.length) (hn : ps.length = 7 ∨ ps.length = 8) : pGiveS s = wGive s (wReadS (nth ps 0).data.toList (nth ps 1).data.toList (nth ps 4).data.toList (nth ps 5).data.toList (decide (ps.length = 8))) := by
  unfold pGiveS
  rw [if_neg h60, ← h]
  rcases ps with _ | ⟨a, _ | ⟨b, _ | ⟨c, _ | ⟨d, _ | ⟨e, _ | ⟨f, _ | ⟨g, _ | ⟨i, _ | ⟨j, ps⟩⟩⟩⟩⟩⟩⟩⟩⟩
  all_goals first | rfl | (simp at hn; omega) | (simp at hn)
theorem pGiveS_few {s : List UInt8} {ps : List ByteArray} (h : ps.map (·.data.toList) = spl 32 s) (hn : ¬ (ps.length = 7 ∨ ps.length = 8)) : pGiveS s = (⟨0, 0, 0, 0, false⟩, false) := by
  unfold pGiveS
  split
  · rfl
  · rw [← h]
    rcases ps with _ | ⟨a, _ | ⟨b, _ | ⟨c, _ | ⟨d, _ | ⟨e, _ | ⟨f, _ | ⟨g, _ | ⟨i, _ | ⟨j, ps⟩⟩⟩⟩⟩⟩⟩⟩⟩
    all_goals first | rfl | (exact absurd (.inl rfl) hn) | (exact absurd (.inr rfl) hn)
def FillS (w3 : World) (x : Wea) (p : Value) (wx : World) : Prop := ∃ g, p = .pointer (some ⟨g, 0, none⟩) ∧ w3.heap.size ≤ g ∧ Box wx g 23 5 [.int .i64 x.m, .int .i64 x.wi, .int .i64 x.f, .int .i64 x.d, .bool x.s] ∧ Below w3.heap.size w3 wx
theorem res_atS {ts : Array Value} {W : World} {g : Nat} {a0 a1 a2 a3 : Int} {a4 b : Bool} (h2 : ts[2]?.getD undef = .pointer (some ⟨g, 0, none⟩)) (h3 : ts[3]?.getD undef = .bool b) (hB : Box W g 23 5 [.int .i64 a0, .int .i64 a1, .int .i64 a2, .int .i64 a3, .bool a4]) :
    (results Tryd.f4 ts).run Tryd.prog W = .ok (.tuple #[.agg #[.int .i64 a0, .int .i64 a1, .int .i64 a2, .int .i64 a3, .bool a4], .bool b]) W := by
  have c0 := hB.cell (j := 0) rfl
  have c1 := hB.cell (j := 1) rfl
  have c2 := hB.cell (j := 2) rfl
  have c3 := hB.cell (j := 3) rfl
  have c4 := hB.cell (j := 4) rfl
  simp [results, Tryd.results4, go_sem, h2, h3, c0, c1, c2, c3, c4]
def parSV (g N c : Nat) (p0 p1 p4 p5 : ByteArray) (d0 d1 d4 d5 : Int) (b8 : Bool) (i : Nat) (v : Value) : Prop := match i with
  | 0 => v = .slice (some ⟨g, 0, none⟩) N c
  | 1 => v = .pointer (some ⟨g, 0, none⟩)
  | 2 => v = .string p0
  | 3 => v = .int .i64 d0
  | 4 => v = .slice (some ⟨g, 0, none⟩) N c
  | 5 => v = .pointer (some ⟨g, 1, none⟩)
  | 6 => v = .string p1
  | 7 => v = .int .i64 d1
  | 8 => v = .slice (some ⟨g, 0, none⟩) N c
  | 9 => v = .pointer (some ⟨g, 4, none⟩)
  | 10 => v = .string p4
  | 11 => v = .int .i64 d4
  | 12 => v = .slice (some ⟨g, 0, none⟩) N c
  | 13 => v = .pointer (some ⟨g, 5, none⟩)
  | 14 => v = .string p5
  | 15 => v = .int .i64 d5
  | 16 => v = .slice (some ⟨g, 0, none⟩) N c
  | 17 => v = .int .i64 N
  | 18 => v = .bool b8
  | 19 => v = .agg #[.int .i64 d0, .int .i64 d1, .int .i64 d4, .int .i64 d5, .bool b8]
  | _ => True
set_option maxRecDepth 100000 in
set_option maxHeartbeats 8000000 in
theorem specParseWeather_c (s : ByteArray) (w : World) (hs : s.size ≤ 1048576) : Calls Tryd.prog 4 #[.string s] w (WeaP (pGiveS s.data.toList) w) := by
  have h0 : Below w.heap.size w (w.alloc (.cells #[.int .i64 0, .int .i64 0, .int .i64 0, .int .i64 0, .bool false] 23)) := (Below.refl _ _).alloc (Nat.le_refl _) _
  have HZ := Lib.hid (Box.new w zeroW 23)
  have HB := Lib.hid h0
  clear h0
  go_enter Tryd.func4, Tryd.ntmps4
  go_wp2_with fail
  refine (split32_c s _ hs).mono ?_
  rintro e w1 ⟨ps, A, c, hps, rfl, hown, hb1⟩
  have HPS := Lib.hid hps
  have HZ1 := Lib.hid (HZ.out.carry hb1)
  have HB1 := Lib.hid (HB.out.trans (hb1.mono HB.out.size))
  have HO := Lib.hid hown
  clear hps hown hb1 HZ HB
  obtain ⟨N, hN⟩ : ∃ N, ps.length = N := ⟨_, rfl⟩
  rw [hN]
  by_cases h60 : 60 < s.size
  · have H := Lib.hid (show pGiveS s.data.toList = (⟨0, 0, 0, 0, false⟩, false) by rw [pGiveS, if_pos (by rw [← size_list]; exact h60)])
    have n1 : (60 : Int) < s.size := by omega
    clear h60 HO HPS hN
    have z0 := HZ1.out.cell (j := 0) rfl
    have z1 := HZ1.out.cell (j := 1) rfl
    have z2 := HZ1.out.cell (j := 2) rfl
    have z3 := HZ1.out.cell (j := 3) rfl
    have z4 := HZ1.out.cell (j := 4) rfl
    have zz := HZ1.out.frozen
    have lz := HZ1.out.lt
    have zs := HB1.out.size
    go_wp2_with fail
    exact bodyPost_ret (v := .tuple #[.agg [.int .i64 0, .int .i64 0, .int .i64 0, .int .i64 0, .bool false].toArray, .bool false]) (res_atS rfl rfl (HZ1.out.puts (us := [.int .i64 0, .int .i64 0, .int .i64 0, .int .i64 0, .bool false]) rfl)) rfl ⟨retW H.out, by have h := HB1.out; exact (by repeat (first | (with_reducible exact Below.refl _ _) | ((with_reducible refine alloc_ ?_ ?_); (focus (first | exact Nat.le_refl _ | (simp; done) | (simp; omega) | omega))) | ((with_reducible refine set_ ?_ ?_); (focus (first | exact Nat.le_refl _ | (simp; done) | (simp; omega) | omega))) | (with_reducible refine Below.drew ?_) | ((with_reducible refine after_ ?_ (by assumption) ?_); (rotate_left; (focus (first | exact Nat.le_refl _ | (simp; done) | (simp; omega) | omega))))))⟩
  · have n1 : ¬ (60 : Int) < s.size := by omega
    by_cases hn : N = 7 ∨ N = 8
    · obtain ⟨g, rfl, hgl, hc⟩ := texts_at HO.out (by omega)
      obtain ⟨p0, e0⟩ : ∃ p, nth ps 0 = p := ⟨_, rfl⟩
      obtain ⟨p1, e1⟩ : ∃ p, nth ps 1 = p := ⟨_, rfl⟩
      obtain ⟨p4, e4⟩ : ∃ p, nth ps 4 = p := ⟨_, rfl⟩
      obtain ⟨p5, e5⟩ : ∃ p, nth ps 5 = p := ⟨_, rfl⟩
      have c0 := hc 0 (by omega)
      have c1 := hc 1 (by omega)
      have c4 := hc 4 (by omega)
      have c5 := hc 5 (by omega)
      rw [e0] at c0
      rw [e1] at c1
      rw [e4] at c4
      rw [e5] at c5
      obtain ⟨b8, hb8⟩ : ∃ b, decide ((N : Int) = 8) = b := ⟨_, rfl⟩
      have hb8' : ((N : Int) == 8) = b8 := by rw [← hb8]; rfl
      obtain ⟨d0, hd0⟩ : ∃ d, digL p0.data.toList = d := ⟨_, rfl⟩
      obtain ⟨d1, hd1⟩ : ∃ d, digL p1.data.toList = d := ⟨_, rfl⟩
      obtain ⟨d4, hd4⟩ : ∃ d, digL p4.data.toList = d := ⟨_, rfl⟩
      obtain ⟨d5, hd5⟩ : ∃ d, digL p5.data.toList = d := ⟨_, rfl⟩
      have HSP := Lib.hid (show pGiveS s.data.toList = wGive s.data.toList ⟨d0, d1, d4, d5, b8⟩ by
        rw [pGiveS_at HPS.out (by rw [← size_list]; exact h60) (by omega), e0, e1, e4, e5, wReadS, hd0, hd1, hd4, hd5, hN, ← hb8]
        congr 2
        exact decide_eq_decide.2 (by omega))
      have D0 := Lib.hid (show Value.int .i64 (digL p0.data.toList) = .int .i64 d0 by rw [hd0])
      have D1 := Lib.hid (show Value.int .i64 (digL p1.data.toList) = .int .i64 d1 by rw [hd1])
      have D4 := Lib.hid (show Value.int .i64 (digL p4.data.toList) = .int .i64 d4 by rw [hd4])
      have D5 := Lib.hid (show Value.int .i64 (digL p5.data.toList) = .int .i64 d5 by rw [hd5])
      have k0 : 0 < N := by omega
      have k1 : (1 : Int) < N := by omega
      have k4 : (4 : Int) < N := by omega
      have k5 : (5 : Int) < N := by omega
      clear hd0 hd1 hd4 hd5 e0 e1 e4 e5 hc HO HPS hN h60
      go_upto_region 2 with fail
      go_cut [20] (fun v wx => v = .bool false ∧ w1 = wx)
      case first => as_aux_lemma =>
        rcases hn with rfl | rfl
        · go_wp2_with fail
          go_meet
          exact ⟨by rw [decide_eq_false (show ¬ (60 : Int) < s.size by omega)], rfl⟩
        · go_wp2_with fail
          go_meet
          exact ⟨by rw [decide_eq_false (show ¬ (60 : Int) < s.size by omega)], rfl⟩
      case rest => as_aux_lemma =>
        obtain ⟨rfl, rfl⟩ := hcut
        clear hn
        go_wp2_with fail
        go_cut [5] (fun p wx => FillS w1 ⟨d0, d1, d4, d5, b8⟩ p wx)
        case first => as_aux_lemma =>
          rename_i K1 h1
          refine wp_region_relyA (parSV g N c p0 p1 p4 p5 d0 d1 d4 d5 b8) (MadeJ w1 23 5 zeroW [.int .i64 d0, .int .i64 d1, .int .i64 d4, .int .i64 d5, .bool b8] 5 20 21) (by kernel_rfl) (by kernel_rfl) ?_ ?_ ?_
          · exact MadeJ.start (Below.refl _ _).drew
          · refine ⟨?_, ?_, ?_, ?_, ?_, ?_, ?_, ?_, ?_, ?_, ?_, ?_, ?_, ?_, ?_, ?_, ?_, ?_, ?_, ?_, ?_, ?_, trivial⟩
            · intro L a' w' hs hsz hl hj hf hd KK hK
              have HJ := Lib.hid hj
              have HB9 := Lib.hid hj.1
              have e4 : a'.tmps[4]?.getD undef = .slice (some ⟨g, 0, none⟩) N c := by simpa [Act.eval] using hf 4 (unwritten_of (by kernel_rfl))
              have HL := Lib.hid hl
              have HS := Lib.hid hsz
              clear hf hd hj hs hl hsz
              go_simp
              exact hK _ _ rfl (HJ.out.put (by decide) (by decide) (by decide)  (Below.refl _ _))
            · intro L a' w' hs hsz hl hj hf hd KK hK
              have HJ := Lib.hid hj
              have HB9 := Lib.hid hj.1
              have e22 : parSV g N c p0 p1 p4 p5 d0 d1 d4 d5 b8 0 (a'.tmps[22]?.getD undef) := by simpa [Act.eval] using (relyA_dep hd 0 (by kernel_rfl)).2 22 (by kernel_rfl)
              simp only [parSV] at e22
              have HL := Lib.hid hl
              have HS := Lib.hid hsz
              clear hf hd hj hs hl hsz
              go_simp
              exact hK _ _ rfl (HJ.out.put (by decide) (by decide) (by decide)  (Below.refl _ _))
            · intro L a' w' hs hsz hl hj hf hd KK hK
              have HJ := Lib.hid hj
              have HB9 := Lib.hid hj.1
              have e23 : parSV g N c p0 p1 p4 p5 d0 d1 d4 d5 b8 1 (a'.tmps[23]?.getD undef) := by simpa [Act.eval] using (relyA_dep hd 1 (by kernel_rfl)).2 23 (by kernel_rfl)
              simp only [parSV] at e23
              have q := (HB9.out.cell (p := ⟨g, 0, none⟩) hgl).trans c0
              have HL := Lib.hid hl
              have HS := Lib.hid hsz
              clear hf hd hj hs hl hsz
              go_simp
              exact hK _ _ rfl (HJ.out.put (by decide) (by decide) (by decide)  (Below.refl _ _))
            · intro L a' w' hs hsz hl hj hf hd KK hK
              have HJ := Lib.hid hj
              have HB9 := Lib.hid hj.1
              have e24 : parSV g N c p0 p1 p4 p5 d0 d1 d4 d5 b8 2 (a'.tmps[24]?.getD undef) := by simpa [Act.eval] using (relyA_dep hd 2 (by kernel_rfl)).2 24 (by kernel_rfl)
              simp only [parSV] at e24
              have HL := Lib.hid hl
              have HS := Lib.hid hsz
              clear hf hd hj hs hl hsz
              go_simp
              refine (l17Digits_c p0 w').mono ?_
              rintro e wx ⟨rfl, rfl⟩
              exact hK _ _ D0.out (HJ.out.put (by decide) (by decide) (by decide)  (Below.refl _ _))
            · intro L a' w' hs hsz hl hj hf hd KK hK
              have HJ := Lib.hid hj
              have HB9 := Lib.hid hj.1
              have e4 : a'.tmps[4]?.getD undef = .slice (some ⟨g, 0, none⟩) N c := by simpa [Act.eval] using hf 4 (unwritten_of (by kernel_rfl))
              have HL := Lib.hid hl
              have HS := Lib.hid hsz
              clear hf hd hj hs hl hsz
              go_simp
              exact hK _ _ rfl (HJ.out.put (by decide) (by decide) (by decide)  (Below.refl _ _))
            · intro L a' w' hs hsz hl hj hf hd KK hK
              have HJ := Lib.hid hj
              have HB9 := Lib.hid hj.1
              have e26 : parSV g N c p0 p1 p4 p5 d0 d1 d4 d5 b8 4 (a'.tmps[26]?.getD undef) := by simpa [Act.eval] using (relyA_dep hd 4 (by kernel_rfl)).2 26 (by kernel_rfl)
              simp only [parSV] at e26
              have HL := Lib.hid hl
              have HS := Lib.hid hsz
              clear hf hd hj hs hl hsz
              go_simp
              exact hK _ _ rfl (HJ.out.put (by decide) (by decide) (by decide)  (Below.refl _ _))
            · intro L a' w' hs hsz hl hj hf hd KK hK
              have HJ := Lib.hid hj
              have HB9 := Lib.hid hj.1
              have e27 : parSV g N c p0 p1 p4 p5 d0 d1 d4 d5 b8 5 (a'.tmps[27]?.getD undef) := by simpa [Act.eval] using (relyA_dep hd 5 (by kernel_rfl)).2 27 (by kernel_rfl)
              simp only [parSV] at e27
              have q := (HB9.out.cell (p := ⟨g, 1, none⟩) hgl).trans c1
              have HL := Lib.hid hl
              have HS := Lib.hid hsz
              clear hf hd hj hs hl hsz
              go_simp
              exact hK _ _ rfl (HJ.out.put (by decide) (by decide) (by decide)  (Below.refl _ _))
            · intro L a' w' hs hsz hl hj hf hd KK hK
              have HJ := Lib.hid hj
              have HB9 := Lib.hid hj.1
              have e28 : parSV g N c p0 p1 p4 p5 d0 d1 d4 d5 b8 6 (a'.tmps[28]?.getD undef) := by simpa [Act.eval] using (relyA_dep hd 6 (by kernel_rfl)).2 28 (by kernel_rfl)
              simp only [parSV] at e28
              have HL := Lib.hid hl
              have HS := Lib.hid hsz
              clear hf hd hj hs hl hsz
              go_simp
              refine (l17Digits_c p1 w').mono ?_
              rintro e wx ⟨rfl, rfl⟩
              exact hK _ _ D1.out (HJ.out.put (by decide) (by decide) (by decide)  (Below.refl _ _))
            · intro L a' w' hs hsz hl hj hf hd KK hK
              have HJ := Lib.hid hj
              have HB9 := Lib.hid hj.1
              have e4 : a'.tmps[4]?.getD undef = .slice (some ⟨g, 0, none⟩) N c := by simpa [Act.eval] using hf 4 (unwritten_of (by kernel_rfl))
              have HL := Lib.hid hl
              have HS := Lib.hid hsz
              clear hf hd hj hs hl hsz
              go_simp
              exact hK _ _ rfl (HJ.out.put (by decide) (by decide) (by decide)  (Below.refl _ _))
            · intro L a' w' hs hsz hl hj hf hd KK hK
              have HJ := Lib.hid hj
              have HB9 := Lib.hid hj.1
              have e30 : parSV g N c p0 p1 p4 p5 d0 d1 d4 d5 b8 8 (a'.tmps[30]?.getD undef) := by simpa [Act.eval] using (relyA_dep hd 8 (by kernel_rfl)).2 30 (by kernel_rfl)
              simp only [parSV] at e30
              have HL := Lib.hid hl
              have HS := Lib.hid hsz
              clear hf hd hj hs hl hsz
              go_simp
              exact hK _ _ rfl (HJ.out.put (by decide) (by decide) (by decide)  (Below.refl _ _))
            · intro L a' w' hs hsz hl hj hf hd KK hK
              have HJ := Lib.hid hj
              have HB9 := Lib.hid hj.1
              have e31 : parSV g N c p0 p1 p4 p5 d0 d1 d4 d5 b8 9 (a'.tmps[31]?.getD undef) := by simpa [Act.eval] using (relyA_dep hd 9 (by kernel_rfl)).2 31 (by kernel_rfl)
              simp only [parSV] at e31
              have q := (HB9.out.cell (p := ⟨g, 4, none⟩) hgl).trans c4
              have HL := Lib.hid hl
              have HS := Lib.hid hsz
              clear hf hd hj hs hl hsz
              go_simp
              exact hK _ _ rfl (HJ.out.put (by decide) (by decide) (by decide)  (Below.refl _ _))
            · intro L a' w' hs hsz hl hj hf hd KK hK
              have HJ := Lib.hid hj
              have HB9 := Lib.hid hj.1
              have e32 : parSV g N c p0 p1 p4 p5 d0 d1 d4 d5 b8 10 (a'.tmps[32]?.getD undef) := by simpa [Act.eval] using (relyA_dep hd 10 (by kernel_rfl)).2 32 (by kernel_rfl)
              simp only [parSV] at e32
              have HL := Lib.hid hl
              have HS := Lib.hid hsz
              clear hf hd hj hs hl hsz
              go_simp
              refine (l17Digits_c p4 w').mono ?_
              rintro e wx ⟨rfl, rfl⟩
              exact hK _ _ D4.out (HJ.out.put (by decide) (by decide) (by decide)  (Below.refl _ _))
            · intro L a' w' hs hsz hl hj hf hd KK hK
              have HJ := Lib.hid hj
              have HB9 := Lib.hid hj.1
              have e4 : a'.tmps[4]?.getD undef = .slice (some ⟨g, 0, none⟩) N c := by simpa [Act.eval] using hf 4 (unwritten_of (by kernel_rfl))
              have HL := Lib.hid hl
              have HS := Lib.hid hsz
              clear hf hd hj hs hl hsz
              go_simp
              exact hK _ _ rfl (HJ.out.put (by decide) (by decide) (by decide)  (Below.refl _ _))
            · intro L a' w' hs hsz hl hj hf hd KK hK
              have HJ := Lib.hid hj
              have HB9 := Lib.hid hj.1
              have e34 : parSV g N c p0 p1 p4 p5 d0 d1 d4 d5 b8 12 (a'.tmps[34]?.getD undef) := by simpa [Act.eval] using (relyA_dep hd 12 (by kernel_rfl)).2 34 (by kernel_rfl)
              simp only [parSV] at e34
              have HL := Lib.hid hl
              have HS := Lib.hid hsz
              clear hf hd hj hs hl hsz
              go_simp
              exact hK _ _ rfl (HJ.out.put (by decide) (by decide) (by decide)  (Below.refl _ _))
            · intro L a' w' hs hsz hl hj hf hd KK hK
              have HJ := Lib.hid hj
              have HB9 := Lib.hid hj.1
              have e35 : parSV g N c p0 p1 p4 p5 d0 d1 d4 d5 b8 13 (a'.tmps[35]?.getD undef) := by simpa [Act.eval] using (relyA_dep hd 13 (by kernel_rfl)).2 35 (by kernel_rfl)
              simp only [parSV] at e35
              have q := (HB9.out.cell (p := ⟨g, 5, none⟩) hgl).trans c5
              have HL := Lib.hid hl
              have HS := Lib.hid hsz
              clear hf hd hj hs hl hsz
              go_simp
              exact hK _ _ rfl (HJ.out.put (by decide) (by decide) (by decide)  (Below.refl _ _))
            · intro L a' w' hs hsz hl hj hf hd KK hK
              have HJ := Lib.hid hj
              have HB9 := Lib.hid hj.1
              have e36 : parSV g N c p0 p1 p4 p5 d0 d1 d4 d5 b8 14 (a'.tmps[36]?.getD undef) := by simpa [Act.eval] using (relyA_dep hd 14 (by kernel_rfl)).2 36 (by kernel_rfl)
              simp only [parSV] at e36
              have HL := Lib.hid hl
              have HS := Lib.hid hsz
              clear hf hd hj hs hl hsz
              go_simp
              refine (l17Digits_c p5 w').mono ?_
              rintro e wx ⟨rfl, rfl⟩
              exact hK _ _ D5.out (HJ.out.put (by decide) (by decide) (by decide)  (Below.refl _ _))
            · intro L a' w' hs hsz hl hj hf hd KK hK
              have HJ := Lib.hid hj
              have HB9 := Lib.hid hj.1
              have e4 : a'.tmps[4]?.getD undef = .slice (some ⟨g, 0, none⟩) N c := by simpa [Act.eval] using hf 4 (unwritten_of (by kernel_rfl))
              have HL := Lib.hid hl
              have HS := Lib.hid hsz
              clear hf hd hj hs hl hsz
              go_simp
              exact hK _ _ rfl (HJ.out.put (by decide) (by decide) (by decide)  (Below.refl _ _))
            · intro L a' w' hs hsz hl hj hf hd KK hK
              have HJ := Lib.hid hj
              have HB9 := Lib.hid hj.1
              have e38 : parSV g N c p0 p1 p4 p5 d0 d1 d4 d5 b8 16 (a'.tmps[38]?.getD undef) := by simpa [Act.eval] using (relyA_dep hd 16 (by kernel_rfl)).2 38 (by kernel_rfl)
              simp only [parSV] at e38
              have HL := Lib.hid hl
              have HS := Lib.hid hsz
              clear hf hd hj hs hl hsz
              go_simp
              exact hK _ _ rfl (HJ.out.put (by decide) (by decide) (by decide)  (Below.refl _ _))
            · intro L a' w' hs hsz hl hj hf hd KK hK
              have HJ := Lib.hid hj
              have HB9 := Lib.hid hj.1
              have e39 : parSV g N c p0 p1 p4 p5 d0 d1 d4 d5 b8 17 (a'.tmps[39]?.getD undef) := by simpa [Act.eval] using (relyA_dep hd 17 (by kernel_rfl)).2 39 (by kernel_rfl)
              simp only [parSV] at e39
              have HL := Lib.hid hl
              have HS := Lib.hid hsz
              clear hf hd hj hs hl hsz
              go_simp
              exact hK _ _ rfl (HJ.out.put (by decide) (by decide) (by decide)  (Below.refl _ _))
            · intro L a' w' hs hsz hl hj hf hd KK hK
              have HJ := Lib.hid hj
              have HB9 := Lib.hid hj.1
              have e25 : parSV g N c p0 p1 p4 p5 d0 d1 d4 d5 b8 3 (a'.tmps[25]?.getD undef) := by simpa [Act.eval] using (relyA_dep hd 3 (by kernel_rfl)).2 25 (by kernel_rfl)
              simp only [parSV] at e25
              have e29 : parSV g N c p0 p1 p4 p5 d0 d1 d4 d5 b8 7 (a'.tmps[29]?.getD undef) := by simpa [Act.eval] using (relyA_dep hd 7 (by kernel_rfl)).2 29 (by kernel_rfl)
              simp only [parSV] at e29
              have e33 : parSV g N c p0 p1 p4 p5 d0 d1 d4 d5 b8 11 (a'.tmps[33]?.getD undef) := by simpa [Act.eval] using (relyA_dep hd 11 (by kernel_rfl)).2 33 (by kernel_rfl)
              simp only [parSV] at e33
              have e37 : parSV g N c p0 p1 p4 p5 d0 d1 d4 d5 b8 15 (a'.tmps[37]?.getD undef) := by simpa [Act.eval] using (relyA_dep hd 15 (by kernel_rfl)).2 37 (by kernel_rfl)
              simp only [parSV] at e37
              have e40 : parSV g N c p0 p1 p4 p5 d0 d1 d4 d5 b8 18 (a'.tmps[40]?.getD undef) := by simpa [Act.eval] using (relyA_dep hd 18 (by kernel_rfl)).2 40 (by kernel_rfl)
              simp only [parSV] at e40
              have HL := Lib.hid hl
              have HS := Lib.hid hsz
              clear hf hd hj hs hl hsz
              go_simp
              exact hK _ _ rfl (HJ.out.put (by decide) (by decide) (by decide)  (Below.refl _ _))
            · intro L a' w' hs hsz hl hj hf hd KK hK
              have HJ := Lib.hid hj
              have HB9 := Lib.hid hj.1
              have HL := Lib.hid hl
              have HS := Lib.hid hsz
              clear hf hd hj hs hl hsz
              go_simp
              exact hK _ _ trivial (HJ.out.made (by decide) HL.out (by have h : a'.tmps.size = 53 := HS.out; omega) rfl)
            · intro L a' w' hs hsz hl hj hf hd KK hK
              have HJ := Lib.hid hj
              have HB9 := Lib.hid hj.1
              have e41 : parSV g N c p0 p1 p4 p5 d0 d1 d4 d5 b8 19 (a'.tmps[41]?.getD undef) := by simpa [Act.eval] using (relyA_dep hd 19 (by kernel_rfl)).2 41 (by kernel_rfl)
              simp only [parSV] at e41
              have hA := (relyA_dep hd 20 (by kernel_rfl)).1
              obtain ⟨g', hgv, hg0, hQ⟩ := HJ.out.at hl hA
              have HGV := Lib.hid hgv
              have eD : a'.tmps[5]?.getD undef = .pointer (some ⟨g', 0, none⟩) := by simpa [Act.eval] using hgv
              have HQ := Lib.hid hQ
              have q0 := HQ.out.cell (j := 0) rfl
              have q1 := HQ.out.cell (j := 1) rfl
              have q2 := HQ.out.cell (j := 2) rfl
              have q3 := HQ.out.cell (j := 3) rfl
              have q4 := HQ.out.cell (j := 4) rfl
              have qz := HQ.out.frozen
              have lq := HQ.out.lt
              clear hgv hQ
              have HL := Lib.hid hl
              have HS := Lib.hid hsz
              clear hf hd hj hs hl hsz
              go_simp
              exact hK (.bool false) _ trivial (HJ.out.stored (g := g') (v := .bool false) (by decide) HL.out hA (by decide) HGV.out hg0 (((((HB9.out.setCell (p := ⟨g', 0, none⟩) hg0 _).setCell (p := ⟨g', 1, none⟩) hg0 _).setCell (p := ⟨g', 2, none⟩) hg0 _).setCell (p := ⟨g', 3, none⟩) hg0 _).setCell (p := ⟨g', 4, none⟩) hg0 _) (HQ.out.puts (us := [.int .i64 d0, .int .i64 d1, .int .i64 d4, .int .i64 d5, .bool b8]) rfl))
          · intro L a' w' hj hL hsz hdf hfr hvs
            obtain ⟨g', e11, hg0, hQ, hB⟩ := hj.done hL (by decide) (by decide)
            have HP9 : FillS w1 ⟨d0, d1, d4, d5, b8⟩ (.pointer (some ⟨g', 0, none⟩)) w' := ⟨g', rfl, hg0, hQ, hB⟩
            obtain ⟨tm, df⟩ := a'
            obtain ⟨ts, rfl⟩ : ∃ ts : List Value, tm = ts.toArray := ⟨tm.toList, by simp⟩
            simp only at hdf
            subst hdf
            have hlen : ts.length = 53 := by simpa using hsz
            have f0 := hfr 0 (unwritten_of (by kernel_rfl))
            have f1 := hfr 1 (unwritten_of (by kernel_rfl))
            have f2 := hfr 2 (unwritten_of (by kernel_rfl))
            have f3 := hfr 3 (unwritten_of (by kernel_rfl))
            have f4 := hfr 4 (unwritten_of (by kernel_rfl))
            have f6 := hfr 6 (unwritten_of (by kernel_rfl))
            have f7 := hfr 7 (unwritten_of (by kernel_rfl))
            have f8 := hfr 8 (unwritten_of (by kernel_rfl))
            have f9 := hfr 9 (unwritten_of (by kernel_rfl))
            have f10 := hfr 10 (unwritten_of (by kernel_rfl))
            have f11 := hfr 11 (unwritten_of (by kernel_rfl))
            have f12 := hfr 12 (unwritten_of (by kernel_rfl))
            have f13 := hfr 13 (unwritten_of (by kernel_rfl))
            have f14 := hfr 14 (unwritten_of (by kernel_rfl))
            have f15 := hfr 15 (unwritten_of (by kernel_rfl))
            have f16 := hfr 16 (unwritten_of (by kernel_rfl))
            have f17 := hfr 17 (unwritten_of (by kernel_rfl))
            have f18 := hfr 18 (unwritten_of (by kernel_rfl))
            have f19 := hfr 19 (unwritten_of (by kernel_rfl))
            have f20 := hfr 20 (unwritten_of (by kernel_rfl))
            have f21 := hfr 21 (unwritten_of (by kernel_rfl))
            have f42 := hfr 42 (unwritten_of (by kernel_rfl))
            have f43 := hfr 43 (unwritten_of (by kernel_rfl))
            have f44 := hfr 44 (unwritten_of (by kernel_rfl))
            have f45 := hfr 45 (unwritten_of (by kernel_rfl))
            have f46 := hfr 46 (unwritten_of (by kernel_rfl))
            have f47 := hfr 47 (unwritten_of (by kernel_rfl))
            have f48 := hfr 48 (unwritten_of (by kernel_rfl))
            have f49 := hfr 49 (unwritten_of (by kernel_rfl))
            have f50 := hfr 50 (unwritten_of (by kernel_rfl))
            have f51 := hfr 51 (unwritten_of (by kernel_rfl))
            have f52 := hfr 52 (unwritten_of (by kernel_rfl))
            clear hfr hvs hsz hj hL hQ hB hg0
            rcases ts with _ | ⟨y0, ts⟩
            · simp at hlen
            rcases ts with _ | ⟨y1, ts⟩
            · simp at hlen
            rcases ts with _ | ⟨y2, ts⟩
            · simp at hlen
            rcases ts with _ | ⟨y3, ts⟩
            · simp at hlen
            rcases ts with _ | ⟨y4, ts⟩
            · simp at hlen
            rcases ts with _ | ⟨y5, ts⟩
            · simp at hlen
            rcases ts with _ | ⟨y6, ts⟩
            · simp at hlen
            rcases ts with _ | ⟨y7, ts⟩
            · simp at hlen
            rcases ts with _ | ⟨y8, ts⟩
            · simp at hlen
            rcases ts with _ | ⟨y9, ts⟩
            · simp at hlen
            rcases ts with _ | ⟨y10, ts⟩
            · simp at hlen
            rcases ts with _ | ⟨y11, ts⟩
            · simp at hlen
            rcases ts with _ | ⟨y12, ts⟩
            · simp at hlen
            rcases ts with _ | ⟨y13, ts⟩
            · simp at hlen
            rcases ts with _ | ⟨y14, ts⟩
            · simp at hlen
            rcases ts with _ | ⟨y15, ts⟩
            · simp at hlen
            rcases ts with _ | ⟨y16, ts⟩
            · simp at hlen
            rcases ts with _ | ⟨y17, ts⟩
            · simp at hlen
            rcases ts with _ | ⟨y18, ts⟩
            · simp at hlen
            rcases ts with _ | ⟨y19, ts⟩
            · simp at hlen
            rcases ts with _ | ⟨y20, ts⟩
            · simp at hlen
            rcases ts with _ | ⟨y21, ts⟩
            · simp at hlen
            rcases ts with _ | ⟨y22, ts⟩
            · simp at hlen
            rcases ts with _ | ⟨y23, ts⟩
            · simp at hlen
            rcases ts with _ | ⟨y24, ts⟩
            · simp at hlen
            rcases ts with _ | ⟨y25, ts⟩
            · simp at hlen
            rcases ts with _ | ⟨y26, ts⟩
            · simp at hlen
            rcases ts with _ | ⟨y27, ts⟩
            · simp at hlen
            rcases ts with _ | ⟨y28, ts⟩
            · simp at hlen
            rcases ts with _ | ⟨y29, ts⟩
            · simp at hlen
            rcases ts with _ | ⟨y30, ts⟩
            · simp at hlen
            rcases ts with _ | ⟨y31, ts⟩
            · simp at hlen
            rcases ts with _ | ⟨y32, ts⟩
            · simp at hlen
            rcases ts with _ | ⟨y33, ts⟩
            · simp at hlen
            rcases ts with _ | ⟨y34, ts⟩
            · simp at hlen
            rcases ts with _ | ⟨y35, ts⟩
            · simp at hlen
            rcases ts with _ | ⟨y36, ts⟩
            · simp at hlen
            rcases ts with _ | ⟨y37, ts⟩
            · simp at hlen
            rcases ts with _ | ⟨y38, ts⟩
            · simp at hlen
            rcases ts with _ | ⟨y39, ts⟩
            · simp at hlen
            rcases ts with _ | ⟨y40, ts⟩
            · simp at hlen
            rcases ts with _ | ⟨y41, ts⟩
            · simp at hlen
            rcases ts with _ | ⟨y42, ts⟩
            · simp at hlen
            rcases ts with _ | ⟨y43, ts⟩
            · simp at hlen
            rcases ts with _ | ⟨y44, ts⟩
            · simp at hlen
            rcases ts with _ | ⟨y45, ts⟩
            · simp at hlen
            rcases ts with _ | ⟨y46, ts⟩
            · simp at hlen
            rcases ts with _ | ⟨y47, ts⟩
            · simp at hlen
            rcases ts with _ | ⟨y48, ts⟩
            · simp at hlen
            rcases ts with _ | ⟨y49, ts⟩
            · simp at hlen
            rcases ts with _ | ⟨y50, ts⟩
            · simp at hlen
            rcases ts with _ | ⟨y51, ts⟩
            · simp at hlen
            rcases ts with _ | ⟨y52, ts⟩
            · simp at hlen
            obtain rfl : ts = [] := List.eq_nil_of_length_eq_zero (by simpa using hlen)
            simp only [Act.eval, Array.getD_eq_getD_getElem?, List.getElem?_toArray, List.getElem?_cons_succ, List.getElem?_cons_zero, Option.getD_some] at e11 f0 f1 f2 f3 f4 f6 f7 f8 f9 f10 f11 f12 f13 f14 f15 f16 f17 f18 f19 f20 f21 f42 f43 f44 f45 f46 f47 f48 f49 f50 f51 f52
            subst e11 f0 f1 f2 f3 f4 f6 f7 f8 f9 f10 f11 f12 f13 f14 f15 f16 f17 f18 f19 f20 f21 f42 f43 f44 f45 f46 f47 f48 f49 f50 f51 f52
            refine h1 _ _ (Met.intro ?_)
            refine K1 _ _ ?_
            (repeat apply Exists.intro)
            exact ⟨HP9, rfl⟩
        case rest => as_aux_lemma =>
          obtain ⟨g', rfl, hg, hx, hbel⟩ := hcut
          have HX := Lib.hid hx
          have HW := Lib.hid hbel
          clear hx hbel c0 c1 c4 c5 D0 D1 D4 D5
          have gw : ¬ g' = w.heap.size := by have := HB1.out.size; have := HZ1.out.lt; omega
          have HZ2 := Lib.hid (HZ1.out.carry HW.out)
          have HB2 := Lib.hid (HB1.out.trans (HW.out.mono HB1.out.size))
          clear HZ1 HB1 HW
          have y0 := HX.out.cell (j := 0) rfl
          have y1 := HX.out.cell (j := 1) rfl
          have y2 := HX.out.cell (j := 2) rfl
          have y3 := HX.out.cell (j := 3) rfl
          have y4 := HX.out.cell (j := 4) rfl
          have yl := HX.out.lt
          go_wp2_with fail
          refine (l17One_c ⟨d0, d1, d4, d5, b8⟩ _).mono ?_
          rintro e w8 ⟨rfl, hb8x⟩
          have HX3 := Lib.hid (HX.out.carry hb8x)
          have HZ3 := Lib.hid (HZ2.out.carry hb8x)
          have HB3 := Lib.hid (HB2.out.trans (hb8x.mono HB2.out.size))
          clear hb8x HX HZ2 HB2 y0 y1 y2 y3 y4 yl
          rcases hok : okW ⟨d0, d1, d4, d5, b8⟩ with _ | _
          · have H := Lib.hid (show pGiveS s.data.toList = (⟨0, 0, 0, 0, false⟩, false) by rw [HSP.out, wGive, if_neg (fun h => by rw [hok] at h; exact absurd h.1 (by simp))])
            have z0 := HZ3.out.cell (j := 0) rfl
            have z1 := HZ3.out.cell (j := 1) rfl
            have z2 := HZ3.out.cell (j := 2) rfl
            have z3 := HZ3.out.cell (j := 3) rfl
            have z4 := HZ3.out.cell (j := 4) rfl
            have zz := HZ3.out.frozen
            have lz := HZ3.out.lt
            have zs := HB3.out.size
            go_wp2_with fail
            exact bodyPost_ret (v := .tuple #[.agg [.int .i64 0, .int .i64 0, .int .i64 0, .int .i64 0, .bool false].toArray, .bool false]) (res_atS rfl rfl (HZ3.out.puts (us := [.int .i64 0, .int .i64 0, .int .i64 0, .int .i64 0, .bool false]) rfl)) rfl ⟨retW H.out, by have h := HB3.out; exact (by repeat (first | (with_reducible exact Below.refl _ _) | ((with_reducible refine alloc_ ?_ ?_); (focus (first | exact Nat.le_refl _ | (simp; done) | (simp; omega) | omega))) | ((with_reducible refine set_ ?_ ?_); (focus (first | exact Nat.le_refl _ | (simp; done) | (simp; omega) | omega))) | (with_reducible refine Below.drew ?_) | ((with_reducible refine after_ ?_ (by assumption) ?_); (rotate_left; (focus (first | exact Nat.le_refl _ | (simp; done) | (simp; omega) | omega))))))⟩
          · have y0 := HX3.out.cell (j := 0) rfl
            have y1 := HX3.out.cell (j := 1) rfl
            have y2 := HX3.out.cell (j := 2) rfl
            have y3 := HX3.out.cell (j := 3) rfl
            have y4 := HX3.out.cell (j := 4) rfl
            have yl := HX3.out.lt
            obtain ⟨T, hT⟩ : ∃ T, S (wtL ⟨d0, d1, d4, d5, b8⟩) = T := ⟨_, rfl⟩
            have HTx := Lib.hid hT
            clear hT
            go_wp2_with fail
            refine (str_of (specText_c ⟨d0, d1, d4, d5, b8⟩ _ hok) HTx.out).mono ?_
            rintro e w9 ⟨rfl, hb9⟩
            have HX4 := Lib.hid (HX3.out.carry hb9)
            have HZ4 := Lib.hid (HZ3.out.carry hb9)
            have HB4 := Lib.hid (HB3.out.trans (hb9.mono HB3.out.size))
            clear hb9 y0 y1 y2 y3 y4 yl HX3 HZ3 HB3
            by_cases hq : wtL ⟨d0, d1, d4, d5, b8⟩ = s.data.toList
            · have H := Lib.hid (show pGiveS s.data.toList = (⟨d0, d1, d4, d5, b8⟩, true) by rw [HSP.out, wGive, if_pos ⟨hok, hq⟩])
              have hTs : T = s := by rw [← HTx.out, hq]; exact (S_of s).symm
              subst hTs
              have y0 := HX4.out.cell (j := 0) rfl
              have y1 := HX4.out.cell (j := 1) rfl
              have y2 := HX4.out.cell (j := 2) rfl
              have y3 := HX4.out.cell (j := 3) rfl
              have y4 := HX4.out.cell (j := 4) rfl
              have yl := HX4.out.lt
              clear hq
              have z0 := HZ4.out.cell (j := 0) rfl
              have z1 := HZ4.out.cell (j := 1) rfl
              have z2 := HZ4.out.cell (j := 2) rfl
              have z3 := HZ4.out.cell (j := 3) rfl
              have z4 := HZ4.out.cell (j := 4) rfl
              have zz := HZ4.out.frozen
              have lz := HZ4.out.lt
              have zs := HB4.out.size
              go_wp2_with fail
              exact bodyPost_ret (v := .tuple #[.agg [.int .i64 d0, .int .i64 d1, .int .i64 d4, .int .i64 d5, .bool b8].toArray, .bool true]) (res_atS rfl rfl (HZ4.out.puts (us := [.int .i64 d0, .int .i64 d1, .int .i64 d4, .int .i64 d5, .bool b8]) rfl)) rfl ⟨retW H.out, by have h := HB4.out; exact (by repeat (first | (with_reducible exact Below.refl _ _) | ((with_reducible refine alloc_ ?_ ?_); (focus (first | exact Nat.le_refl _ | (simp; done) | (simp; omega) | omega))) | ((with_reducible refine set_ ?_ ?_); (focus (first | exact Nat.le_refl _ | (simp; done) | (simp; omega) | omega))) | (with_reducible refine Below.drew ?_) | ((with_reducible refine after_ ?_ (by assumption) ?_); (rotate_left; (focus (first | exact Nat.le_refl _ | (simp; done) | (simp; omega) | omega))))))⟩
            · have H := Lib.hid (show pGiveS s.data.toList = (⟨0, 0, 0, 0, false⟩, false) by rw [HSP.out, wGive, if_neg (fun h => hq h.2)])
              have hts : ¬ T = s := fun e => hq (by rw [← S_data (wtL ⟨d0, d1, d4, d5, b8⟩), HTx.out, e])
              have hts2 : (T.toList == s.toList) = false := by
                rw [beq_eq_false_iff_ne]; intro e; exact hts (toList_inj e)
              clear hq
              have z0 := HZ4.out.cell (j := 0) rfl
              have z1 := HZ4.out.cell (j := 1) rfl
              have z2 := HZ4.out.cell (j := 2) rfl
              have z3 := HZ4.out.cell (j := 3) rfl
              have z4 := HZ4.out.cell (j := 4) rfl
              have zz := HZ4.out.frozen
              have lz := HZ4.out.lt
              have zs := HB4.out.size
              go_wp2_with fail
              exact bodyPost_ret (v := .tuple #[.agg [.int .i64 0, .int .i64 0, .int .i64 0, .int .i64 0, .bool false].toArray, .bool false]) (res_atS rfl rfl (HZ4.out.puts (us := [.int .i64 0, .int .i64 0, .int .i64 0, .int .i64 0, .bool false]) rfl)) rfl ⟨retW H.out, by have h := HB4.out; exact (by repeat (first | (with_reducible exact Below.refl _ _) | ((with_reducible refine alloc_ ?_ ?_); (focus (first | exact Nat.le_refl _ | (simp; done) | (simp; omega) | omega))) | ((with_reducible refine set_ ?_ ?_); (focus (first | exact Nat.le_refl _ | (simp; done) | (simp; omega) | omega))) | (with_reducible refine Below.drew ?_) | ((with_reducible refine after_ ?_ (by assumption) ?_); (rotate_left; (focus (first | exact Nat.le_refl _ | (simp; done) | (simp; omega) | omega))))))⟩
    · have H := Lib.hid (show pGiveS s.data.toList = (⟨0, 0, 0, 0, false⟩, false) from pGiveS_few HPS.out (by rw [hN]; exact hn))
      have n7 : ((N : Int) != 7) = true := by simp; omega
      have n8 : ((N : Int) != 8) = true := by simp; omega
      clear h60 HO HPS hN hn
      have z0 := HZ1.out.cell (j := 0) rfl
      have z1 := HZ1.out.cell (j := 1) rfl
      have z2 := HZ1.out.cell (j := 2) rfl
      have z3 := HZ1.out.cell (j := 3) rfl
      have z4 := HZ1.out.cell (j := 4) rfl
      have zz := HZ1.out.frozen
      have lz := HZ1.out.lt
      have zs := HB1.out.size
      go_wp2_with fail
      exact bodyPost_ret (v := .tuple #[.agg [.int .i64 0, .int .i64 0, .int .i64 0, .int .i64 0, .bool false].toArray, .bool false]) (res_atS rfl rfl (HZ1.out.puts (us := [.int .i64 0, .int .i64 0, .int .i64 0, .int .i64 0, .bool false]) rfl)) rfl ⟨retW H.out, by have h := HB1.out; exact (by repeat (first | (with_reducible exact Below.refl _ _) | ((with_reducible refine alloc_ ?_ ?_); (focus (first | exact Nat.le_refl _ | (simp; done) | (simp; omega) | omega))) | ((with_reducible refine set_ ?_ ?_); (focus (first | exact Nat.le_refl _ | (simp; done) | (simp; omega) | omega))) | (with_reducible refine Below.drew ?_) | ((with_reducible refine after_ ?_ (by assumption) ?_); (rotate_left; (focus (first | exact Nat.le_refl _ | (simp; done) | (simp; omega) | omega))))))⟩
end Go.Proofs.YtmlcaaciofbpgaaDoor
