/- ParseLine of the reference gives what the text writes; no conditions but the length. -/
import Derived.Test.YtpchcblialkpcaaDoorL1Read
import Derived.Test.YtpchcblialkpcaaDoorL1Split
import Derived.Test.YtpchcblialkpcaaDoorSupParse
import Derived.Test.YtpchcblialkpcaaDoorSupTextS
import Derived.Test.YtpchcblialkpcaaDoorSupFlip
namespace Go.Proofs.YtpchcblialkpcaaDoor
open Go.RowKit

def ParseQ (s : List UInt8) (w : World) (e : Ending) (w' : World) : Prop := ∃ p, Parsed s p ∧ SupPost p w e w'
theorem parseQ_none {s : List UInt8} {w w' : World} {A : Option Addr} {cap : Nat} (h : Parsed s ([], false)) (hb : Below w.heap.size w w') : ParseQ s w (.returned (.tuple #[.slice A 0 cap, .bool false])) w' :=
  ⟨_, h, A, cap, rfl, Own.nil, hb⟩
theorem nthS_l {α : Type} [Inhabited α] {q : List α} {n : α} {t : Nat} (h : t < q.length) : nth (q ++ [n]) t = nth q t := by
  rw [nth_eq (by simp; omega), List.getElem_append_left h, ← nth_eq h]
theorem nthS_r {α : Type} [Inhabited α] {q : List α} {n : α} : nth (q ++ [n]) q.length = n := by
  rw [nth_eq (by simp)]; simp
theorem nthS_parts {ps : List ByteArray} {L : List (List UInt8)} (h : ps.map (·.data.toList) = L) {t : Nat} (ht : t < ps.length) : nth L t = (nth ps t).data.toList := by
  subst h
  rw [nth_eq (by simpa using ht), nth_eq ht]; simp
theorem spl_sizes (c : UInt8) : ∀ (s : List UInt8), ∀ p ∈ spl c s, p.length ≤ s.length
  | [], p, h => by simp [spl] at h; subst h; simp
  | x :: s, p, h => by
    rw [spl] at h
    split at h
    · rcases List.mem_cons.1 h with h | h
      · subst h; simp
      · have := spl_sizes c s p h; simp; omega
    · split at h
      · simp at h; subst h; simp
      · next hd tl he =>
        rcases List.mem_cons.1 h with h | h
        · have := spl_sizes c s hd (by rw [he]; exact List.mem_cons_self)
          subst h; simp; omega
        · have := spl_sizes c s p (by rw [he]; exact List.mem_cons_of_mem _ h)
          simp; omega
theorem spl_count (c : UInt8) : ∀ s : List UInt8, (spl c s).length ≤ s.length + 1
  | [] => by simp [spl]
  | x :: s => by
    have := spl_count c s
    rw [spl]
    split
    · simp; omega
    · split
      · simp
      · next hd tl he => rw [he] at this; simp at this ⊢; omega
theorem spl_size {ps : List ByteArray} {s : ByteArray} {c : UInt8} (h : ps.map (·.data.toList) = spl c s.data.toList) {t : Nat} (ht : t < ps.length) : (nth ps t).size ≤ s.size := by
  have := spl_sizes c s.data.toList (nth ps t).data.toList (by rw [← h, nth_eq ht]; exact List.mem_map.2 ⟨_, List.getElem_mem ht, rfl⟩)
  simpa using this
theorem txt_rd {w : World} {B : Nat} {A : Option Addr} {ps : List ByteArray} (h : Rd w B 1 txtCells A ps) {t : Nat} (ht : t < ps.length) : ∃ b off, A = some ⟨b, off, none⟩ ∧ b < B ∧ w.cell? ⟨b, off + t, none⟩ = some (.string (nth ps t)) := by
  obtain ⟨b, off, e, hlt, hc⟩ := h t ht
  exact ⟨b, off, e, hlt, by simpa using hc 0 _ rfl⟩
theorem rdS_len {p : List UInt8} (h : (spl 58 p).length ≠ 2) : rdS p = none := by unfold rdS; rw [if_neg (fun q => h q.1)]
theorem rdS_short {p : List UInt8} (h : (nth (spl 58 p) 0).length < 2) : rdS p = none := by unfold rdS; rw [if_neg (fun q => by omega)]
theorem rdS_yes {p y z : List UInt8} (h : spl 58 p = [y, z]) (h2 : 2 ≤ y.length) : rdS p = some ⟨(parseP (y.drop 1)).1, (parseP z).1, decide (nth y 0 = 83)⟩ := by
  unfold rdS
  rw [h, if_pos ⟨rfl, h2⟩]; rfl
theorem retIP {p : Int × Bool} {v : Int} {b : Bool} {f : FuncId} {args : Array Value} {W : World} (h : Calls Tryd.prog f args W (IntP p W)) (hp : p = (v, b)) : Calls Tryd.prog f args W fun e w' => e = .returned (.tuple #[.int .i64 v, .bool b]) ∧ Below W.heap.size W w' := by subst hp; exact h
set_option maxRecDepth 100000 in
set_option maxHeartbeats 8000000 in
theorem specParseLine_c (s : ByteArray) (w : World) (hs : s.size ≤ 1048576) : Calls Tryd.prog 17 #[.string s] w (ParseQ s.data.toList w) := by
  have HF := Lib.hid (fits_S s.data.toList)
  by_cases h120 : 120 < s.size
  · have n1 : (120 : Int) < s.size := by omega
    have H := Lib.hid (parsed_size (s := s.data.toList) (by simpa using h120))
    clear h120
    go_enter Tryd.func17, Tryd.ntmps17
    go_wp2_with fail
    go_ret2
    exact parseQ_none (w := w) H.out (by repeat (first | (with_reducible exact Below.refl _ _) | ((with_reducible refine alloc_ ?_ ?_); (focus (first | exact Nat.le_refl _ | (simp; done) | (simp; omega) | omega))) | ((with_reducible refine set_ ?_ ?_); (focus (first | exact Nat.le_refl _ | (simp; done) | (simp; omega) | omega))) | (with_reducible refine Below.drew ?_) | ((with_reducible refine after_ ?_ (by assumption) ?_); (rotate_left; (focus (first | exact Nat.le_refl _ | (simp; done) | (simp; omega) | omega))))))
  have n1 : ¬ (120 : Int) < s.size := by omega
  go_enter Tryd.func17, Tryd.ntmps17
  go_wp2_with fail
  refine (l1Split_c s 32 _ hs).mono ?_
  rintro e w1 ⟨ps, A, cap, hps, rfl, ho1, hb1⟩
  have HPS := Lib.hid hps
  have HB1 := Lib.hid hb1
  have HP1 := Lib.hid (ho1.rd txt_one)
  have HO1 := Lib.hid (ownsRow_empty w1 33 3)
  have HB2 := Lib.hid (show Below w1.heap.size w1 (w1.alloc (.cells #[] 33)) from (Below.refl _ _).alloc (Nat.le_refl _) _)
  have HPL := Lib.hid (show ps.length ≤ 1000 from by
    have := spl_count 32 s.data.toList
    rw [← HPS.out, List.length_map] at this
    simp at this; omega)
  clear hps ho1 hb1
  go_wp2_with fail
  go_loopw [5, 6, 7, 8] (fun v i _ _ wr => ∃ (k : Nat) (q : List Sup), k ≤ ps.length ∧ q.length = k ∧ i = .int .i64 k ∧ (∀ t, t < k → rdS (nth ps t).data.toList = some (nth q t)) ∧ wr.ownsRow w1.heap.size 33 3 v q.length ((q.map Sup.cells).flatten) ∧ Below w1.heap.size w1 wr) (fun _ i _ _ _ => ps.length - (intOf i).toNat)
  case atStart => exact ⟨0, [], Nat.zero_le _, rfl, rfl, fun t ht => absurd ht (by omega), HO1.out, HB2.out⟩
  case round =>
    obtain ⟨k, q, hk, hq, rfl, hall, hown, hbel⟩ := hrel
    obtain ⟨A', c', rfl⟩ := ownsRow_shape hown
    have HO := Lib.hid hown
    have HB := Lib.hid hbel
    have HA := Lib.hid hall
    have HQ := Lib.hid hq
    have zr := hbel.size
    have hpl := HPL.out
    have q9 : q.length ≤ 1000 := by omega
    have k9 : k ≤ 1000 := by omega
    clear hown hall hq
    by_cases hlt : k < ps.length
    · obtain ⟨b, off, rfl, hb, c0⟩ := txt_rd (HP1.out.below hbel (Nat.le_refl _)) hlt
      have hps := spl_size HPS.out hlt
      have HLS := Lib.hid (show k < (spl 32 s.data.toList).length by rw [← HPS.out]; simpa using hlt)
      have HNT := Lib.hid (nthS_parts HPS.out hlt)
      obtain ⟨p, hp⟩ : ∃ p, nth ps k = p := ⟨_, rfl⟩
      have HPP := Lib.hid hp
      rw [hp] at c0 hps HNT
      have i1 : (k : Int) < ps.length := by omega
      have i0 : (0 : Int) ≤ (k : Int) := by omega
      have l1 : b < wr.heap.size := by omega
      clear hbel hp
      go_wp2_with fail
      refine (l1Split_c p 58 _ (by omega)).mono ?_
      rintro e w2 ⟨qs, A2, cap2, hqs, rfl, ho2, hb2⟩
      have HQS := Lib.hid hqs
      have HB2 := Lib.hid (HB.out.trans (hb2.mono zr))
      have HBr2 := Lib.hid hb2
      have HO2 := Lib.hid (ownsRow_below HO.out hb2)
      have HR2 := Lib.hid (ho2.rd txt_one)
      have HE2 := Lib.hid (HB1.out.trans (HB2.out.mono HB1.out.size))
      clear hqs ho2 hb2 c0
      by_cases hl2 : qs.length = 2
      case neg =>
        have n2 : ((qs.length : Int) != 2) = true := by rw [bne_iff_ne]; omega
        have H := Lib.hid (HF.out.none HLS.out (by rw [HNT.out]; exact rdS_len (fun e => hl2 (by rw [← HQS.out] at e; simpa using e))))
        clear hl2
        go_wp2_with fail
        go_ret2
        exact parseQ_none (w := w) H.out (HE2.out.alloc (by have := HE2.out.size; omega) _)
      obtain ⟨y, z, rfl⟩ : ∃ y z, qs = [y, z] := by
        rcases qs with _ | ⟨y, _ | ⟨z, _ | ⟨x, qs⟩⟩⟩
        · simp at hl2
        · simp at hl2
        · exact ⟨y, z, rfl⟩
        · simp at hl2
      have hys : y.size ≤ p.size := spl_size HQS.out (t := 0) (by simp)
      have hzs : z.size ≤ p.size := spl_size HQS.out (t := 1) (by simp)
      have HSP := Lib.hid (show spl 58 p.data.toList = [y.data.toList, z.data.toList] from HQS.out.symm)
      obtain ⟨b2, off2, rfl, hb2', cy⟩ := txt_rd HR2.out (t := 0) (by simp)
      obtain ⟨b3, off3, he3, _, cz⟩ := txt_rd HR2.out (t := 1) (by simp)
      simp only [Option.some.injEq, Addr.mk.injEq, and_true] at he3
      obtain ⟨rfl, rfl⟩ := he3
      have cy : w2.cell? ⟨b2, off2, none⟩ = some (.string y) := cy
      have cz : w2.cell? ⟨b2, off2 + 1, none⟩ = some (.string z) := cz
      clear hl2
      by_cases hy2 : y.size < 2
      · have n3 : (y.size : Int) < 2 := by omega
        have H := Lib.hid (HF.out.none HLS.out (by rw [HNT.out]; exact rdS_short (by rw [HSP.out]; show y.data.toList.length < 2; simpa using hy2)))
        clear hy2
        go_wp2_with fail
        go_ret2
        exact parseQ_none (w := w) H.out (HE2.out.alloc (by have := HE2.out.size; omega) _)
      have n3 : ¬ (y.size : Int) < 2 := by omega
      have h0 : 0 < y.size := by omega
      have i2 : (1 : Int) ≤ y.size := by omega
      have HY0 := Lib.hid (show nth y.data.toList 0 = y[0] by rw [nth_eq (by simp; omega)]; rfl)
      obtain ⟨u, hu⟩ : ∃ u, y.extract 1 y.size = u := ⟨_, rfl⟩
      have HU := Lib.hid (show u.data.toList = y.data.toList.drop 1 by rw [← hu, cut_list, List.take_of_length_le (by simp)])
      have hus : u.size ≤ 1000 := by rw [← hu]; simp; omega
      obtain ⟨⟨v1, o1⟩, hv1⟩ : ∃ p, parseP u.data.toList = p := ⟨_, rfl⟩
      obtain ⟨⟨v2, o2⟩, hv2⟩ : ∃ p, parseP z.data.toList = p := ⟨_, rfl⟩
      have HV1 := Lib.hid hv1
      have HV2 := Lib.hid hv2
      have z2 := HB2.out.size
      have zb2 := HBr2.out.size
      clear hv1 hv2 hy2 HR2
      by_cases hc : y[0] = 83
      · have hqc : y[0].toNat = 83 := by rw [hc]; rfl
        have HD := Lib.hid (show decide (y[0] = 83) = true from decide_eq_true hc)
        clear hc
        have HRD := Lib.hid (show rdS (nth ps k).data.toList = some ⟨v1, v2, true⟩ by
          rw [HPP.out, rdS_yes HSP.out (by simp; omega), ← HU.out, HV1.out, HV2.out, HY0.out, HD.out])
        obtain ⟨wb, hwb⟩ : ∃ v, w2.alloc (.cells #[.int .i64 0, .int .i64 0, .bool true] 33) = v := ⟨_, rfl⟩
        have HX := Lib.hid (hwb ▸ Box.new w2 [.int .i64 0, .int .i64 0, .bool true] 33 : Box wb w2.heap.size 33 3 [.int .i64 0, .int .i64 0, .bool true])
        have hbw : Below w2.heap.size w2 wb := hwb ▸ (Below.refl _ _).alloc (Nat.le_refl _) _
        have HBb := Lib.hid hbw
        have HWB := Lib.hid hwb
        have zb := hbw.size
        clear hwb hbw
        go_wp2_with fail
        rw [HWB.out]
        clear hu hqc
        refine (retIP (l1Read_c u _ (by omega)) HV1.out).mono ?_
        rintro e w3 ⟨rfl, hb3⟩
        have hx3 := HX.out.carry hb3
        have HX3 := Lib.hid hx3
        have x0 := hx3.cell (j := 0) rfl
        have xz := hx3.frozen
        have xl := hx3.lt
        have HC3 := Lib.hid (HBb.out.trans (hb3.mono zb))
        obtain ⟨w4, hw4⟩ : ∃ v, w3.setCell ⟨w2.heap.size, 0, none⟩ (.int .i64 v1) = v := ⟨_, rfl⟩
        have HX4 := Lib.hid (show Box w4 w2.heap.size 33 3 [.int .i64 v1, .int .i64 0, .bool true] from hw4 ▸ hx3.set 0 (.int .i64 v1))
        have HC4 := Lib.hid (show Below w2.heap.size w2 w4 from hw4 ▸ HC3.out.setCell (p := ⟨w2.heap.size, 0, none⟩) (Nat.le_refl _) _)
        have cz4 := (HC4.out.cell (p := ⟨b2, off2 + 1, none⟩) hb2').trans cz
        have z4 := HC4.out.size
        have l4 : b2 < w4.heap.size := by omega
        clear hb3 hx3
        go_wp2_with fail
        try rw [hw4]
        clear hw4 x0 xz xl
        refine (retIP (l1Read_c z _ (by omega)) HV2.out).mono ?_
        rintro e w5 ⟨rfl, hb5⟩
        have hx5 := HX4.out.carry hb5
        have x1 := hx5.cell (j := 1) rfl
        have xz := hx5.frozen
        have xl := hx5.lt
        have HC5 := Lib.hid (HC4.out.trans (hb5.mono z4))
        obtain ⟨w6, hw6⟩ : ∃ v, w5.setCell ⟨w2.heap.size, 1, none⟩ (.int .i64 v2) = v := ⟨_, rfl⟩
        have HX6 := Lib.hid (show Box w6 w2.heap.size 33 3 [.int .i64 v1, .int .i64 v2, .bool true] from hw6 ▸ hx5.set 1 (.int .i64 v2))
        have HC6 := Lib.hid (show Below w2.heap.size w2 w6 from hw6 ▸ HC5.out.setCell (p := ⟨w2.heap.size, 1, none⟩) (Nat.le_refl _) _)
        have HO6 := Lib.hid (ownsRow_below HO2.out HC6.out)
        have z6 := HC6.out.size
        have y0 := HX6.out.cell (j := 0) rfl
        have y1 := HX6.out.cell (j := 1) rfl
        have y2 := HX6.out.cell (j := 2) rfl
        have yl := HX6.out.lt
        have HB6 := Lib.hid (HB2.out.trans (HC6.out.mono z2))
        have z16 := HB6.out.size
        clear hb5 hx5 cz4 l4
        go_wp2_with (at_builtin; (try rw [hw6]); refine wpList_push2 _ rfl _ _ 24 rfl w1.heap.size 33 (.agg #[.int .i64 0, .int .i64 0, .bool false]) 3 24 Tryd.underlying24 info_sup rfl (by decide) (by decide) _ _ _ rfl (HO6.out.alloc _) w6.heap.size [.int .i64 v1, .int .i64 v2, .bool true] rfl rfl ?c1 ?c2 ?c3 ?c4 ?_)
        try case c1 =>
          intro j u hj
          match j, hj with
          | 0, hj => simp at hj; subst hj; simp [go_sem]
          | 1, hj => simp at hj; subst hj; simp [go_sem]
          | 2, hj => simp at hj; subst hj; simp [go_sem]
        case c2 => intro u hu; simp at hu; rcases hu with rfl | rfl | rfl <;> rfl
        case c3 => omega
        case c4 => first | omega | (simp; omega)
        intro v' w' hown' hb' _
        have HN := Lib.hid (show ∀ t, t < k + 1 → rdS (nth ps t).data.toList = some (nth (q ++ [(⟨v1, v2, true⟩ : Sup)]) t) from fun t ht => by
          have hqk := HQ.out
          by_cases e : t < q.length
          · rw [nthS_l e]; exact HA.out t (by omega)
          · obtain rfl : t = q.length := by omega
            rw [nthS_r, hqk]; exact HRD.out)
        have HO' := Lib.hid (show w'.ownsRow w1.heap.size 33 3 v' (q ++ [(⟨v1, v2, true⟩ : Sup)]).length (((q ++ [(⟨v1, v2, true⟩ : Sup)]).map Sup.cells).flatten) by simpa [Sup.cells] using hown')
        have HB' := Lib.hid (HB6.out.trans ((((Below.refl _ _).alloc (Nat.le_refl _) _).mono z16).trans hb'))
        clear hown' hb' hw6 x1 xz xl y0 y1 y2 yl
        go_wp2_with fail
        go_roundw
        case rel => exact ⟨k + 1, q ++ [(⟨v1, v2, true⟩ : Sup)], by omega, by have := HQ.out; simp; omega, by go_num, HN.out, HO'.out, HB'.out⟩
        case measure => simp [intOf]; omega
      · have hqc : ((y[0].toNat : Int) == 83) = false := by rw [beq_eq_false_iff_ne]; intro e; exact hc (UInt8.toNat_inj.1 (show y[0].toNat = (83 : UInt8).toNat from by have h : (83 : UInt8).toNat = 83 := rfl; omega))
        have HD := Lib.hid (show decide (y[0] = 83) = false from decide_eq_false hc)
        clear hc
        have HRD := Lib.hid (show rdS (nth ps k).data.toList = some ⟨v1, v2, false⟩ by
          rw [HPP.out, rdS_yes HSP.out (by simp; omega), ← HU.out, HV1.out, HV2.out, HY0.out, HD.out])
        obtain ⟨wb, hwb⟩ : ∃ v, w2.alloc (.cells #[.int .i64 0, .int .i64 0, .bool false] 33) = v := ⟨_, rfl⟩
        have HX := Lib.hid (hwb ▸ Box.new w2 [.int .i64 0, .int .i64 0, .bool false] 33 : Box wb w2.heap.size 33 3 [.int .i64 0, .int .i64 0, .bool false])
        have hbw : Below w2.heap.size w2 wb := hwb ▸ (Below.refl _ _).alloc (Nat.le_refl _) _
        have HBb := Lib.hid hbw
        have HWB := Lib.hid hwb
        have zb := hbw.size
        clear hwb hbw
        go_wp2_with fail
        rw [HWB.out]
        clear hu hqc
        refine (retIP (l1Read_c u _ (by omega)) HV1.out).mono ?_
        rintro e w3 ⟨rfl, hb3⟩
        have hx3 := HX.out.carry hb3
        have HX3 := Lib.hid hx3
        have x0 := hx3.cell (j := 0) rfl
        have xz := hx3.frozen
        have xl := hx3.lt
        have HC3 := Lib.hid (HBb.out.trans (hb3.mono zb))
        obtain ⟨w4, hw4⟩ : ∃ v, w3.setCell ⟨w2.heap.size, 0, none⟩ (.int .i64 v1) = v := ⟨_, rfl⟩
        have HX4 := Lib.hid (show Box w4 w2.heap.size 33 3 [.int .i64 v1, .int .i64 0, .bool false] from hw4 ▸ hx3.set 0 (.int .i64 v1))
        have HC4 := Lib.hid (show Below w2.heap.size w2 w4 from hw4 ▸ HC3.out.setCell (p := ⟨w2.heap.size, 0, none⟩) (Nat.le_refl _) _)
        have cz4 := (HC4.out.cell (p := ⟨b2, off2 + 1, none⟩) hb2').trans cz
        have z4 := HC4.out.size
        have l4 : b2 < w4.heap.size := by omega
        clear hb3 hx3
        go_wp2_with fail
        try rw [hw4]
        clear hw4 x0 xz xl
        refine (retIP (l1Read_c z _ (by omega)) HV2.out).mono ?_
        rintro e w5 ⟨rfl, hb5⟩
        have hx5 := HX4.out.carry hb5
        have x1 := hx5.cell (j := 1) rfl
        have xz := hx5.frozen
        have xl := hx5.lt
        have HC5 := Lib.hid (HC4.out.trans (hb5.mono z4))
        obtain ⟨w6, hw6⟩ : ∃ v, w5.setCell ⟨w2.heap.size, 1, none⟩ (.int .i64 v2) = v := ⟨_, rfl⟩
        have HX6 := Lib.hid (show Box w6 w2.heap.size 33 3 [.int .i64 v1, .int .i64 v2, .bool false] from hw6 ▸ hx5.set 1 (.int .i64 v2))
        have HC6 := Lib.hid (show Below w2.heap.size w2 w6 from hw6 ▸ HC5.out.setCell (p := ⟨w2.heap.size, 1, none⟩) (Nat.le_refl _) _)
        have HO6 := Lib.hid (ownsRow_below HO2.out HC6.out)
        have z6 := HC6.out.size
        have y0 := HX6.out.cell (j := 0) rfl
        have y1 := HX6.out.cell (j := 1) rfl
        have y2 := HX6.out.cell (j := 2) rfl
        have yl := HX6.out.lt
        have HB6 := Lib.hid (HB2.out.trans (HC6.out.mono z2))
        have z16 := HB6.out.size
        clear hb5 hx5 cz4 l4
        go_wp2_with (at_builtin; (try rw [hw6]); refine wpList_push2 _ rfl _ _ 24 rfl w1.heap.size 33 (.agg #[.int .i64 0, .int .i64 0, .bool false]) 3 24 Tryd.underlying24 info_sup rfl (by decide) (by decide) _ _ _ rfl (HO6.out.alloc _) w6.heap.size [.int .i64 v1, .int .i64 v2, .bool false] rfl rfl ?c1 ?c2 ?c3 ?c4 ?_)
        try case c1 =>
          intro j u hj
          match j, hj with
          | 0, hj => simp at hj; subst hj; simp [go_sem]
          | 1, hj => simp at hj; subst hj; simp [go_sem]
          | 2, hj => simp at hj; subst hj; simp [go_sem]
        case c2 => intro u hu; simp at hu; rcases hu with rfl | rfl | rfl <;> rfl
        case c3 => omega
        case c4 => first | omega | (simp; omega)
        intro v' w' hown' hb' _
        have HN := Lib.hid (show ∀ t, t < k + 1 → rdS (nth ps t).data.toList = some (nth (q ++ [(⟨v1, v2, false⟩ : Sup)]) t) from fun t ht => by
          have hqk := HQ.out
          by_cases e : t < q.length
          · rw [nthS_l e]; exact HA.out t (by omega)
          · obtain rfl : t = q.length := by omega
            rw [nthS_r, hqk]; exact HRD.out)
        have HO' := Lib.hid (show w'.ownsRow w1.heap.size 33 3 v' (q ++ [(⟨v1, v2, false⟩ : Sup)]).length (((q ++ [(⟨v1, v2, false⟩ : Sup)]).map Sup.cells).flatten) by simpa [Sup.cells] using hown')
        have HB' := Lib.hid (HB6.out.trans ((((Below.refl _ _).alloc (Nat.le_refl _) _).mono z16).trans hb'))
        clear hown' hb' hw6 x1 xz xl y0 y1 y2 yl
        go_wp2_with fail
        go_roundw
        case rel => exact ⟨k + 1, q ++ [(⟨v1, v2, false⟩ : Sup)], by omega, by have := HQ.out; simp; omega, by go_num, HN.out, HO'.out, HB'.out⟩
        case measure => simp [intOf]; omega
    · obtain rfl : k = ps.length := by omega
      have hrd : Rd wr wr.heap.size 3 Sup.cells A' q := (Own.of_row' HO.out rfl rfl (fun _ => rfl)).rd fun _ => rfl
      have HR := Lib.hid hrd
      have HW := Lib.hid ((Own.of_row' (l := q) HO.out rfl rfl (fun _ => rfl)).less HB1.out.size)
      have HNO := Lib.hid (fun hno => HF.out.no (q := q) (by rw [← HPS.out, HQ.out]; simp) (fun t ht => by rw [nthS_parts HPS.out (by have := HQ.out; omega)]; exact HA.out t (by have := HQ.out; omega)) hno)
      have HE := Lib.hid (HB1.out.trans (hbel.mono HB1.out.size))
      clear hbel hrd
      go_wp2_with fail
      refine (l2Line_c q A' c' _ (by omega) HR.out).mono ?_
      rintro e w2 ⟨rfl, hb2⟩
      have HE2 := Lib.hid (HE.out.trans (hb2.mono HE.out.size))
      have HR2 := Lib.hid (HR.out.carry hb2)
      have HW2 := Lib.hid (HW.out.carry hb2)
      clear hb2
      rcases hg : goodU q with _ | _
      · have H := Lib.hid (HNO.out (fun e => by rw [hg] at e; cases e.1))
        clear hg
        go_wp2_with fail
        go_ret2
        exact parseQ_none (w := w) H.out (HE2.out.alloc HE2.out.size _)
      · have HG := Lib.hid hg
        go_wp2_with fail
        refine (specLineText_c q A' c' _ HG.out HR2.out).mono ?_
        rintro e w3 ⟨rfl, hb3⟩
        have HE3 := Lib.hid (HE2.out.trans (hb3.mono HE2.out.size))
        have HW3 := Lib.hid (HW2.out.carry hb3)
        obtain ⟨t, ht⟩ : ∃ t, S (lineL q) = t := ⟨_, rfl⟩
        have HTX := Lib.hid ht
        rw [ht]
        clear hb3 ht hg
        by_cases hq : t = s
        · have H := Lib.hid (Fits.yes (s := s.data.toList) HG.out (by rw [← hq, ← HTX.out, S_data]))
          have hq' : (t.toList == s.toList) = true := by rw [hq]; simp
          clear hq
          go_wp2_with fail
          go_ret2
          exact ⟨(q, true), H.out, A', c', rfl, HW3.out, HE3.out⟩
        · have H := Lib.hid (HNO.out (fun e => hq (by rw [← HTX.out, e.2]; exact (S_of s).symm)))
          have hq' : (t.toList == s.toList) = false := by rw [beq_eq_false_iff_ne]; intro e; exact hq (toList_inj e)
          clear hq
          go_wp2_with fail
          go_ret2
          exact parseQ_none (w := w) H.out (HE3.out.alloc HE3.out.size _)
end Go.Proofs.YtpchcblialkpcaaDoor
