/- FnQueues returns true for all codes: every group gets into exactly one cabin, and nobody can use fewer than the least cabins; no conditions. -/
import Derived.Test.YtalabohacedgnaaGroupsLaw
import Derived.Test.YtalabohacedgnaaFullWays
import Derived.Test.YtalabohacedgnaaCabinOf
import Derived.Test.YtalabohacedgnaaAfterCab
import Derived.Deep.RegionWith
import Derived.Deep.RegionLaw
namespace Go.Proofs.Ytalabohacedgnaa
open Go.RowKit Go.Joins Go.ChangeShapes Go.WideShapes Go.ChangeAt

theorem ap_of {f : FuncId} {args : Array Value} {W : World} {p : List Gro × Int × Bool} {L : List Gro} {i : Int} {b : Bool} (h : Calls Try.prog f args W (AfcPost p W)) (hp : p = (L, i, b)) :
    Calls Try.prog f args W fun e w' => ∃ A cap, e = .returned (.tuple #[.slice A L.length cap, .int .i64 i, .bool b]) ∧ Own w' W.heap.size 52 2 Gro.cells A L ∧ Below W.heap.size W w' := by subst hp; exact h
theorem ofF_mk {l : List Gro} {s : Int} {k : Nat} (h : fitG l s = true) (hk : k < l.length) : ofF l s k = (nth (cabs l s).1 k, true) := by
  rw [ofF, if_pos (by simp [h, inR]; omega)]; simp
theorem need_told {l : List Gro} {s v em : Int} {ok b2 : Bool} (h : needF l s = (v, ok)) (h2 : emptyF l s = (em, b2)) : b2 = ok ∧ (ok = true → fitG l s = true ∧ v = (cabs l s).2 ∧ em = (cabs l s).2 * s - peopleTo l l.length) := by
  unfold needF at h
  unfold emptyF at h2
  by_cases h1 : fitG l s = true
  · rw [if_pos h1] at h h2
    simp only [Prod.mk.injEq] at h h2
    exact ⟨h2.2.symm.trans h.2, fun _ => ⟨h1, h.1.symm, h2.1.symm⟩⟩
  · rw [if_neg h1] at h h2
    simp only [Prod.mk.injEq] at h h2
    exact ⟨h2.2.symm.trans h.2, fun e => by rw [e] at h; cases h.2⟩
theorem after_told {l R : List Gro} {s i : Int} {b : Bool} (h : aftF l s = (R, i, b)) : R.length ≤ 12 ∧ (b = true → 0 < l.length → fitG l s = true ∧ needF l s = ((cabs R s).2 + 1, true) ∧ needF R s = ((cabs R s).2, true) ∧ cabF l s = (fillL l s, true) ∧ (fillL l s).length + R.length = l.length ∧ i ≤ s ∧ 0 ≤ (cabs R s).2 ∧ (cabs R s).2 ≤ 13) := by
  unfold aftF at h
  by_cases h1 : fitG l s = true
  · rw [if_pos h1] at h
    simp only [Prod.mk.injEq] at h
    obtain ⟨rfl, rfl, rfl⟩ := h
    obtain ⟨⟨hn, hg⟩, hs, _⟩ := fitG_true h1
    have hf := fill_sum (l := l) (s := s) (by omega) fun i hi => (hg i hi).1
    refine ⟨by omega, fun _ h0 => ?_⟩
    obtain ⟨n1, n2⟩ := need_rest h1 h0
    exact ⟨h1, by rw [needF, if_pos h1, n2], by rw [needF, if_pos n1], by rw [cabF, if_pos h1], hf.2, hf.1, (fit_of n1).bd.1, (fit_of n1).bd.2.1⟩
  · rw [if_neg h1] at h
    simp only [Prod.mk.injEq] at h
    obtain ⟨rfl, _, rfl⟩ := h
    exact ⟨by simp, fun h => by cases h⟩
theorem least_le {l : List Gro} {s v : Int} {b : Bool} (h : leastP l s = (v, b)) (hb : b = true) : v ≤ (cabs l s).2 := by
  subst hb
  obtain ⟨f1, f2⟩ := least_told h
  rw [f2]; exact (least_room f1).2
set_option maxRecDepth 100000 in
set_option maxHeartbeats 16000000 in
theorem lawQueues (code : List Int) (A : Option Addr) (n cap : Nat) (w : World) (hin : InBytes w A n code) :
    Calls Try.prog 13 #[.slice A n cap] w fun e w' => e = .returned (.bool true) ∧ Below w.heap.size w w' := by
  have kc0 : Codes w A n := ⟨code, hin⟩
  clear hin
  by_cases hn : 65536 < (n : Int)
  · go_enter Try.func13, Try.ntmps13
    go_wp2_with fail
    refine (vBig_c _ _ _ _).mono ?_
    rintro e w' ⟨rfl, rfl⟩
    go_wp2_with fail
    go_ret
    exact ⟨rfl, Below.refl _ _⟩
  go_enter Try.func13, Try.ntmps13
  go_wp2_with fail
  refine (vBig_c _ _ _ _).mono ?_
  rintro e w' ⟨rfl, rfl⟩
  go_wp2_with fail
  refine (drawCabinsNeeded_c _ _ _ _ kc0).mono ?_
  rintro e w1 ⟨A1, c1, l, s, rfl, hl, o1, hb1⟩
  have hz1 := hb1.size
  try simp only [World.size_alloc] at c1
  try simp only [World.size_alloc] at l
  try simp only [World.size_alloc] at s
  try simp only [World.size_alloc] at hl
  try simp only [World.size_alloc] at o1
  have hB1 : Below w.heap.size w w1 := (by repeat (first | (with_reducible exact Below.refl _ _) | ((with_reducible refine alloc_ ?_ ?_); (focus (first | exact Nat.le_refl _ | (simp; done) | (simp; omega) | omega))) | ((with_reducible refine set_ ?_ ?_); (focus (first | exact Nat.le_refl _ | (simp; done) | (simp; omega) | omega))) | (with_reducible refine Below.drew ?_) | ((with_reducible refine after_ ?_ (by assumption) ?_); (rotate_left; (focus (first | exact Nat.le_refl _ | (simp; done) | (simp; omega) | omega))))))
  have hs1 := hB1.size
  have kc1 := kc0.carry hB1
  have hl1 : l.length ≤ 1048576 := by omega
  obtain ⟨⟨v, ok⟩, hv⟩ : ∃ p, needF l s = p := ⟨_, rfl⟩
  obtain ⟨⟨em, b2⟩, hu⟩ : ∃ p, emptyF l s = p := ⟨_, rfl⟩
  obtain ⟨hb, hf⟩ := need_told hv hu
  obtain rfl : b2 = ok := hb
  have HV := Lib.hid hv
  have HU := Lib.hid hu
  have HF := Lib.hid hf
  clear hv hu hf hl
  go_wp2_with fail
  refine (nb_of (implCabinsNeeded_c l _ _ s _ hl1 (o1.rd fun _ => rfl)) HV.out).mono ?_
  rintro e w2 ⟨rfl, hb2⟩
  have hz2 := hb2.size
  have hB2 : Below w1.heap.size w1 w2 := (by repeat (first | (with_reducible exact Below.refl _ _) | ((with_reducible refine alloc_ ?_ ?_); (focus (first | exact Nat.le_refl _ | (simp; done) | (simp; omega) | omega))) | ((with_reducible refine set_ ?_ ?_); (focus (first | exact Nat.le_refl _ | (simp; done) | (simp; omega) | omega))) | (with_reducible refine Below.drew ?_) | ((with_reducible refine after_ ?_ (by assumption) ?_); (rotate_left; (focus (first | exact Nat.le_refl _ | (simp; done) | (simp; omega) | omega))))))
  have hs2 := hB2.size
  have kc2 := kc1.carry hB2
  have o2 := o1.carry hB2
  go_wp2_with fail
  refine (nb_of (specCabinsNeeded_c l _ _ s _ hl1 (o2.rd fun _ => rfl)) HV.out).mono ?_
  rintro e w3 ⟨rfl, hb3⟩
  have hz3 := hb3.size
  have hB3 : Below w2.heap.size w2 w3 := (by repeat (first | (with_reducible exact Below.refl _ _) | ((with_reducible refine alloc_ ?_ ?_); (focus (first | exact Nat.le_refl _ | (simp; done) | (simp; omega) | omega))) | ((with_reducible refine set_ ?_ ?_); (focus (first | exact Nat.le_refl _ | (simp; done) | (simp; omega) | omega))) | (with_reducible refine Below.drew ?_) | ((with_reducible refine after_ ?_ (by assumption) ?_); (rotate_left; (focus (first | exact Nat.le_refl _ | (simp; done) | (simp; omega) | omega))))))
  have hs3 := hB3.size
  have kc3 := kc2.carry hB3
  have o3 := o2.carry hB3
  go_wp2_with fail
  refine (nb_of (implEmptySeats_c l _ _ s _ hl1 (o3.rd fun _ => rfl)) HU.out).mono ?_
  rintro e w4 ⟨rfl, hb4⟩
  have hz4 := hb4.size
  have hB4 : Below w3.heap.size w3 w4 := (by repeat (first | (with_reducible exact Below.refl _ _) | ((with_reducible refine alloc_ ?_ ?_); (focus (first | exact Nat.le_refl _ | (simp; done) | (simp; omega) | omega))) | ((with_reducible refine set_ ?_ ?_); (focus (first | exact Nat.le_refl _ | (simp; done) | (simp; omega) | omega))) | (with_reducible refine Below.drew ?_) | ((with_reducible refine after_ ?_ (by assumption) ?_); (rotate_left; (focus (first | exact Nat.le_refl _ | (simp; done) | (simp; omega) | omega))))))
  have hs4 := hB4.size
  have kc4 := kc3.carry hB4
  have o4 := o3.carry hB4
  go_wp2_with fail
  refine (nb_of (specEmptySeats_c l _ _ s _ hl1 (o4.rd fun _ => rfl)) HU.out).mono ?_
  rintro e w5 ⟨rfl, hb5⟩
  have hz5 := hb5.size
  have hB5 : Below w4.heap.size w4 w5 := (by repeat (first | (with_reducible exact Below.refl _ _) | ((with_reducible refine alloc_ ?_ ?_); (focus (first | exact Nat.le_refl _ | (simp; done) | (simp; omega) | omega))) | ((with_reducible refine set_ ?_ ?_); (focus (first | exact Nat.le_refl _ | (simp; done) | (simp; omega) | omega))) | (with_reducible refine Below.drew ?_) | ((with_reducible refine after_ ?_ (by assumption) ?_); (rotate_left; (focus (first | exact Nat.le_refl _ | (simp; done) | (simp; omega) | omega))))))
  have hs5 := hB5.size
  have kc5 := kc4.carry hB5
  have o5 := o4.carry hB5
  have HBA := Lib.hid (show Below w.heap.size w w5 from (by repeat (first | (with_reducible exact Below.refl _ _) | ((with_reducible refine alloc_ ?_ ?_); (focus (first | exact Nat.le_refl _ | (simp; done) | (simp; omega) | omega))) | ((with_reducible refine set_ ?_ ?_); (focus (first | exact Nat.le_refl _ | (simp; done) | (simp; omega) | omega))) | (with_reducible refine Below.drew ?_) | ((with_reducible refine after_ ?_ (by assumption) ?_); (rotate_left; (focus (first | exact Nat.le_refl _ | (simp; done) | (simp; omega) | omega)))))))
  clear hb1 hb2 hb3 hb4 hb5 hB1 hB2 hB3 hB4 hB5 o1 o2 o3 o4 kc1 kc2 kc3 kc4
  go_upto_if 96 with fail
  go_cut [2] (fun s wx => s = .bool false ∧ Codes wx A n ∧ Below w.heap.size w wx)
  case first => as_aux_lemma =>
    rcases b2 with _ | _
    · go_wp2_with fail
      go_meet
      exact ⟨rfl, kc5, HBA.out⟩
    · obtain ⟨hfit, hv, hem⟩ := HF.out rfl
      obtain ⟨⟨hn12, hg⟩, ⟨s1, s2⟩, hfs⟩ := fitG_true hfit
      obtain ⟨f1, f2⟩ := cabs_full (l := l) (s := s) (by omega) fun i hi => ⟨(hg i hi).1, hfs i hi⟩
      have hbd := (fit_of hfit).bd
      have HP := Lib.hid (people_yes (fit_good hfit))
      have hpb := peopleTo_bd hg l.length (Nat.le_refl _)
      obtain ⟨⟨lv, two⟩, hlv⟩ : ∃ p, leastP l s = p := ⟨_, rfl⟩
      have hle := least_le hlv
      have HLV := Lib.hid hlv
      have hof := fun k (hk : k < l.length) => ofF_mk hfit hk
      obtain ⟨out, hout⟩ : ∃ o, (cabs l s).1 = o := ⟨_, rfl⟩
      obtain ⟨c, hc⟩ : ∃ c : Nat, (cabs l s).2 = c := ⟨(cabs l s).2.toNat, by omega⟩
      rw [hout] at f1 f2 hof
      rw [hc] at f1 f2 hv hem hle hbd
      subst hv
      have HF1 := Lib.hid f1
      have HF2 := Lib.hid f2
      have HOF := Lib.hid hof
      have HLE := Lib.hid (show two = true → lv ≤ c from hle)
      have HSUM := Lib.hid (full_sum (l := l) (out := out) (c := c) f1 l.length (Nat.le_refl _))
      have HFB := Lib.hid (fun k i (hi : i ≤ l.length) => full_bd (l := l) (out := out) hg k hi)
      have HG8 := Lib.hid hg
      have hc13 : c ≤ 13 := by omega
      have m0 : 0 ≤ (c : Int) * s := Int.mul_nonneg (by omega) (by omega)
      have m1 : (c : Int) * s ≤ 13 * 10 := Int.mul_le_mul (by omega) s2 (by omega) (by omega)
      obtain ⟨cs, hcs⟩ : ∃ cs, (c : Int) * s = cs := ⟨_, rfl⟩
      obtain ⟨pa, hpa⟩ : ∃ pa, peopleTo l l.length = pa := ⟨_, rfl⟩
      obtain ⟨pq, hpq⟩ : ∃ pq, quickTo l l.length = pq := ⟨_, rfl⟩
      rw [hcs] at m0 m1 hem
      rw [hpa] at hem hpb
      rw [hpa, hpq] at HP
      rw [hpa] at HSUM
      obtain ⟨p1, p2⟩ := hpb
      subst hem
      have HCS := Lib.hid hcs
      clear hfit hg hfs hbd hlv hle hof hout hc f1 f2 hpa hpq hcs HF
      have hmk := run_make_row' (P := Try.prog) 37 3 (.int .i64 0) 8 Try.underlying37 info_int rfl .i64 .i64 c (by omega) (by omega)
      go_wp2_with fail
      refine (pp_of (implPeopleIn_c l _ _ _ hl1 (o5.rd fun _ => rfl)) HP.out).mono ?_
      rintro e w6 ⟨rfl, hb6⟩
      have O6 := Lib.hid (o5.carry hb6)
      have K6 := Lib.hid (kc5.carry hb6)
      have HB6 := Lib.hid (HBA.out.trans (hb6.mono HBA.out.size))
      have HA0 := Lib.hid (show Arr (w6.alloc (.cells (madeCells #[.int .i64 0] c) 3)) w6.heap.size (fullL l out c 0) by rw [fullL_zero]; exact Arr.made w6 c w6.heap.size rfl)
      clear hb6 o5 kc5 HBA
      go_wp2_with fail
      clear hmk
      go_loopw [2, 17] (fun s i wr => ∃ k : Nat, k ≤ l.length ∧ s = .bool false ∧ i = .int .i64 k ∧ Arr wr w6.heap.size (fullL l out c k) ∧ Below w6.heap.size w6 wr) (fun _ i _ => l.length - (intOf i).toNat)
      case atStart => exact ⟨0, Nat.zero_le _, rfl, rfl, HA0.out, (by repeat (first | (with_reducible exact Below.refl _ _) | ((with_reducible refine alloc_ ?_ ?_); (focus (first | exact Nat.le_refl _ | (simp; done) | (simp; omega) | omega))) | ((with_reducible refine set_ ?_ ?_); (focus (first | exact Nat.le_refl _ | (simp; done) | (simp; omega) | omega))) | (with_reducible refine Below.drew ?_) | ((with_reducible refine after_ ?_ (by assumption) ?_); (rotate_left; (focus (first | exact Nat.le_refl _ | (simp; done) | (simp; omega) | omega))))))⟩
      case round =>
        obtain ⟨k, hk, rfl, rfl, harr, hbel⟩ := hrel
        have HA := Lib.hid harr
        have HB := Lib.hid hbel
        have z1 := hbel.size
        by_cases hlt : k < l.length
        · obtain ⟨x0, x1⟩ := HF1.out k hlt
          obtain ⟨q, hq⟩ : ∃ q : Nat, nth out k = q := ⟨(nth out k).toNat, by omega⟩
          have hqc : q < c := by omega
          have hstep := full_step (l := l) (out := out) hlt hq hqc
          have HOK := Lib.hid (show ofF l s k = ((q : Int), true) by rw [HOF.out k hlt, hq])
          have HST := Lib.hid hstep
          obtain ⟨y0, y1⟩ := HFB.out q k hk
          obtain ⟨g0, g8⟩ := HG8.out k hlt
          have hfq : nth (fullL l out c k) q = fullTo l out q k := fullL_nth hqc
          obtain ⟨F, hF⟩ : ∃ F, fullL l out c k = F := ⟨_, rfl⟩
          have hFl : F.length = c := by rw [← hF]; exact fullL_len
          rw [hF] at HST HA hfq
          obtain ⟨fv, hfv⟩ : ∃ fv, nth F q = fv := ⟨_, rfl⟩
          rw [← hfq, hfv] at y0 y1
          rw [hfv] at HST
          have HFV := Lib.hid hfv
          have HFL := Lib.hid hFl
          have or := O6.out.carry hbel
          clear harr hbel x0 x1 hq hstep hfq hF hFl hfv
          go_wp2_with fail
          refine (nb_of (implCabinOf_c l _ _ s k _ hl1 (or.rd fun _ => rfl)) HOK.out).mono ?_
          rintro e w7 ⟨rfl, hb7⟩
          have ha7 := HA.out.carry hb7
          have hcq := ha7.cell (i := q) (by rw [HFL.out]; exact hqc)
          rw [HFV.out] at hcq
          have hfz := ha7.frozen q
          have hgl := ha7.lt
          obtain ⟨b, off, rfl, hbl, t0, t1⟩ := Gro.rd ((or.carry hb7).rd fun _ => rfl) hlt
          have hbne : b ≠ w6.heap.size := by
            obtain ⟨b', N, f', e', _, _, hf', _⟩ := O6.out (by omega)
            simp only [Option.some.injEq, Addr.mk.injEq, and_true] at e'
            have := hf'.lt
            omega
          have HA7 := Lib.hid ha7
          have HB7 := Lib.hid (HB.out.trans (hb7.mono z1))
          obtain ⟨sz, hsz⟩ : ∃ x, (nth l k).s = x := ⟨_, rfl⟩
          rw [hsz] at t0 g0 g8 HST
          have iq : (q : Int) < c := by omega
          have iq0 : (0 : Int) ≤ (q : Int) := by omega
          have ik : (k : Int) < l.length := by omega
          have ik0 : (0 : Int) ≤ (k : Int) := by omega
          have a1 : IntKind.i64.wrap (fv + sz) = fv + sz := IntWalk.i64_in _ (by omega)
          have z7 := hb7.size
          clear hb7 ha7 t1 hsz or hcq hfz
          go_wp2_with fail
          refine wp_region_tail 13 (by kernel_rfl) (by kernel_rfl) fun wd hbd hcd => ?_
          have HAd := Lib.hid (HA7.out.carry hbd)
          have HBd := Lib.hid (HB7.out.trans (hbd.mono (Nat.le_trans z1 z7)))
          have hcq := HAd.out.cell (i := q) (by rw [HFL.out]; exact hqc)
          rw [HFV.out] at hcq
          have hfz := HAd.out.frozen q
          have t0' := (hcd b _).trans t0
          clear hbd hcd t0
          simp only [List.take_succ_cons, List.take_zero, List.drop_succ_cons, List.drop_zero]
          repeat still_step
          refine wpStill_nil ?_
          go_wp2_with fail
          go_roundw
          case rel => exact ⟨k + 1, by omega, rfl, by go_num, by rw [HST.out]; exact HAd.out.set q _, HBd.out.setCell (p := ⟨w6.heap.size, q, none⟩) (Nat.le_refl _) _⟩
          case measure => simp [intOf]; omega
        · obtain rfl : k = l.length := by omega
          have hgl := harr.lt
          clear hbel harr
          go_wp2_with fail
          go_loop [2, 20] (fun s i => ∃ k : Nat, k ≤ c ∧ s = .bool false ∧ i = .int .i64 k) (fun _ i => c - (intOf i).toNat)
          case atStart => exact ⟨0, Nat.zero_le _, rfl, rfl⟩
          case round =>
            obtain ⟨k, hk, rfl, rfl⟩ := hrel
            by_cases hlt : k < c
            · obtain ⟨y0, y1⟩ := HF2.out k (by omega) (by omega)
              have hcq := HA.out.cell (i := k) (by rw [fullL_len]; exact hlt)
              rw [fullL_nth hlt] at hcq
              obtain ⟨fv, hfv⟩ : ∃ fv, fullTo l out k l.length = fv := ⟨_, rfl⟩
              rw [hfv] at hcq y0 y1
              have iq : (k : Int) < c := by omega
              have iq0 : (0 : Int) ≤ (k : Int) := by omega
              clear hfv
              go_wp2_with fail
              go_round
              case rel => exact ⟨k + 1, by omega, rfl, by go_num⟩
              case measure => simp [intOf]; omega
            · obtain rfl : k = c := by omega
              have hvs := vSum_c (fullL l out k l.length) (some ⟨w6.heap.size, 0, none⟩) k wr (by rw [fullL_len]; omega) (fun j hj => by
                rw [fullL_len] at hj
                rw [fullL_nth hj]
                have := HFB.out j l.length (Nat.le_refl _); omega) HA.out.rd
              rw [fullL_len, sumN_congr (g := fun j : Nat => fullTo l out j l.length) k fun j hj => fullL_nth hj, HSUM.out] at hvs
              have HVS := Lib.hid hvs
              have HB9 := Lib.hid (HB6.out.trans (HB.out.mono HB6.out.size))
              have or := O6.out.carry HB.out
              have kr := K6.out.carry HB.out
              have a1 : IntKind.i64.wrap cs = cs := IntWalk.i64_in _ (by omega)
              have a2 : IntKind.i64.wrap (cs - pa) = cs - pa := IntWalk.i64_in _ (by omega)
              have hcs := HCS.out
              clear hvs
              go_wp2_with fail
              refine HVS.out.mono ?_
              rintro e w' ⟨rfl, rfl⟩
              go_wp2_with fail
              refine (nb_of (implLeastCabins_c l _ _ s _ hl1 (or.rd fun _ => rfl)) HLV.out).mono ?_
              rintro e w8 ⟨rfl, hb8⟩
              have kr8 := kr.carry hb8
              have HB8 := Lib.hid (HB9.out.trans (hb8.mono HB9.out.size))
              clear hb8 or kr
              rcases two with _ | _
              · go_wp2_with fail
                go_meet
                exact ⟨rfl, kr8, HB8.out⟩
              · have hle := HLE.out rfl
                go_wp2_with fail
                go_meet
                exact ⟨rfl, kr8, HB8.out⟩
  case rest => as_aux_lemma =>
    obtain ⟨rfl, kd0, hbc⟩ := hcut
    have HBC := Lib.hid hbc
    clear hbc HBA HV HU HF kc0 kc5 o5
    obtain ⟨w0, hw0⟩ : ∃ w0, w0 = wc := ⟨_, rfl⟩
    subst hw0
    go_wp2_with fail
    refine (drawAfterCabin_c _ _ _ _ kd0).mono ?_
    rintro e w1 ⟨A1, c1, l, s, rfl, hl, o1, hb1⟩
    have hz1 := hb1.size
    try simp only [World.size_alloc] at c1
    try simp only [World.size_alloc] at l
    try simp only [World.size_alloc] at s
    try simp only [World.size_alloc] at hl
    try simp only [World.size_alloc] at o1
    have hB1 : Below w0.heap.size w0 w1 := (by repeat (first | (with_reducible exact Below.refl _ _) | ((with_reducible refine alloc_ ?_ ?_); (focus (first | exact Nat.le_refl _ | (simp; done) | (simp; omega) | omega))) | ((with_reducible refine set_ ?_ ?_); (focus (first | exact Nat.le_refl _ | (simp; done) | (simp; omega) | omega))) | (with_reducible refine Below.drew ?_) | ((with_reducible refine after_ ?_ (by assumption) ?_); (rotate_left; (focus (first | exact Nat.le_refl _ | (simp; done) | (simp; omega) | omega))))))
    have hs1 := hB1.size
    have kd1 := kd0.carry hB1
    have hl1 : l.length ≤ 1048576 := by omega
    obtain ⟨⟨R, i, fine⟩, hv⟩ : ∃ p, aftF l s = p := ⟨_, rfl⟩
    obtain ⟨hR, haf⟩ := after_told hv
    have hR1 : R.length ≤ 1048576 := by omega
    have HV := Lib.hid hv
    have HAF := Lib.hid haf
    clear hv haf
    go_wp2_with fail
    refine (ap_of (implAfterCabin_c l _ _ s _ hl1 (o1.rd fun _ => rfl)) HV.out).mono ?_
    rintro e w2 ⟨B1, e1, rfl, r2, hb2⟩
    have hz2 := hb2.size
    try simp only [World.size_alloc] at e1
    try simp only [World.size_alloc] at r2
    have hB2 : Below w1.heap.size w1 w2 := (by repeat (first | (with_reducible exact Below.refl _ _) | ((with_reducible refine alloc_ ?_ ?_); (focus (first | exact Nat.le_refl _ | (simp; done) | (simp; omega) | omega))) | ((with_reducible refine set_ ?_ ?_); (focus (first | exact Nat.le_refl _ | (simp; done) | (simp; omega) | omega))) | (with_reducible refine Below.drew ?_) | ((with_reducible refine after_ ?_ (by assumption) ?_); (rotate_left; (focus (first | exact Nat.le_refl _ | (simp; done) | (simp; omega) | omega))))))
    have hs2 := hB2.size
    have kd2 := kd1.carry hB2
    have o2 := o1.carry hB2
    go_wp2_with fail
    refine (ap_of (specAfterCabin_c l _ _ s _ hl1 (o2.rd fun _ => rfl)) HV.out).mono ?_
    rintro e w3 ⟨B2, e2, rfl, q3, hb3⟩
    have hz3 := hb3.size
    try simp only [World.size_alloc] at e2
    try simp only [World.size_alloc] at q3
    have hB3 : Below w2.heap.size w2 w3 := (by repeat (first | (with_reducible exact Below.refl _ _) | ((with_reducible refine alloc_ ?_ ?_); (focus (first | exact Nat.le_refl _ | (simp; done) | (simp; omega) | omega))) | ((with_reducible refine set_ ?_ ?_); (focus (first | exact Nat.le_refl _ | (simp; done) | (simp; omega) | omega))) | (with_reducible refine Below.drew ?_) | ((with_reducible refine after_ ?_ (by assumption) ?_); (rotate_left; (focus (first | exact Nat.le_refl _ | (simp; done) | (simp; omega) | omega))))))
    have hs3 := hB3.size
    have kd3 := kd2.carry hB3
    have o3 := o2.carry hB3
    have r3 := r2.carry hB3
    go_wp2_with fail
    refine (vGroups_same R _ _ _ _ _ hR1 (r3.rd fun _ => rfl) (q3.rd fun _ => rfl)).mono ?_
    rintro e w4 ⟨rfl, hb4⟩
    have hz4 := hb4.size
    have hB4 : Below w3.heap.size w3 w4 := (by repeat (first | (with_reducible exact Below.refl _ _) | ((with_reducible refine alloc_ ?_ ?_); (focus (first | exact Nat.le_refl _ | (simp; done) | (simp; omega) | omega))) | ((with_reducible refine set_ ?_ ?_); (focus (first | exact Nat.le_refl _ | (simp; done) | (simp; omega) | omega))) | (with_reducible refine Below.drew ?_) | ((with_reducible refine after_ ?_ (by assumption) ?_); (rotate_left; (focus (first | exact Nat.le_refl _ | (simp; done) | (simp; omega) | omega))))))
    have hs4 := hB4.size
    have kd4 := kd3.carry hB4
    have o4 := o3.carry hB4
    have r4 := r3.carry hB4
    have q4 := q3.carry hB4
    have HB4 := Lib.hid (show Below w0.heap.size w0 w4 from (by repeat (first | (with_reducible exact Below.refl _ _) | ((with_reducible refine alloc_ ?_ ?_); (focus (first | exact Nat.le_refl _ | (simp; done) | (simp; omega) | omega))) | ((with_reducible refine set_ ?_ ?_); (focus (first | exact Nat.le_refl _ | (simp; done) | (simp; omega) | omega))) | (with_reducible refine Below.drew ?_) | ((with_reducible refine after_ ?_ (by assumption) ?_); (rotate_left; (focus (first | exact Nat.le_refl _ | (simp; done) | (simp; omega) | omega)))))))
    clear hb1 hb2 hb3 hb4 hB1 hB2 hB3 hB4 o1 o2 o3 r2 r3 q3 q4 kd1 kd2 kd3
    go_upto_region 37 with fail
    go_cut [227] (fun s wx => s = .bool (fine && decide (0 < l.length)) ∧ w4 = wx)
    case first => as_aux_lemma =>
      rcases fine with _ | _
      · go_wp2_with fail
        go_meet
        exact ⟨rfl, rfl⟩
      · rcases hz : decide (0 < l.length) with _ | _
        · have hz' : ¬ 0 < l.length := of_decide_eq_false hz
          go_wp2_with fail
          go_meet
          exact ⟨by rw [hz]; rfl, rfl⟩
        · have hz' : 0 < l.length := of_decide_eq_true hz
          go_wp2_with fail
          go_meet
          exact ⟨by rw [hz]; rfl, rfl⟩
    obtain ⟨rfl, rfl⟩ := hcut
    go_upto_if 227 with fail
    go_cut [2] (fun s wx => s = .bool false ∧ Codes wx A n ∧ Below w0.heap.size w0 wx)
    case first => as_aux_lemma =>
      rcases hyes : (fine && decide (0 < l.length)) with _ | _
      · go_wp2_with fail
        go_meet
        exact ⟨rfl, kd4, HB4.out⟩
      · simp only [Bool.and_eq_true, decide_eq_true_eq] at hyes
        obtain ⟨rfl, hpos⟩ := hyes
        obtain ⟨_, a1, a2, a3, a4, a5, a6, a7⟩ := HAF.out rfl hpos
        obtain ⟨cR, hcR⟩ : ∃ x, (cabs R s).2 = x := ⟨_, rfl⟩
        obtain ⟨F, hF⟩ : ∃ x, fillL l s = x := ⟨_, rfl⟩
        rw [hcR] at a1 a2 a6 a7
        rw [hF] at a3 a4
        have H1 := Lib.hid a1
        have H2 := Lib.hid a2
        have H3 := Lib.hid a3
        have H4 := Lib.hid a4
        have hF14 : F.length ≤ 14 := by omega
        have hR14 : R.length ≤ 14 := by omega
        clear a1 a2 a3 a4 hcR hF HAF HV
        go_wp2_with fail
        refine (nb_of (implCabinsNeeded_c l _ _ s _ hl1 (o4.rd fun _ => rfl)) H1.out).mono ?_
        rintro e w5 ⟨rfl, hb5⟩
        have o5 := o4.carry hb5
        have r5 := r4.carry hb5
        have kd5 := kd4.carry hb5
        have HB5 := Lib.hid (HB4.out.trans (hb5.mono HB4.out.size))
        clear hb5
        go_wp2_with fail
        refine (nb_of (implCabinsNeeded_c R _ _ s _ hR1 (r5.rd fun _ => rfl)) H2.out).mono ?_
        rintro e w6 ⟨rfl, hb6⟩
        have o6 := o5.carry hb6
        have kd6 := kd5.carry hb6
        have HB6 := Lib.hid (HB5.out.trans (hb6.mono HB5.out.size))
        clear hb6 o5 r5 kd5
        go_wp2_with fail
        refine (lp_of (implFillCabin_c l _ _ s _ hl1 (o6.rd fun _ => rfl)) H3.out).mono ?_
        rintro e w7 ⟨B5, e5, rfl, f7, hb7⟩
        have kd7 := kd6.carry hb7
        have HB7 := Lib.hid (HB6.out.trans (hb7.mono HB6.out.size))
        have x1 : IntKind.i64.wrap (cR + 1) = cR + 1 := IntWalk.i64_in _ (by omega)
        have x2 : IntKind.i64.wrap ((F.length : Int) + (R.length : Int)) = (F.length : Int) + (R.length : Int) := IntWalk.i64_in _ (by omega)
        have x3 : ((F.length : Int) + (R.length : Int) != (l.length : Int)) = false := by have := H4.out; simp; omega
        clear hb7 o6 kd6 f7
        go_wp2_with fail
        go_meet
        exact ⟨rfl, kd7, HB7.out⟩
    case rest => as_aux_lemma =>
      obtain ⟨rfl, ke0, hbd⟩ := hcut
      have HBD := Lib.hid (HBC.out.trans (hbd.mono HBC.out.size))
      clear hbd HBC HV HAF HB4 kd0 kd4 o4 r4
      obtain ⟨w0, hw0⟩ : ∃ w0, w0 = wc := ⟨_, rfl⟩
      subst hw0
      go_wp2_with fail
      refine (drawCabinOf_c _ _ _ _ ke0).mono ?_
      rintro e w1 ⟨A1, c1, l, s, i, rfl, hl, o1, hb1⟩
      have hz1 := hb1.size
      try simp only [World.size_alloc] at c1
      try simp only [World.size_alloc] at l
      try simp only [World.size_alloc] at s
      try simp only [World.size_alloc] at i
      try simp only [World.size_alloc] at hl
      try simp only [World.size_alloc] at o1
      have hB1 : Below w0.heap.size w0 w1 := (by repeat (first | (with_reducible exact Below.refl _ _) | ((with_reducible refine alloc_ ?_ ?_); (focus (first | exact Nat.le_refl _ | (simp; done) | (simp; omega) | omega))) | ((with_reducible refine set_ ?_ ?_); (focus (first | exact Nat.le_refl _ | (simp; done) | (simp; omega) | omega))) | (with_reducible refine Below.drew ?_) | ((with_reducible refine after_ ?_ (by assumption) ?_); (rotate_left; (focus (first | exact Nat.le_refl _ | (simp; done) | (simp; omega) | omega))))))
      have hs1 := hB1.size
      have ke1 := ke0.carry hB1
      have hl1 : l.length ≤ 1048576 := by omega
      obtain ⟨⟨v, b⟩, hv⟩ : ∃ p, ofF l s i = p := ⟨_, rfl⟩
      have HV := Lib.hid hv
      clear hv hl
      go_wp2_with fail
      refine (nb_of (implCabinOf_c l _ _ s i _ hl1 (o1.rd fun _ => rfl)) HV.out).mono ?_
      rintro e w2 ⟨rfl, hb2⟩
      have hz2 := hb2.size
      have hB2 : Below w1.heap.size w1 w2 := (by repeat (first | (with_reducible exact Below.refl _ _) | ((with_reducible refine alloc_ ?_ ?_); (focus (first | exact Nat.le_refl _ | (simp; done) | (simp; omega) | omega))) | ((with_reducible refine set_ ?_ ?_); (focus (first | exact Nat.le_refl _ | (simp; done) | (simp; omega) | omega))) | (with_reducible refine Below.drew ?_) | ((with_reducible refine after_ ?_ (by assumption) ?_); (rotate_left; (focus (first | exact Nat.le_refl _ | (simp; done) | (simp; omega) | omega))))))
      have hs2 := hB2.size
      have ke2 := ke1.carry hB2
      have o2 := o1.carry hB2
      go_wp2_with fail
      refine (nb_of (specCabinOf_c l _ _ s i _ hl1 (o2.rd fun _ => rfl)) HV.out).mono ?_
      rintro e w3 ⟨rfl, hb3⟩
      have hz3 := hb3.size
      have hB3 : Below w2.heap.size w2 w3 := (by repeat (first | (with_reducible exact Below.refl _ _) | ((with_reducible refine alloc_ ?_ ?_); (focus (first | exact Nat.le_refl _ | (simp; done) | (simp; omega) | omega))) | ((with_reducible refine set_ ?_ ?_); (focus (first | exact Nat.le_refl _ | (simp; done) | (simp; omega) | omega))) | (with_reducible refine Below.drew ?_) | ((with_reducible refine after_ ?_ (by assumption) ?_); (rotate_left; (focus (first | exact Nat.le_refl _ | (simp; done) | (simp; omega) | omega))))))
      have hs3 := hB3.size
      have ke3 := ke2.carry hB3
      have o3 := o2.carry hB3
      have HE := Lib.hid (HBD.out.trans (Below.mono (B := w0.heap.size) (show Below w0.heap.size w0 w3 from (by repeat (first | (with_reducible exact Below.refl _ _) | ((with_reducible refine alloc_ ?_ ?_); (focus (first | exact Nat.le_refl _ | (simp; done) | (simp; omega) | omega))) | ((with_reducible refine set_ ?_ ?_); (focus (first | exact Nat.le_refl _ | (simp; done) | (simp; omega) | omega))) | (with_reducible refine Below.drew ?_) | ((with_reducible refine after_ ?_ (by assumption) ?_); (rotate_left; (focus (first | exact Nat.le_refl _ | (simp; done) | (simp; omega) | omega))))))) HBD.out.size))
      rcases b with _ | _
      all_goals
        go_wp2_with fail
        go_ret
        exact ⟨rfl, HE.out⟩
namespace fnQueues
set_option linter.unusedVariables false
theorem own : ownKnob Try.prog.godebug = none := by kernel_rfl
theorem laidOut : laidOutB Try.prog = true := by kernel_rfl
set_option maxRecDepth 100000 in
theorem lifted (os : Os) (started : os.Started) (H : Type) (enc : TypeId × Value → H) :
    ReturnsInHanded {} Try.checked os 13 .any (Rows.fnQueuesSpec.pre6 enc Try.prog Try.f13 Rows.fnQueuesRow.domain false) (Rows.fnQueuesSpec.post enc Try.prog Try.f13 false true false false) := by
  refine returnsInHanded_of_change (C := Try.checked) own started (by kernel_rfl) Try.func13
    (ChangeSpec.witness6 (enc := enc) (C := Try.checked) false ⟨#[], #[.slice none 0 0], []⟩ 8 (by kernel_rfl) (by kernel_rfl) (by kernel_rfl) (by kernel_rfl)) ?_
  intro W base args ds gs before hval0 hW hcnd _
  have hval : ∀ (j : Nat) t v, Try.f13.params[j]? = some t → args[j]? = some v → Value.okWide Try.prog W .any base t v := hval0
  have hW' := hW
  obtain ⟨p, q, hA0, hV, rfl, hfz, hnd⟩ := hW
  have hA : DataW.TrodAll enc Try.prog W 0 (fun _ => true) true Try.f13.params.toList args.toList ds p := hA0
  rw [Try.params13] at hA hval
  obtain ⟨v0, vs0, d0, ds0, p0, q0, hargs, rfl, rfl, h0, r0⟩ := trodAll_cons hA
  obtain ⟨rfl, rfl, rfl⟩ := trodAll_nil r0
  obtain rfl : args = #[v0] := by cases args; simp_all
  obtain ⟨rfl, rfl⟩ := trodVars_none hV
  have k0 := h0
  have lt0 : ∀ x ∈ p0, x.block < W.heap.size := by obtain ⟨m, hm⟩ := k0; exact DataW.trod_lt m _ _ _ hm
  obtain ⟨a0, len0, cap0, rfl⟩ := okWide_slice Try.underlying46 (hval 0 46 v0 rfl rfl)
  obtain ⟨code, w0⟩ := open_byteS Try.underlying46 Try.underlying5 (by kernel_rfl) h0
  clear hA0 hval0
  refine (lawQueues code a0 len0 cap0 W w0).mono fun e W' ⟨he, bel⟩ => ?_
  subst he
  exact ⟨_, rfl, _, _, _, [], _, [], hW', trodAll_mk1 (shut_bool Try.underlying4 _), (trodAll_cons_mk (Below.trod laidOut (by kernel_rfl) (of_decide_eq_true (by kernel_rfl)) k0 bel lt0) trodAll_mk0), rfl, bel.frame _, fun h => by cases h⟩
theorem over : Rows.fnQueuesRow.holds Try.pinned (OpenSpec.ofChange Rows.fnQueuesSpec) :=
  OpenClaim.holds_of_wide 13 Try.f13 rfl rfl rfl rfl rfl rfl rfl ⟨rfl, rfl, rfl, rfl, rfl⟩ rfl rfl rfl rfl rfl (by kernel_rfl) Try.func13 (by kernel_rfl)
    (of_decide_eq_true (by kernel_rfl)) (by unfold Func.isWrapper; first | (rw [if_pos (by decide +kernel)]; kernel_rfl) | (rw [if_neg (by decide +kernel)]; exact ⟨rfl, rfl⟩))
    (fun os started H enc _ => lifted os started H enc)
/-- The given statement. -/
theorem proved : Rows.FnQueuesSaid := over
#print axioms proved
end fnQueues
end Go.Proofs.Ytalabohacedgnaa
