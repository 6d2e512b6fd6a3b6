/- FnCabins returns true for all codes: cabins are recovered from their texts, every cabin is in one state, a cabin that comes back has made a trip more; the listed variables being as the program's text lays them. -/
import Derived.Test.YteoajaichjojdaaDoorCabDr
import Derived.Test.YteoajaichjojdaaDoorCabMov
import Derived.Test.YteoajaichjojdaaDoorCabWays
import Derived.Test.YteoajaichjojdaaDoorCabParI
import Derived.Test.YteoajaichjojdaaDoorCabParS
import Derived.Test.YteoajaichjojdaaDoorPairs
import Derived.Deep.DeepCutAuto
namespace Go.Proofs.YteoajaichjojdaaDoor
open Go.RowKit

section
variable {f : FuncId} {args : Array Value} {W : World}
theorem lp_of {p : List Int × Bool} {L : List Int} {b : Bool} (h : Calls Tryd.prog f args W (ListPost p W)) (hp : p = (L, b)) :
    Calls Tryd.prog f args W fun e w' => ∃ A cap, e = .returned (.tuple #[.slice A L.length cap, .bool b]) ∧ Own w' W.heap.size 3 1 intCells A L ∧ Below W.heap.size W w' := by subst hp; exact h
theorem cp_of {p : List Cbn × Bool} {L : List Cbn} {b : Bool} (h : Calls Tryd.prog f args W (CbnPost p W)) (hp : p = (L, b)) :
    Calls Tryd.prog f args W fun e w' => ∃ A cap, e = .returned (.tuple #[.slice A L.length cap, .bool b]) ∧ Own w' W.heap.size 25 5 Cbn.cells A L ∧ Below W.heap.size W w' := by subst hp; exact h
theorem tp_of {p : ByteArray × Bool} {s : ByteArray} {b : Bool} (h : Calls Tryd.prog f args W (TextP p W)) (hp : p = (s, b)) :
    Calls Tryd.prog f args W fun e w' => e = .returned (.tuple #[.string s, .bool b]) ∧ Below W.heap.size W w' := by subst hp; exact h
theorem rp_of {p : Cbn × Bool} {x : Cbn} {b : Bool} (h : Calls Tryd.prog f args W (CabRes p W)) (hp : p = (x, b)) :
    Calls Tryd.prog f args W fun e w' => e = .returned (.tuple #[.agg #[.int .i64 x.n, .int .i64 x.s, .int .i64 x.e, .int .i64 x.t, .int .i64 x.r], .bool b]) ∧ Below W.heap.size W w' := by subst hp; exact h
end
/-- What lies where the texts lay it. -/
structure Laid (w : World) : Prop where
  tab : Tab w
  err : Err w
  max : MaxL w
  names : NamesAt w
theorem Laid.carry {w w' : World} (h : Laid w) (hb : Below w.heap.size w w') : Laid w' := ⟨h.tab.carry hb, h.err.carry hb, h.max.carry hb, h.names.carry hb⟩
set_option maxRecDepth 100000 in
set_option maxHeartbeats 32000000 in
theorem lawCabins (code : List Int) (A : Option Addr) (n cap : Nat) (w : World) (hin : InBytes w A n code) (hlaid : Laid w) :
    Calls Tryd.prog 3 #[.slice A n cap] w fun e w' => e = .returned (.bool true) ∧ Below w.heap.size w w' := by
  have HK0 := Lib.hid (show Codes w A n from ⟨code, hin⟩)
  have HL0 := Lib.hid hlaid
  have HB0 := Lib.hid (Below.refl w.heap.size w)
  clear hin hlaid
  by_cases hn : 65536 < (n : Int)
  · go_enter Tryd.func3, Tryd.ntmps3
    go_wp2_with fail
    refine (vBig_c _ _ _ _).mono ?_
    rintro e w' ⟨rfl, rfl⟩
    go_wp2_with fail
    go_ret
    exact ⟨rfl, Below.refl _ _⟩
  go_enter Tryd.func3, Tryd.ntmps3
  go_wp2_with fail
  refine (vBig_c _ _ _ _).mono ?_
  rintro e w' ⟨rfl, rfl⟩
  go_wp2_with fail
  refine (drawCabinText_c _ _ _ _ HK0.out).mono ?_
  rintro e w1 ⟨x, rfl, hb1⟩
  have HL1 := Lib.hid (HL0.out.carry hb1)
  have HK1 := Lib.hid (HK0.out.carry hb1)
  have HB1 := Lib.hid (HB0.out.trans (hb1.mono HB0.out.size))
  clear hb1 HK0 HL0 HB0
  obtain ⟨w2, hw2⟩ : ∃ wb, w1.alloc (.cells #[.int .i64 (x).n, .int .i64 (x).s, .int .i64 (x).e, .int .i64 (x).t, .int .i64 (x).r] 25) = wb := ⟨_, rfl⟩
  have HX2 := Lib.hid (hw2 ▸ Box.new w1 (Cbn.cells x) 25 : Box w2 w1.heap.size 25 5 (Cbn.cells x))
  have hb2 : Below w1.heap.size w1 w2 := hw2 ▸ (Below.refl _ _).alloc (Nat.le_refl _) _
  have HL2 := Lib.hid (HL1.out.carry hb2)
  have HK2 := Lib.hid (HK1.out.carry hb2)
  have HB2 := Lib.hid (HB1.out.trans (hb2.mono HB1.out.size))
  clear hb2
  obtain ⟨⟨s, ok⟩, hp⟩ : ∃ p, cabP x = p := ⟨_, rfl⟩
  have hss : s.size ≤ 150 := by have := cabP_size x; rw [hp] at this; exact this
  have hok : okC x = ok := by
    unfold cabP at hp
    rcases h : okC x with _ | _ <;> (rw [h] at hp; simp at hp; first | exact hp.2 | exact hp.2.symm | (rw [← hp.2]; done))
  have HP := Lib.hid hp
  have HO := Lib.hid hok
  clear hp hok
  have x0 := HX2.out.cell (j := 0) rfl
  have x1 := HX2.out.cell (j := 1) rfl
  have x2 := HX2.out.cell (j := 2) rfl
  have x3 := HX2.out.cell (j := 3) rfl
  have x4 := HX2.out.cell (j := 4) rfl
  have xl := HX2.out.lt
  go_wp2_with fail
  try rw [hw2]
  clear hw2 HK1 HL1 HB1 x0 x1 x2 x3 x4 xl
  refine (tp_of (implCabinText_c x _ HL2.out.tab HL2.out.names) HP.out).mono ?_
  rintro e w3 ⟨rfl, hb3⟩
  have HL3 := Lib.hid (HL2.out.carry hb3)
  have HK3 := Lib.hid (HK2.out.carry hb3)
  have HB3 := Lib.hid (HB2.out.trans (hb3.mono HB2.out.size))
  have HX3 := Lib.hid (HX2.out.carry hb3)
  clear hb3 HK2 HL2 HB2 HX2
  have x0 := HX3.out.cell (j := 0) rfl
  have x1 := HX3.out.cell (j := 1) rfl
  have x2 := HX3.out.cell (j := 2) rfl
  have x3 := HX3.out.cell (j := 3) rfl
  have x4 := HX3.out.cell (j := 4) rfl
  have xl := HX3.out.lt
  go_wp2_with fail
  refine (tp_of (specCabinText_c x _) HP.out).mono ?_
  rintro e w4 ⟨rfl, hb4⟩
  have HL4 := Lib.hid (HL3.out.carry hb4)
  have HK4 := Lib.hid (HK3.out.carry hb4)
  have HB4 := Lib.hid (HB3.out.trans (hb4.mono HB3.out.size))
  have HX4 := Lib.hid (HX3.out.carry hb4)
  clear hb4 HK3 HL3 HB3 HX3 x0 x1 x2 x3 x4 xl
  have x0 := HX4.out.cell (j := 0) rfl
  have x1 := HX4.out.cell (j := 1) rfl
  have x2 := HX4.out.cell (j := 2) rfl
  have x3 := HX4.out.cell (j := 3) rfl
  have x4 := HX4.out.cell (j := 4) rfl
  have xl := HX4.out.lt
  go_wp2_with fail
  refine (b_of (IsCabin_c x _) HO.out).mono ?_
  rintro e w5 ⟨rfl, hb5⟩
  have HL5 := Lib.hid (HL4.out.carry hb5)
  have HK5 := Lib.hid (HK4.out.carry hb5)
  have HB5 := Lib.hid (HB4.out.trans (hb5.mono HB4.out.size))
  have HX5 := Lib.hid (HX4.out.carry hb5)
  clear hb5 HK4 HL4 HB4 HX4 x0 x1 x2 x3 x4 xl
  obtain ⟨⟨y, one⟩, hy⟩ : ∃ p, pCabI s.data.toList = p := ⟨_, rfl⟩
  have HY := Lib.hid hy
  clear hy
  go_wp2_with fail
  refine (rp_of (implParseCabin_c s _ (by omega) HL5.out.tab HL5.out.err HL5.out.max HL5.out.names) HY.out).mono ?_
  rintro e w6 ⟨rfl, hb6⟩
  have HL6 := Lib.hid (HL5.out.carry hb6)
  have HK6 := Lib.hid (HK5.out.carry hb6)
  have HB6 := Lib.hid (HB5.out.trans (hb6.mono HB5.out.size))
  have HX6 := Lib.hid (HX5.out.carry hb6)
  clear hb6 HK5 HL5 HB5 HX5
  have HYX := Lib.hid (show ok = true → y = x ∧ one = true from fun e => by
    have h1 := HP.out
    have h2 := HO.out
    rw [e] at h2
    unfold cabP at h1
    rw [h2, if_pos rfl] at h1
    simp only [Prod.mk.injEq] at h1
    have h3 := HY.out
    rw [← h1.1, S_data, pCabI_yes h2] at h3
    simp only [Prod.mk.injEq] at h3
    exact ⟨h3.1.symm, h3.2.symm⟩)
  obtain ⟨w7, hw7⟩ : ∃ wb, w6.alloc (.cells #[.int .i64 (y).n, .int .i64 (y).s, .int .i64 (y).e, .int .i64 (y).t, .int .i64 (y).r] 25) = wb := ⟨_, rfl⟩
  have HY7 := Lib.hid (hw7 ▸ Box.new w6 (Cbn.cells y) 25 : Box w7 w6.heap.size 25 5 (Cbn.cells y))
  have hb7 : Below w6.heap.size w6 w7 := hw7 ▸ (Below.refl _ _).alloc (Nat.le_refl _) _
  have HL7 := Lib.hid (HL6.out.carry hb7)
  have HK7 := Lib.hid (HK6.out.carry hb7)
  have HB7 := Lib.hid (HB6.out.trans (hb7.mono HB6.out.size))
  clear hb7
  have HX7 := Lib.hid (HX6.out.carry (show Below w6.heap.size w6 w7 from hw7 ▸ (Below.refl _ _).alloc (Nat.le_refl _) _))
  clear HX6 HL6 HK6 HB6
  have x0 := HX7.out.cell (j := 0) rfl
  have x1 := HX7.out.cell (j := 1) rfl
  have x2 := HX7.out.cell (j := 2) rfl
  have x3 := HX7.out.cell (j := 3) rfl
  have x4 := HX7.out.cell (j := 4) rfl
  have xl := HX7.out.lt
  have y0 := HY7.out.cell (j := 0) rfl
  have y1 := HY7.out.cell (j := 1) rfl
  have y2 := HY7.out.cell (j := 2) rfl
  have y3 := HY7.out.cell (j := 3) rfl
  have y4 := HY7.out.cell (j := 4) rfl
  have yl := HY7.out.lt
  go_upto_region 9 with fail
  try rw [hw7]
  clear hw7
  go_cut [76] (fun s wx => s = .bool false ∧ Laid wx ∧ Codes wx A n ∧ Below w.heap.size w wx)
  case first => as_aux_lemma =>
    rcases ok with _ | _
    · go_wp2_with fail
      go_meet
      exact ⟨rfl, HL7.out, HK7.out, HB7.out⟩
    · obtain ⟨rfl, rfl⟩ := HYX.out rfl
      go_wp2_with fail
      go_meet
      exact ⟨rfl, HL7.out, HK7.out, HB7.out⟩
  case rest => as_aux_lemma =>
    obtain ⟨rfl, hL, hK, hB⟩ := hcut
    have HL0 := Lib.hid hL
    have HK0 := Lib.hid hK
    have HB0 := Lib.hid hB
    clear hL hK hB HL7 HK7 HB7 HX7 HY7 HYX HY HO HP x0 x1 x2 x3 x4 xl y0 y1 y2 y3 y4 yl hss
    obtain ⟨w0, hw0⟩ : ∃ w0, w0 = wc := ⟨_, rfl⟩
    subst hw0
    go_wp2_with fail
    refine (drawParseCabin_c _ _ _ _ HK0.out).mono ?_
    rintro e w1 ⟨t, rfl, hts, hb1⟩
    have HL1 := Lib.hid (HL0.out.carry hb1)
    have HK1 := Lib.hid (HK0.out.carry hb1)
    have HB1 := Lib.hid (HB0.out.trans (hb1.mono HB0.out.size))
    clear hb1 HK0 HL0 HB0
    obtain ⟨⟨y, fine⟩, hy⟩ : ∃ p, pCabI t.data.toList = p := ⟨_, rfl⟩
    have HY := Lib.hid hy
    have HYS := Lib.hid (show pCabS t.data.toList = (y, fine) from (pCab_same _).symm.trans hy)
    clear hy
    go_wp2_with fail
    refine (rp_of (implParseCabin_c t _ (by omega) HL1.out.tab HL1.out.err HL1.out.max HL1.out.names) HY.out).mono ?_
    rintro e w2 ⟨rfl, hb2⟩
    have HL2 := Lib.hid (HL1.out.carry hb2)
    have HK2 := Lib.hid (HK1.out.carry hb2)
    have HB2 := Lib.hid (HB1.out.trans (hb2.mono HB1.out.size))
    clear hb2 HK1 HL1 HB1
    obtain ⟨w3, hw3⟩ : ∃ wb, w2.alloc (.cells #[.int .i64 (y).n, .int .i64 (y).s, .int .i64 (y).e, .int .i64 (y).t, .int .i64 (y).r] 25) = wb := ⟨_, rfl⟩
    have HX3 := Lib.hid (hw3 ▸ Box.new w2 (Cbn.cells y) 25 : Box w3 w2.heap.size 25 5 (Cbn.cells y))
    have hb3 : Below w2.heap.size w2 w3 := hw3 ▸ (Below.refl _ _).alloc (Nat.le_refl _) _
    have HL3 := Lib.hid (HL2.out.carry hb3)
    have HK3 := Lib.hid (HK2.out.carry hb3)
    have HB3 := Lib.hid (HB2.out.trans (hb3.mono HB2.out.size))
    clear hb3
    clear HK2 HL2 HB2
    have x0 := HX3.out.cell (j := 0) rfl
    have x1 := HX3.out.cell (j := 1) rfl
    have x2 := HX3.out.cell (j := 2) rfl
    have x3 := HX3.out.cell (j := 3) rfl
    have x4 := HX3.out.cell (j := 4) rfl
    have xl := HX3.out.lt
    go_wp2_with fail
    try rw [hw3]
    clear hw3 x0 x1 x2 x3 x4 xl
    refine (rp_of (specParseCabin_c t _ (by omega)) HYS.out).mono ?_
    rintro e w4 ⟨rfl, hb4⟩
    have HL4 := Lib.hid (HL3.out.carry hb4)
    have HK4 := Lib.hid (HK3.out.carry hb4)
    have HB4 := Lib.hid (HB3.out.trans (hb4.mono HB3.out.size))
    have HX4 := Lib.hid (HX3.out.carry hb4)
    clear hb4 HK3 HL3 HB3 HX3
    obtain ⟨w5, hw5⟩ : ∃ wb, w4.alloc (.cells #[.int .i64 (y).n, .int .i64 (y).s, .int .i64 (y).e, .int .i64 (y).t, .int .i64 (y).r] 25) = wb := ⟨_, rfl⟩
    have HY5 := Lib.hid (hw5 ▸ Box.new w4 (Cbn.cells y) 25 : Box w5 w4.heap.size 25 5 (Cbn.cells y))
    have hb5 : Below w4.heap.size w4 w5 := hw5 ▸ (Below.refl _ _).alloc (Nat.le_refl _) _
    have HL5 := Lib.hid (HL4.out.carry hb5)
    have HK5 := Lib.hid (HK4.out.carry hb5)
    have HB5 := Lib.hid (HB4.out.trans (hb5.mono HB4.out.size))
    clear hb5
    have HX5 := Lib.hid (HX4.out.carry (show Below w4.heap.size w4 w5 from hw5 ▸ (Below.refl _ _).alloc (Nat.le_refl _) _))
    clear HX4 HL4 HK4 HB4 HYS hts
    have x0 := HX5.out.cell (j := 0) rfl
    have x1 := HX5.out.cell (j := 1) rfl
    have x2 := HX5.out.cell (j := 2) rfl
    have x3 := HX5.out.cell (j := 3) rfl
    have x4 := HX5.out.cell (j := 4) rfl
    have xl := HX5.out.lt
    have y0 := HY5.out.cell (j := 0) rfl
    have y1 := HY5.out.cell (j := 1) rfl
    have y2 := HY5.out.cell (j := 2) rfl
    have y3 := HY5.out.cell (j := 3) rfl
    have y4 := HY5.out.cell (j := 4) rfl
    have yl := HY5.out.lt
    go_wp2_with fail
    try rw [hw5]
    clear hw5 x0 x1 x2 x3 x4 xl y0 y1 y2 y3 y4 yl HX5 HY5 HY
    refine (drawMoveCabin_c _ _ _ _ HK5.out).mono ?_
    rintro e w6 ⟨g, c, l, x, s, rfl, hcl, hl, ho6, hb6⟩
    have HL6 := Lib.hid (HL5.out.carry hb6)
    have HK6 := Lib.hid (HK5.out.carry hb6)
    have HB6 := Lib.hid (HB5.out.trans (hb6.mono HB5.out.size))
    have HO6 := Lib.hid ho6
    clear hb6 ho6 HK5 HL5 HB5
    have hl1 : l.length ≤ 1048576 := by omega
    obtain ⟨⟨M, d⟩, hm⟩ : ∃ q, moveC l x s = q := ⟨_, rfl⟩
    have HM := Lib.hid hm
    obtain ⟨m1, m2, m3⟩ := move_law hm
    have HML := Lib.hid m3
    clear hm m3
    have hM1 : M.length ≤ 1048576 := by omega
    go_wp2_with fail
    refine (cp_of (implMoveCabin_c l _ _ _ x s _ hl1 (HO6.out.rd fun _ => rfl)) HM.out).mono ?_
    rintro e w7 ⟨B1, e1, rfl, p7, hb7⟩
    have HL7 := Lib.hid (HL6.out.carry hb7)
    have HK7 := Lib.hid (HK6.out.carry hb7)
    have HB7 := Lib.hid (HB6.out.trans (hb7.mono HB6.out.size))
    have HO7 := Lib.hid (HO6.out.carry hb7)
    have HP7 := Lib.hid p7
    clear hb7 p7 HK6 HL6 HB6 HO6
    go_wp2_with fail
    refine (cp_of (specMoveCabin_c l _ _ _ x s _ hl1 (HO7.out.rd fun _ => rfl)) HM.out).mono ?_
    rintro e w8 ⟨B2, e2, rfl, q8, hb8⟩
    have HL8 := Lib.hid (HL7.out.carry hb8)
    have HK8 := Lib.hid (HK7.out.carry hb8)
    have HB8 := Lib.hid (HB7.out.trans (hb8.mono HB7.out.size))
    have HO8 := Lib.hid (HO7.out.carry hb8)
    have HP8 := Lib.hid (HP7.out.carry hb8)
    have HQ8 := Lib.hid q8
    clear hb8 q8 HK7 HL7 HB7 HO7 HP7
    go_wp2_with fail
    refine (rCabins_same M _ _ _ _ _ hM1 (HP8.out.rd fun _ => rfl) (HQ8.out.rd fun _ => rfl)).mono ?_
    rintro e w9 ⟨rfl, hb9⟩
    have HL9 := Lib.hid (HL8.out.carry hb9)
    have HK9 := Lib.hid (HK8.out.carry hb9)
    have HB9 := Lib.hid (HB8.out.trans (hb9.mono HB8.out.size))
    have HO9 := Lib.hid (HO8.out.carry hb9)
    have HP9 := Lib.hid (HP8.out.carry hb9)
    clear hb9 HK8 HL8 HB8 HO8 HP8 HQ8 HM
    go_wp2_with fail
    go_loopw [22] (fun i wr => ∃ k : Nat, k ≤ M.length ∧ i = .int .i64 k ∧ Below w9.heap.size w9 wr) (fun i _ => M.length - (intOf i).toNat)
    case atStart => exact ⟨0, Nat.zero_le _, rfl, Below.refl _ _⟩
    case round =>
      obtain ⟨k, hk, rfl, hbel⟩ := hrel
      have HBr := Lib.hid hbel
      have zr := hbel.size
      by_cases hlt : k < M.length
      · obtain ⟨b1, off1, rfl, hb1, hd0, hd1, hd2, hd3, hd4⟩ := Cbn.rd ((HP9.out.rd fun _ => rfl).below hbel (Nat.le_refl _)) hlt
        obtain ⟨b2, off2, he, hb2, hc0, hc1, hc2, hc3, hc4⟩ := Cbn.rd ((HO9.out.rd fun _ => rfl).below hbel (Nat.le_refl _)) (show k < l.length by omega)
        simp only [Option.some.injEq, Addr.mk.injEq, and_true] at he
        obtain ⟨rfl, rfl⟩ := he
        obtain ⟨⟨r1, r2⟩, hcase⟩ := HML.out k hlt
        have l1 : b1 < wr.heap.size := by omega
        have l2 : g < wr.heap.size := by omega
        have i1 : (k : Int) < l.length := by omega
        have i2 : (k : Int) < M.length := by omega
        have i0 : (0 : Int) ≤ (k : Int) := by omega
        rw [Nat.zero_add] at hc0 hc1 hc2 hc3 hc4
        clear hbel hd0 hd1 hd2 hc0 hc1 hc2
        obtain ⟨r, hr⟩ : ∃ r, (nth l k).r = r := ⟨_, rfl⟩
        rw [hr] at r1 r2 hc4 hcase
        have a1 : IntKind.i64.wrap (r + 1) = r + 1 := IntWalk.i64_in _ (by omega)
        have a2 : (r == r + 1) = false := by rw [beq_eq_false_iff_ne]; omega
        clear hr
        rcases hcase with ⟨e1, e2, e3⟩ | ⟨e1, e3⟩
        · rw [e1] at hc3
          rw [e2] at hd3
          rw [e3] at hd4
          clear e1 e2 e3
          go_wp2_with fail
          refine wp_region_mem (by kernel_rfl) (by kernel_rfl) ?_
          repeat (go_big_quiet_step (fail))
          refine wpQuiet_nil ?_
          intro _ hw'
          obtain ⟨⟨wq, hbq⟩, hw''⟩ := hw'
          obtain rfl := hw''.symm
          obtain ⟨hcq, hfq, hzq⟩ := bcell hbq
          try simp [Nat.add_one_le_iff] at hzq
          have HBq := Lib.hid (HBr.out.trans (hbq.mono zr))
          clear hcq hfq
          go_wp2_with fail
          go_roundw
          case rel => exact ⟨k + 1, by omega, by go_num, HBq.out⟩
          case measure => simp [intOf]; omega
        · rw [e3] at hd4
          by_cases e4 : (nth l k).t = 1
          · have e5 : ((nth M k).t == 0) = false := by rw [beq_eq_false_iff_ne]; exact fun q => e1 ⟨e4, q⟩
            rw [e4] at hc3
            clear e1 e3 e4
            go_wp2_with fail
            refine wp_region_mem (by kernel_rfl) (by kernel_rfl) ?_
            repeat (go_big_quiet_step (fail))
            refine wpQuiet_nil ?_
            intro _ hw'
            obtain ⟨⟨wq, hbq⟩, hw''⟩ := hw'
            obtain rfl := hw''.symm
            obtain ⟨hcq, hfq, hzq⟩ := bcell hbq
            try simp [Nat.add_one_le_iff] at hzq
            have HBq := Lib.hid (HBr.out.trans (hbq.mono zr))
            clear hcq hfq
            go_wp2_with fail
            go_roundw
            case rel => exact ⟨k + 1, by omega, by go_num, HBq.out⟩
            case measure => simp [intOf]; omega
          · have e5 : ((nth l k).t == 1) = false := by rw [beq_eq_false_iff_ne]; exact e4
            clear e1 e3 e4
            go_wp2_with fail
            refine wp_region_mem (by kernel_rfl) (by kernel_rfl) ?_
            repeat (go_big_quiet_step (fail))
            refine wpQuiet_nil ?_
            intro _ hw'
            obtain ⟨⟨wq, hbq⟩, hw''⟩ := hw'
            obtain rfl := hw''.symm
            obtain ⟨hcq, hfq, hzq⟩ := bcell hbq
            try simp [Nat.add_one_le_iff] at hzq
            have HBq := Lib.hid (HBr.out.trans (hbq.mono zr))
            clear hcq hfq
            go_wp2_with fail
            go_roundw
            case rel => exact ⟨k + 1, by omega, by go_num, HBq.out⟩
            case measure => simp [intOf]; omega
      · obtain rfl : k = M.length := by omega
        have HKr := Lib.hid (HK9.out.carry hbel)
        have HBr' := Lib.hid (HB9.out.trans (hbel.mono HB9.out.size))
        clear hbel HBr HK9 HB9 HL9 HO9 HP9
        go_wp2_with fail
        refine (drawCabinsIn_c _ _ _ _ HKr.out).mono ?_
        rintro e wa ⟨ga, ca, L, t0, rfl, hca, hla, ⟨t1, t2⟩, oa, hba⟩
        have HOa := Lib.hid oa
        have HBa := Lib.hid (HBr'.out.trans (hba.mono HBr'.out.size))
        clear oa hba HKr HBr'
        have hl2 : L.length ≤ 1048576 := by omega
        obtain ⟨⟨C, kn⟩, hc⟩ : ∃ q, cabsIn L t0 = q := ⟨_, rfl⟩
        obtain ⟨k1, k2⟩ := cabsIn_told hc
        have hC1 : C.length ≤ 1048576 := by omega
        have HC := Lib.hid hc
        have HG := Lib.hid k2
        clear hc k1 k2
        go_wp2_with fail
        refine (lp_of (implCabinsIn_c L _ _ t0 _ hl2 (HOa.out.rd fun _ => rfl)) HC.out).mono ?_
        rintro e wb ⟨D1, f1, rfl, pb, hbb⟩
        have HOb := Lib.hid (HOa.out.carry hbb)
        have HPb := Lib.hid pb
        have HBb := Lib.hid (HBa.out.trans (hbb.mono HBa.out.size))
        clear pb hbb HOa HBa
        go_wp2_with fail
        refine (lp_of (specCabinsIn_c L _ _ t0 _ hl2 (HOb.out.rd fun _ => rfl)) HC.out).mono ?_
        rintro e wc ⟨D2, f2, rfl, qc, hbc⟩
        have HOc := Lib.hid (HOb.out.carry hbc)
        have HPc := Lib.hid (HPb.out.carry hbc)
        have HQc := Lib.hid qc
        have HBc := Lib.hid (HBb.out.trans (hbc.mono HBb.out.size))
        clear qc hbc HOb HBb HPb
        go_wp2_with fail
        refine (vInts_same C _ _ _ _ _ hC1 (HPc.out.rd fun _ => rfl) (HQc.out.rd fun _ => rfl)).mono ?_
        rintro e wd ⟨rfl, hbd⟩
        have HOd := Lib.hid (HOc.out.carry hbd)
        have HBd := Lib.hid (HBc.out.trans (hbd.mono HBc.out.size))
        clear hbd HOc HBc HPc HQc
        rcases kn with _ | _
        · go_wp2_with fail
          go_loopw [30, 31] (fun s i wr => s = .int .i64 0 ∧ i = .int .i64 0 ∧ wr = wd) (fun _ _ _ => 0)
          case atStart => exact ⟨rfl, rfl, rfl⟩
          case round =>
            obtain ⟨rfl, rfl, rfl⟩ := hrel
            go_wp2_with fail
            go_ret
            exact ⟨rfl, HBd.out⟩
        · have hG := HG.out rfl
          have HPA := Lib.hid (part_all hG)
          have HIN := Lib.hid (fun k (hk : k < 4) => cabsIn_at hG (k := k) hk)
          clear hG HG
          go_wp2_with fail
          go_loopw [30, 31] (fun s i wr => ∃ k : Nat, k ≤ 4 ∧ i = .int .i64 k ∧ s = .int .i64 (partC L k) ∧ Below w.heap.size w wr ∧ Rd wr wr.heap.size 5 Cbn.cells (some ⟨ga, 0, none⟩) L) (fun _ i _ => 4 - (intOf i).toNat)
          case atStart => exact ⟨0, by omega, rfl, rfl, HBd.out, HOd.out.rd fun _ => rfl⟩
          case round =>
            obtain ⟨k, hk, rfl, rfl, hbel, hrd⟩ := hrel
            have HBr := Lib.hid hbel
            have HRr := Lib.hid hrd
            clear hbel hrd
            by_cases hlt : k < 4
            · have i1 : (k : Int) < 4 := by omega
              have HCI := Lib.hid (HIN.out k hlt)
              have p1 := part_bd (l := L) k
              have p2 : k * L.length ≤ 4 * 14 := Nat.mul_le_mul (by omega) hla
              have p3 := stTo_len (l := L) (t := (k : Int)) L.length
              have HPS := Lib.hid (show partC L (k + 1) = partC L k + (stTo L (k : Int) L.length).length from rfl)
              obtain ⟨u, hu⟩ : ∃ u, partC L k = u := ⟨_, rfl⟩
              obtain ⟨V, hv⟩ : ∃ V, stTo L (k : Int) L.length = V := ⟨_, rfl⟩
              rw [hu] at p1 HPS ⊢
              rw [hv] at p3 HPS HCI
              have a1 : IntKind.i64.wrap ((u : Int) + V.length) = (u : Int) + V.length := IntWalk.i64_in _ (by omega)
              clear hu hv
              go_wp2_with fail
              refine (lp_of (implCabinsIn_c L _ _ (k : Int) _ hl2 HRr.out) HCI.out).mono ?_
              rintro e we ⟨E1, f3, rfl, pe, hbe⟩
              have HBe := Lib.hid (HBr.out.trans (hbe.mono HBr.out.size))
              have HRe := Lib.hid (HRr.out.carry hbe)
              clear hbe pe
              go_wp2_with fail
              go_roundw
              case rel => exact ⟨k + 1, by omega, by go_num, by rw [HPS.out]; go_num, HBe.out, HRe.out⟩
              case measure => simp [intOf]; omega
            · obtain rfl : k = 4 := by omega
              have a1 : ((partC L 4 : Int) == (L.length : Int)) = true := by rw [HPA.out]; simp
              go_wp2_with fail
              go_ret
              exact ⟨rfl, HBr.out⟩
end Go.Proofs.YteoajaichjojdaaDoor
