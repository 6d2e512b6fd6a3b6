/- The text of a weather record: the program's and the reference's WeatherText return one Lean function; no conditions but that the powers of ten lie where the library's text lays them. -/
import Derived.Test.YtmlcaaciofbpgaaDoorWeather
import Derived.Test.YtmlcaaciofbpgaaDoorItoa
import Derived.Deep.DeepCutAuto
namespace Go.Proofs.YtmlcaaciofbpgaaDoor
open Go.RowKit

/-- Tenths written out. -/
def tenA (m : Nat) : List UInt8 := num (m / 10 : Nat) ++ [46] ++ num (m % 10 : Nat)
def tenL (n : Int) : List UInt8 := if n < 0 then 45 :: tenA n.natAbs else tenA n.natAbs
def msL : List UInt8 := [32, 109, 47, 115, 32, 102, 114, 111, 109, 32]
def wtL (x : Wea) : List UInt8 := num x.m ++ [58, 32] ++ tenL x.wi ++ msL ++ num x.f ++ [44, 32] ++ tenL x.d ++ [32, 67] ++ (if x.s then [44, 32, 115, 116, 111, 114, 109] else [])
def wtP (x : Wea) : ByteArray × Bool := if okW x then (S (wtL x), true) else (⟨#[]⟩, false)
def TextP (p : ByteArray × Bool) (w : World) (e : Ending) (w' : World) : Prop := e = .returned (.tuple #[.string p.1, .bool p.2]) ∧ Below w.heap.size w w'
theorem retT {p : ByteArray × Bool} {v : ByteArray} {b : Bool} (h : p = (v, b)) : Ending.returned (.tuple #[.string v, .bool b]) = .returned (.tuple #[.string p.1, .bool p.2]) := by rw [h]
theorem str_of {f : FuncId} {args : Array Value} {W : World} {l : List UInt8} {a : ByteArray} (h : Calls Tryd.prog f args W fun e w' => e = .returned (.string (S l)) ∧ Below W.heap.size W w') (ha : S l = a) :
    Calls Tryd.prog f args W fun e w' => e = .returned (.string a) ∧ Below W.heap.size W w' := by subst ha; exact h
theorem num_S {n : Int} {a : ByteArray} (h0 : -1000000 ≤ n) (h1 : n ≤ 1000000) (h : S (num n) = a) : a.size ≤ 21 := by rw [← h, S_size]; exact num_len (by omega) (by omega)
theorem tenA_len {m : Nat} (h : m ≤ 1000000) : (tenA m).length ≤ 43 := by
  have e1 := num_len (n := ((m / 10 : Nat) : Int)) (by omega) (by omega)
  have e2 := num_len (n := ((m % 10 : Nat) : Int)) (by omega) (by omega)
  simp only [tenA, List.length_append, List.length_cons, List.length_nil]; omega
theorem tenL_len {n : Int} (h0 : -1000000 ≤ n) (h1 : n ≤ 1000000) : (tenL n).length ≤ 44 := by
  have := tenA_len (m := n.natAbs) (by omega)
  unfold tenL
  split
  · simp only [List.length_cons]; omega
  · omega
theorem ten_S {n : Int} {a : ByteArray} (h0 : -1000000 ≤ n) (h1 : n ≤ 1000000) (h : S (tenL n) = a) : a.size ≤ 44 := by rw [← h, S_size]; exact tenL_len h0 h1
theorem tenA_S {m : Nat} {a b : ByteArray} (ha : S (num (m / 10 : Nat)) = a) (hb : S (num (m % 10 : Nat)) = b) : a ++ ⟨#[46]⟩ ++ b = S (tenA m) := by
  have e : S (num (m / 10 : Nat)) ++ S [46] ++ S (num (m % 10 : Nat)) = S (tenA m) := by rw [tenA, S_app, S_app]
  rw [← e, ha, hb]; rfl
theorem neg_S (l : List UInt8) : (⟨#[45]⟩ : ByteArray) ++ S l = S (45 :: l) := by
  have e : S [45] ++ S l = S (45 :: l) := by rw [S_app]; rfl
  rw [← e]; rfl
theorem wt_S {x : Wea} {a b c d : ByteArray} (ha : S (num x.m) = a) (hb : S (tenL x.wi) = b) (hc : S (num x.f) = c) (hd : S (tenL x.d) = d) :
    a ++ ⟨#[58, 32]⟩ ++ b ++ ⟨#[32, 109, 47, 115, 32, 102, 114, 111, 109, 32]⟩ ++ c ++ ⟨#[44, 32]⟩ ++ d ++ ⟨#[32, 67]⟩ ++ (if x.s then ⟨#[44, 32, 115, 116, 111, 114, 109]⟩ else ⟨#[]⟩) = S (wtL x) := by
  have e : S (num x.m) ++ S [58, 32] ++ S (tenL x.wi) ++ S msL ++ S (num x.f) ++ S [44, 32] ++ S (tenL x.d) ++ S [32, 67] ++ (if x.s then S [44, 32, 115, 116, 111, 114, 109] else S []) = S (wtL x) := by
    unfold wtL
    split <;> simp [S_app]
  rw [← e, ha, hb, hc, hd]; rfl
theorem dist_c (n : Int) (w : World) (h0 : -1000000 ≤ n) (h1 : n ≤ 1000000) : Calls Tryd.prog 53 #[.int .i64 n, .int .i64 0] w fun e w' => e = .returned (.int .i64 n.natAbs) ∧ w = w' := by
  have a1 : IntKind.i64.wrap (n - 0) = n := by rw [Int.sub_zero]; exact IntWalk.i64_in _ (by omega)
  have a2 : IntKind.i64.wrap (0 - n) = -n := by rw [Int.zero_sub]; exact IntWalk.i64_in _ (by omega)
  have a3 : IntKind.i64.wrap (-n) = -n := IntWalk.i64_in _ (by omega)
  go_enter Tryd.func53, Tryd.ntmps53
  go_wp2_with fail
  go_ret
  exact ⟨reti (by omega), rfl⟩
theorem implTenths_c (n : Int) (w : World) (h0 : -1000000 ≤ n) (h1 : n ≤ 1000000) (hT : Tab w) : Calls Tryd.prog 34 #[.int .i64 n] w fun e w' => e = .returned (.string (S (tenL n))) ∧ Below w.heap.size w w' := by
  have HT := Lib.hid hT
  clear hT
  obtain ⟨m, hm⟩ : ∃ m, n.natAbs = m := ⟨_, rfl⟩
  have hm6 : m ≤ 1000000 := by omega
  obtain ⟨q, hq⟩ : ∃ q, m / 10 = q := ⟨_, rfl⟩
  obtain ⟨r, hr⟩ : ∃ r, m % 10 = r := ⟨_, rfl⟩
  obtain ⟨a, ha⟩ : ∃ a, S (num (q : Int)) = a := ⟨_, rfl⟩
  obtain ⟨b, hb⟩ : ∃ b, S (num (r : Int)) = b := ⟨_, rfl⟩
  have asz := num_S (by omega) (by omega) ha
  have bsz := num_S (by omega) (by omega) hb
  have HE := Lib.hid (show a ++ ⟨#[46]⟩ ++ b = S (tenA m) from tenA_S (by rw [hq]; exact ha) (by rw [hr]; exact hb))
  have HA := Lib.hid ha
  have HBs := Lib.hid hb
  have hq6 : q ≤ 1000000 := by omega
  have hr6 : r ≤ 1000000 := by omega
  have t1 : (m : Int).tdiv 10 = (q : Int) := by rw [Int.tdiv_eq_ediv_of_nonneg (by omega)]; omega
  have t2 : (m : Int).tmod 10 = (r : Int) := by rw [Int.tmod_eq_emod_of_nonneg (by omega)]; omega
  have t3 : (m : Int) / 10 = (q : Int) := by omega
  have t4 : (m : Int) % 10 = (r : Int) := by omega
  have a0 : IntKind.i64.wrap (q : Int) = (q : Int) := IntWalk.i64_in _ (by omega)
  have z1 : (9223372036854775807 < a.size + 1) = False := by simp; omega
  have z2 : (9223372036854775807 < a.size + 1 + b.size) = False := by simp; omega
  have z3 : (9223372036854775807 < 1 + (a.size + 1 + b.size)) = False := by simp; omega
  clear ha hb hq hr
  have HM := Lib.hid hm
  clear hm
  go_enter Tryd.func34, Tryd.ntmps34
  go_wp2_with fail
  refine (dist_c n _ h0 h1).mono ?_
  rw [HM.out]
  rintro e w' ⟨rfl, rfl⟩
  go_wp2_with fail
  refine (str_of (itoa_c q _ (by omega) (by omega) HT.out) HA.out).mono ?_
  rintro e w1 ⟨rfl, hb1⟩
  have HB1 := Lib.hid hb1
  have HT1 := Lib.hid (HT.out.carry hb1)
  clear hb1
  go_wp2_with fail
  refine (str_of (itoa_c r _ (by omega) (by omega) HT1.out) HBs.out).mono ?_
  rintro e w2 ⟨rfl, hb2⟩
  have HB2 := Lib.hid (HB1.out.trans (hb2.mono HB1.out.size))
  clear hb2
  by_cases hn : n < 0
  · have HF := Lib.hid (show (⟨#[45]⟩ : ByteArray) ++ (a ++ ⟨#[46]⟩ ++ b) = S (tenL n) by rw [HE.out, neg_S, tenL, if_pos hn, HM.out])
    go_wp2_with fail
    go_ret
    exact ⟨rets HF.out, HB2.out⟩
  · have HF := Lib.hid (show a ++ ⟨#[46]⟩ ++ b = S (tenL n) by rw [HE.out, tenL, if_neg hn, HM.out])
    go_wp2_with fail
    go_ret
    exact ⟨rets HF.out, HB2.out⟩
theorem specTenths_pos (n : Int) (w : World) (h0 : 0 ≤ n) (h1 : n ≤ 1000000) : Calls Tryd.prog 23 #[.int .i64 n] w fun e w' => e = .returned (.string (S (tenA n.natAbs))) ∧ Below w.heap.size w w' := by
  obtain ⟨m, hm⟩ : ∃ m, n.natAbs = m := ⟨_, rfl⟩
  have hm6 : m ≤ 1000000 := by omega
  obtain ⟨q, hq⟩ : ∃ q, m / 10 = q := ⟨_, rfl⟩
  obtain ⟨r, hr⟩ : ∃ r, m % 10 = r := ⟨_, rfl⟩
  obtain ⟨a, ha⟩ : ∃ a, S (num (q : Int)) = a := ⟨_, rfl⟩
  obtain ⟨b, hb⟩ : ∃ b, S (num (r : Int)) = b := ⟨_, rfl⟩
  have asz := num_S (by omega) (by omega) ha
  have bsz := num_S (by omega) (by omega) hb
  have HE := Lib.hid (show a ++ ⟨#[46]⟩ ++ b = S (tenA m) from tenA_S (by rw [hq]; exact ha) (by rw [hr]; exact hb))
  have HA := Lib.hid ha
  have HBs := Lib.hid hb
  have hq6 : q ≤ 1000000 := by omega
  have hr6 : r ≤ 1000000 := by omega
  have t1 : (m : Int).tdiv 10 = (q : Int) := by rw [Int.tdiv_eq_ediv_of_nonneg (by omega)]; omega
  have t2 : (m : Int).tmod 10 = (r : Int) := by rw [Int.tmod_eq_emod_of_nonneg (by omega)]; omega
  have t3 : (m : Int) / 10 = (q : Int) := by omega
  have t4 : (m : Int) % 10 = (r : Int) := by omega
  have a0 : IntKind.i64.wrap (q : Int) = (q : Int) := IntWalk.i64_in _ (by omega)
  have z1 : (9223372036854775807 < a.size + 1) = False := by simp; omega
  have z2 : (9223372036854775807 < a.size + 1 + b.size) = False := by simp; omega
  have z3 : (9223372036854775807 < 1 + (a.size + 1 + b.size)) = False := by simp; omega
  clear ha hb hq hr
  obtain rfl : n = (m : Int) := by omega
  clear hm
  have hn : ¬ (m : Int) < 0 := by omega
  go_enter Tryd.func23, Tryd.ntmps23
  go_wp2_with fail
  refine (str_of (l1Num_c q _ (by omega) (by omega)) HA.out).mono ?_
  rintro e w1 ⟨rfl, hb1⟩
  have HB1 := Lib.hid hb1
  clear hb1
  go_wp2_with fail
  refine (str_of (l1Num_c r _ (by omega) (by omega)) HBs.out).mono ?_
  rintro e w2 ⟨rfl, hb2⟩
  have HB2 := Lib.hid (HB1.out.trans (hb2.mono HB1.out.size))
  clear hb2
  go_wp2_with fail
  go_ret
  exact ⟨rets (by rw [HE.out]; rfl), HB2.out⟩
theorem specTenths_c (n : Int) (w : World) (h0 : -1000000 ≤ n) (h1 : n ≤ 1000000) : Calls Tryd.prog 23 #[.int .i64 n] w fun e w' => e = .returned (.string (S (tenL n))) ∧ Below w.heap.size w w' := by
  by_cases hn : n < 0
  · have h2 := tenA_len (m := n.natAbs) (by omega)
    obtain ⟨t, ht⟩ : ∃ t, S (tenA n.natAbs) = t := ⟨_, rfl⟩
    have hts : t.size ≤ 43 := by rw [← ht, S_size]; exact h2
    have z1 : (9223372036854775807 < 1 + t.size) = False := by simp; omega
    have HF := Lib.hid (show (⟨#[45]⟩ : ByteArray) ++ t = S (tenL n) by rw [← ht, neg_S, tenL, if_pos hn])
    have HC := Lib.hid (show ∀ W : World, Calls Tryd.prog 23 #[.int .i64 (-n)] W fun e w' => e = .returned (.string t) ∧ Below W.heap.size W w' from fun W => by
      have := specTenths_pos (-n) W (by omega) (by omega)
      rwa [Int.natAbs_neg, ht] at this)
    have a1 : IntKind.i64.wrap (-n) = -n := IntWalk.i64_in _ (by omega)
    clear ht h2
    go_enter Tryd.func23, Tryd.ntmps23
    go_wp2_with fail
    refine (HC.out _).mono ?_
    rintro e w1 ⟨rfl, hb1⟩
    go_wp2_with fail
    go_ret
    exact ⟨rets HF.out, hb1⟩
  · have := specTenths_pos n w (by omega) h1
    rwa [show tenA n.natAbs = tenL n by rw [tenL, if_neg hn]] at this
set_option maxHeartbeats 2000000 in
theorem implText_c (x : Wea) (w : World) (hx : okW x = true) (hT : Tab w) : Calls Tryd.prog 17 #[.agg #[.int .i64 x.m, .int .i64 x.wi, .int .i64 x.f, .int .i64 x.d, .bool x.s]] w fun e w' => e = .returned (.string (S (wtL x))) ∧ Below w.heap.size w w' := by
  have HX := Lib.hid (Box.new w x.cells 23)
  have HB0 := Lib.hid (show Below w.heap.size w (w.alloc (.cells x.cells.toArray 23)) from (Below.refl _ _).alloc (Nat.le_refl _) _)
  have HT := Lib.hid hT
  simp only [okW, Bool.and_eq_true, inR_true] at hx
  obtain ⟨⟨⟨hm, hw⟩, hf⟩, hd⟩ := hx
  obtain ⟨a, ha⟩ : ∃ a, S (num x.m) = a := ⟨_, rfl⟩
  obtain ⟨b, hb⟩ : ∃ b, S (tenL x.wi) = b := ⟨_, rfl⟩
  obtain ⟨c, hc⟩ : ∃ c, S (num x.f) = c := ⟨_, rfl⟩
  obtain ⟨d, hdd⟩ : ∃ d, S (tenL x.d) = d := ⟨_, rfl⟩
  have asz := num_S (by omega) (by omega) ha
  have bsz := ten_S (by omega) (by omega) hb
  have csz := num_S (by omega) (by omega) hc
  have dsz := ten_S (by omega) (by omega) hdd
  have HE := Lib.hid (wt_S ha hb hc hdd)
  have HA := Lib.hid ha
  have HBb := Lib.hid hb
  have HC := Lib.hid hc
  have HD := Lib.hid hdd
  clear ha hb hc hdd
  have z1 : (9223372036854775807 < a.size + 2) = False := by simp; omega
  have z2 : (9223372036854775807 < a.size + 2 + b.size) = False := by simp; omega
  have z3 : (9223372036854775807 < a.size + 2 + b.size + 10) = False := by simp; omega
  have z4 : (9223372036854775807 < a.size + 2 + b.size + 10 + c.size) = False := by simp; omega
  have z5 : (9223372036854775807 < a.size + 2 + b.size + 10 + c.size + 2) = False := by simp; omega
  have z6 : (9223372036854775807 < a.size + 2 + b.size + 10 + c.size + 2 + d.size) = False := by simp; omega
  have z7 : (9223372036854775807 < a.size + 2 + b.size + 10 + c.size + 2 + d.size + 2) = False := by simp; omega
  have z8 : (9223372036854775807 < a.size + 2 + b.size + 10 + c.size + 2 + d.size + 2 + 7) = False := by simp; omega
  go_enter Tryd.func17, Tryd.ntmps17
  go_wp2_with fail
  obtain ⟨w1, hw1⟩ : ∃ v, w.alloc (.cells #[.int .i64 x.m, .int .i64 x.wi, .int .i64 x.f, .int .i64 x.d, .bool x.s] 23) = v := ⟨_, rfl⟩
  have HX1 := Lib.hid (show Box w1 w.heap.size 23 5 x.cells from hw1 ▸ HX.out)
  have HB1 := Lib.hid (show Below w.heap.size w w1 from hw1 ▸ HB0.out)
  have HT1 := Lib.hid (HT.out.carry (show Below w.heap.size w w1 from HB1.out))
  have HN1 := Lib.hid (fun W (hW : Below w1.heap.size w1 W) => str_of (itoa_c x.m W (by omega) (by omega) (HT1.out.carry hW)) HA.out)
  have HN2 := Lib.hid (fun W (hW : Below w1.heap.size w1 W) => str_of (itoa_c x.f W (by omega) (by omega) (HT1.out.carry hW)) HC.out)
  have HN3 := Lib.hid (fun W (hW : Below w1.heap.size w1 W) => str_of (implTenths_c x.wi W (by omega) (by omega) (HT1.out.carry hW)) HBb.out)
  have HN4 := Lib.hid (fun W (hW : Below w1.heap.size w1 W) => str_of (implTenths_c x.d W (by omega) (by omega) (HT1.out.carry hW)) HD.out)
  rw [hw1]
  clear hw1 HX HB0
  have x0 := HX1.out.cell (j := 0) rfl
  have x1 := HX1.out.cell (j := 1) rfl
  have x2 := HX1.out.cell (j := 2) rfl
  have x3 := HX1.out.cell (j := 3) rfl
  have xl := HX1.out.lt
  refine wp_region_mem (by kernel_rfl) (by kernel_rfl) ?_
  repeat (go_big_quiet_step ((first | (go_at_call 33; with_reducible exact mem_of (HN1.out _ (WIn.ok _))) | (go_at_call 33; with_reducible exact mem_of (HN2.out _ (WIn.ok _))) | (go_at_call 34; with_reducible exact mem_of (HN3.out _ (WIn.ok _))) | (go_at_call 34; with_reducible exact mem_of (HN4.out _ (WIn.ok _))))))
  refine wpQuiet_nil ?_
  intro _ hw'
  obtain ⟨⟨wq, hbq⟩, hw''⟩ := hw'
  obtain rfl := hw''.symm
  obtain ⟨hcq, hfq, hzq⟩ := bcell hbq
  try simp [Nat.add_one_le_iff] at hzq
  have HBq := Lib.hid (HB1.out.trans (hbq.mono HB1.out.size))
  have hxq := HX1.out.carry hbq
  have y4 := hxq.cell (j := 4) rfl
  have yl := hxq.lt
  clear hxq hcq hfq
  rcases hs : x.s with _ | _
  · rw [hs] at y4
    have HE2 := Lib.hid (show a ++ ⟨#[58, 32]⟩ ++ b ++ ⟨#[32, 109, 47, 115, 32, 102, 114, 111, 109, 32]⟩ ++ c ++ ⟨#[44, 32]⟩ ++ d ++ ⟨#[32, 67]⟩ = S (wtL x) by
      have h := HE.out
      rw [hs, if_neg (by simp)] at h
      rw [← h]; exact (ByteArray.append_empty).symm)
    go_wp2_with fail
    go_ret
    exact ⟨rets HE2.out, HBq.out⟩
  · rw [hs] at y4
    have HE2 := Lib.hid (show a ++ ⟨#[58, 32]⟩ ++ b ++ ⟨#[32, 109, 47, 115, 32, 102, 114, 111, 109, 32]⟩ ++ c ++ ⟨#[44, 32]⟩ ++ d ++ ⟨#[32, 67]⟩ ++ ⟨#[44, 32, 115, 116, 111, 114, 109]⟩ = S (wtL x) by
      have h := HE.out
      rw [hs, if_pos rfl] at h
      exact h)
    go_wp2_with fail
    go_ret
    exact ⟨rets HE2.out, HBq.out⟩
set_option maxHeartbeats 2000000 in
theorem specText_c (x : Wea) (w : World) (hx : okW x = true)  : Calls Tryd.prog 10 #[.agg #[.int .i64 x.m, .int .i64 x.wi, .int .i64 x.f, .int .i64 x.d, .bool x.s]] w fun e w' => e = .returned (.string (S (wtL x))) ∧ Below w.heap.size w w' := by
  have HX := Lib.hid (Box.new w x.cells 23)
  have HB0 := Lib.hid (show Below w.heap.size w (w.alloc (.cells x.cells.toArray 23)) from (Below.refl _ _).alloc (Nat.le_refl _) _)
  --
  simp only [okW, Bool.and_eq_true, inR_true] at hx
  obtain ⟨⟨⟨hm, hw⟩, hf⟩, hd⟩ := hx
  obtain ⟨a, ha⟩ : ∃ a, S (num x.m) = a := ⟨_, rfl⟩
  obtain ⟨b, hb⟩ : ∃ b, S (tenL x.wi) = b := ⟨_, rfl⟩
  obtain ⟨c, hc⟩ : ∃ c, S (num x.f) = c := ⟨_, rfl⟩
  obtain ⟨d, hdd⟩ : ∃ d, S (tenL x.d) = d := ⟨_, rfl⟩
  have asz := num_S (by omega) (by omega) ha
  have bsz := ten_S (by omega) (by omega) hb
  have csz := num_S (by omega) (by omega) hc
  have dsz := ten_S (by omega) (by omega) hdd
  have HE := Lib.hid (wt_S ha hb hc hdd)
  have HA := Lib.hid ha
  have HBb := Lib.hid hb
  have HC := Lib.hid hc
  have HD := Lib.hid hdd
  clear ha hb hc hdd
  have z1 : (9223372036854775807 < a.size + 2) = False := by simp; omega
  have z2 : (9223372036854775807 < a.size + 2 + b.size) = False := by simp; omega
  have z3 : (9223372036854775807 < a.size + 2 + b.size + 10) = False := by simp; omega
  have z4 : (9223372036854775807 < a.size + 2 + b.size + 10 + c.size) = False := by simp; omega
  have z5 : (9223372036854775807 < a.size + 2 + b.size + 10 + c.size + 2) = False := by simp; omega
  have z6 : (9223372036854775807 < a.size + 2 + b.size + 10 + c.size + 2 + d.size) = False := by simp; omega
  have z7 : (9223372036854775807 < a.size + 2 + b.size + 10 + c.size + 2 + d.size + 2) = False := by simp; omega
  have z8 : (9223372036854775807 < a.size + 2 + b.size + 10 + c.size + 2 + d.size + 2 + 7) = False := by simp; omega
  go_enter Tryd.func10, Tryd.ntmps10
  go_wp2_with fail
  obtain ⟨w1, hw1⟩ : ∃ v, w.alloc (.cells #[.int .i64 x.m, .int .i64 x.wi, .int .i64 x.f, .int .i64 x.d, .bool x.s] 23) = v := ⟨_, rfl⟩
  have HX1 := Lib.hid (show Box w1 w.heap.size 23 5 x.cells from hw1 ▸ HX.out)
  have HB1 := Lib.hid (show Below w.heap.size w w1 from hw1 ▸ HB0.out)
  have HN1 := Lib.hid (fun W (_ : Below w1.heap.size w1 W) => str_of (l1Num_c x.m W (by omega) (by omega)) HA.out)
  have HN2 := Lib.hid (fun W (_ : Below w1.heap.size w1 W) => str_of (l1Num_c x.f W (by omega) (by omega)) HC.out)
  have HN3 := Lib.hid (fun W (_ : Below w1.heap.size w1 W) => str_of (specTenths_c x.wi W (by omega) (by omega)) HBb.out)
  have HN4 := Lib.hid (fun W (_ : Below w1.heap.size w1 W) => str_of (specTenths_c x.d W (by omega) (by omega)) HD.out)
  rw [hw1]
  clear hw1 HX HB0
  have x0 := HX1.out.cell (j := 0) rfl
  have x1 := HX1.out.cell (j := 1) rfl
  have x2 := HX1.out.cell (j := 2) rfl
  have x3 := HX1.out.cell (j := 3) rfl
  have xl := HX1.out.lt
  refine wp_region_mem (by kernel_rfl) (by kernel_rfl) ?_
  repeat (go_big_quiet_step ((first | (go_at_call 22; with_reducible exact mem_of (HN1.out _ (WIn.ok _))) | (go_at_call 22; with_reducible exact mem_of (HN2.out _ (WIn.ok _))) | (go_at_call 23; with_reducible exact mem_of (HN3.out _ (WIn.ok _))) | (go_at_call 23; with_reducible exact mem_of (HN4.out _ (WIn.ok _))))))
  refine wpQuiet_nil ?_
  intro _ hw'
  obtain ⟨⟨wq, hbq⟩, hw''⟩ := hw'
  obtain rfl := hw''.symm
  obtain ⟨hcq, hfq, hzq⟩ := bcell hbq
  try simp [Nat.add_one_le_iff] at hzq
  have HBq := Lib.hid (HB1.out.trans (hbq.mono HB1.out.size))
  have hxq := HX1.out.carry hbq
  have y4 := hxq.cell (j := 4) rfl
  have yl := hxq.lt
  clear hxq hcq hfq
  rcases hs : x.s with _ | _
  · rw [hs] at y4
    have HE2 := Lib.hid (show a ++ ⟨#[58, 32]⟩ ++ b ++ ⟨#[32, 109, 47, 115, 32, 102, 114, 111, 109, 32]⟩ ++ c ++ ⟨#[44, 32]⟩ ++ d ++ ⟨#[32, 67]⟩ = S (wtL x) by
      have h := HE.out
      rw [hs, if_neg (by simp)] at h
      rw [← h]; exact (ByteArray.append_empty).symm)
    go_wp2_with fail
    go_ret
    exact ⟨rets HE2.out, HBq.out⟩
  · rw [hs] at y4
    have HE2 := Lib.hid (show a ++ ⟨#[58, 32]⟩ ++ b ++ ⟨#[32, 109, 47, 115, 32, 102, 114, 111, 109, 32]⟩ ++ c ++ ⟨#[44, 32]⟩ ++ d ++ ⟨#[32, 67]⟩ ++ ⟨#[44, 32, 115, 116, 111, 114, 109]⟩ = S (wtL x) by
      have h := HE.out
      rw [hs, if_pos rfl] at h
      exact h)
    go_wp2_with fail
    go_ret
    exact ⟨rets HE2.out, HBq.out⟩
end Go.Proofs.YtmlcaaciofbpgaaDoor
