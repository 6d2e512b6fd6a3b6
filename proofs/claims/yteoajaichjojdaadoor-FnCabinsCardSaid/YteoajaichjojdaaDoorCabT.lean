/- The text of a cabin: the program's and the reference's CabinText return one Lean function; no conditions but what the library's and the program's own text lay. -/
import Derived.Test.YteoajaichjojdaaDoorCbnWays
import Derived.Test.YteoajaichjojdaaDoorItoa
import Derived.Deep.DeepCutAuto
namespace Go.Proofs.YteoajaichjojdaaDoor
open Go.RowKit

def stN (t : Int) : List UInt8 := if t = 0 then [114, 101, 97, 100, 121] else if t = 1 then [111, 110, 32, 108, 105, 110, 101] else if t = 2 then [112, 97, 114, 107, 101, 100] else [98, 114, 111, 107, 101, 110]
def cabL (x : Cbn) : List UInt8 := [99, 97, 98, 105, 110, 32] ++ num x.n ++ [58, 32] ++ num x.s ++ [32, 115, 101, 97, 116, 115, 44, 32] ++ num x.e ++ [32, 107, 103, 44, 32] ++ stN x.t ++ [44, 32] ++ num x.r ++ [32, 116, 114, 105, 112, 115]
def cabP (x : Cbn) : ByteArray × Bool := if okC x then (S (cabL x), true) else (⟨#[]⟩, false)
def TextP (p : ByteArray × Bool) (w : World) (e : Ending) (w' : World) : Prop := e = .returned (.tuple #[.string p.1, .bool p.2]) ∧ Below w.heap.size w w'
theorem retT {p : ByteArray × Bool} {v : ByteArray} {b : Bool} (h : p = (v, b)) : Ending.returned (.tuple #[.string v, .bool b]) = .returned (.tuple #[.string p.1, .bool p.2]) := by rw [h]
theorem str_of {f : FuncId} {args : Array Value} {W : World} {l : List UInt8} {a : ByteArray} (h : Calls Tryd.prog f args W fun e w' => e = .returned (.string (S l)) ∧ Below W.heap.size W w') (ha : S l = a) :
    Calls Tryd.prog f args W fun e w' => e = .returned (.string a) ∧ Below W.heap.size W w' := by subst ha; exact h
theorem num_S {n : Int} {a : ByteArray} (h0 : -1000000 ≤ n) (h1 : n ≤ 1000000) (h : S (num n) = a) : a.size ≤ 21 := by rw [← h, S_size]; exact num_len (by omega) (by omega)
theorem stN_len (t : Int) : (stN t).length ≤ 7 := by unfold stN; split <;> (try split) <;> (try split) <;> simp
theorem cab_S {x : Cbn} {a b c d t : ByteArray} (ha : S (num x.n) = a) (hb : S (num x.s) = b) (hc : S (num x.e) = c) (hd : S (num x.r) = d) (ht : S (stN x.t) = t) :
    (⟨#[99, 97, 98, 105, 110, 32]⟩ : ByteArray) ++ a ++ ⟨#[58, 32]⟩ ++ b ++ ⟨#[32, 115, 101, 97, 116, 115, 44, 32]⟩ ++ c ++ ⟨#[32, 107, 103, 44, 32]⟩ ++ t ++ ⟨#[44, 32]⟩ ++ d ++ ⟨#[32, 116, 114, 105, 112, 115]⟩ = S (cabL x) := by
  have e : S [99, 97, 98, 105, 110, 32] ++ S (num x.n) ++ S [58, 32] ++ S (num x.s) ++ S [32, 115, 101, 97, 116, 115, 44, 32] ++ S (num x.e) ++ S [32, 107, 103, 44, 32] ++ S (stN x.t) ++ S [44, 32] ++ S (num x.r) ++ S [32, 116, 114, 105, 112, 115] = S (cabL x) := by
    unfold cabL; simp only [S_app]
  rw [← e, ha, hb, hc, hd, ht]; rfl
/-- The names of the states lie where the program's text lays them. -/
def NamesAt (w : World) : Prop := 0 < w.heap.size ∧ ∀ j, j < 4 → w.cell? ⟨0, j, none⟩ = some (.string (S (stN (j : Int))))
theorem NamesAt.carry {w w' : World} (h : NamesAt w) (hb : Below w.heap.size w w') : NamesAt w' :=
  ⟨Nat.lt_of_lt_of_le h.1 hb.size, fun j hj => (hb.cell (p := ⟨0, j, none⟩) h.1).trans (h.2 j hj)⟩
set_option maxHeartbeats 4000000 in
theorem implText_c (x : Cbn) (w : World) (hx : okC x = true) (hT : Tab w) (hN : NamesAt w) : Calls Tryd.prog 21 #[.agg #[.int .i64 x.n, .int .i64 x.s, .int .i64 x.e, .int .i64 x.t, .int .i64 x.r]] w fun e w' => e = .returned (.string (S (cabL x))) ∧ Below w.heap.size w w' := by
  have HX := Lib.hid (Box.new w x.cells 25)
  have HB0 := Lib.hid (show Below w.heap.size w (w.alloc (.cells x.cells.toArray 25)) from (Below.refl _ _).alloc (Nat.le_refl _) _)
  have HT := Lib.hid hT
  have HNm := Lib.hid hN
  obtain ⟨⟨n1, n2⟩, ⟨s1, s2⟩, ⟨e1, e2⟩, ⟨t1, t2⟩, ⟨r1, r2⟩⟩ := okC_true.1 hx
  obtain ⟨a, ha⟩ : ∃ a, S (num x.n) = a := ⟨_, rfl⟩
  obtain ⟨b, hb⟩ : ∃ b, S (num x.s) = b := ⟨_, rfl⟩
  obtain ⟨c, hc⟩ : ∃ c, S (num x.e) = c := ⟨_, rfl⟩
  obtain ⟨d, hd⟩ : ∃ d, S (num x.r) = d := ⟨_, rfl⟩
  obtain ⟨t, ht⟩ : ∃ t, S (stN x.t) = t := ⟨_, rfl⟩
  have asz := num_S (by omega) (by omega) ha
  have bsz := num_S (by omega) (by omega) hb
  have csz := num_S (by omega) (by omega) hc
  have dsz := num_S (by omega) (by omega) hd
  have tsz : t.size ≤ 7 := by rw [← ht, S_size]; exact stN_len _
  have HE := Lib.hid (cab_S ha hb hc hd ht)
  have HA := Lib.hid ha
  have HBb := Lib.hid hb
  have HC := Lib.hid hc
  have HD := Lib.hid hd
  obtain ⟨j, hj⟩ : ∃ j : Nat, x.t = j := ⟨x.t.toNat, by omega⟩
  have hj4 : j < 4 := by omega
  have i4 : (j : Int) < 4 := by omega
  have i5 : (0 : Int) ≤ (j : Int) := by omega
  have HJ := Lib.hid hj
  have z1 : (9223372036854775807 < 6 + a.size) = False := by simp; omega
  have z2 : (9223372036854775807 < 6 + a.size + 2) = False := by simp; omega
  have z3 : (9223372036854775807 < 6 + a.size + 2 + b.size) = False := by simp; omega
  have z4 : (9223372036854775807 < 6 + a.size + 2 + b.size + 8) = False := by simp; omega
  have z5 : (9223372036854775807 < 6 + a.size + 2 + b.size + 8 + c.size) = False := by simp; omega
  have z6 : (9223372036854775807 < 6 + a.size + 2 + b.size + 8 + c.size + 5) = False := by simp; omega
  have z7 : (9223372036854775807 < 6 + a.size + 2 + b.size + 8 + c.size + 5 + t.size) = False := by simp; omega
  have z8 : (9223372036854775807 < 6 + a.size + 2 + b.size + 8 + c.size + 5 + t.size + 2) = False := by simp; omega
  have z9 : (9223372036854775807 < 6 + a.size + 2 + b.size + 8 + c.size + 5 + t.size + 2 + d.size) = False := by simp; omega
  have zz : (9223372036854775807 < 6 + a.size + 2 + b.size + 8 + c.size + 5 + t.size + 2 + d.size + 6) = False := by simp; omega
  have HTn := Lib.hid ht
  clear ha hb hc hd ht t1 t2
  clear hT hN hx hj
  go_enter Tryd.func21, Tryd.ntmps21
  go_wp2_with fail
  obtain ⟨w1, hw1⟩ : ∃ v, w.alloc (.cells #[.int .i64 x.n, .int .i64 x.s, .int .i64 x.e, .int .i64 x.t, .int .i64 x.r] 25) = v := ⟨_, rfl⟩
  have HX1 := Lib.hid (show Box w1 w.heap.size 25 5 x.cells from hw1 ▸ HX.out)
  have HB1 := Lib.hid (show Below w.heap.size w w1 from hw1 ▸ HB0.out)
  have HT1 := Lib.hid (HT.out.carry (show Below w.heap.size w w1 from HB1.out))
  have HN1 := Lib.hid (fun W (hW : Below w1.heap.size w1 W) => str_of (itoa_c x.n W (by omega) (by omega) (HT1.out.carry hW)) HA.out)
  have HN2 := Lib.hid (fun W (hW : Below w1.heap.size w1 W) => str_of (itoa_c x.s W (by omega) (by omega) (HT1.out.carry hW)) HBb.out)
  have HN3 := Lib.hid (fun W (hW : Below w1.heap.size w1 W) => str_of (itoa_c x.e W (by omega) (by omega) (HT1.out.carry hW)) HC.out)
  have HN4 := Lib.hid (fun W (hW : Below w1.heap.size w1 W) => str_of (itoa_c x.r W (by omega) (by omega) (HT1.out.carry hW)) HD.out)
  have HNa := HNm.out.carry (show Below w.heap.size w w1 from HB1.out)
  have gl := HNa.1
  have gc := HNa.2 j hj4
  rw [← HJ.out, HTn.out] at gc
  rw [hw1]
  clear hw1 HX HB0 HNa
  have x0 := HX1.out.cell (j := 0) rfl
  have x1 := HX1.out.cell (j := 1) rfl
  have x2 := HX1.out.cell (j := 2) rfl
  have x3 := HX1.out.cell (j := 3) rfl
  have x4 := HX1.out.cell (j := 4) rfl
  rw [HJ.out] at x3
  have xl := HX1.out.lt
  refine wp_region_mem (by kernel_rfl) (by kernel_rfl) ?_
  repeat (go_big_quiet_step ((first | (go_at_call 47; with_reducible exact mem_of (HN1.out _ (WIn.ok _))) | (go_at_call 47; with_reducible exact mem_of (HN2.out _ (WIn.ok _))) | (go_at_call 47; with_reducible exact mem_of (HN3.out _ (WIn.ok _))) | (go_at_call 47; with_reducible exact mem_of (HN4.out _ (WIn.ok _))))))
  refine wpQuiet_nil ?_
  intro _ hw'
  obtain ⟨⟨wq, hbq⟩, hw''⟩ := hw'
  obtain rfl := hw''.symm
  obtain ⟨hcq, hfq, hzq⟩ := bcell hbq
  try simp [Nat.add_one_le_iff] at hzq
  have HBq := Lib.hid (HB1.out.trans (hbq.mono HB1.out.size))
  clear hcq hfq
  go_wp2_with fail
  go_ret
  exact ⟨rets HE.out, HBq.out⟩
set_option maxHeartbeats 4000000 in
theorem specText_c (x : Cbn) (w : World) (hx : okC x = true) : Calls Tryd.prog 23 #[.agg #[.int .i64 x.n, .int .i64 x.s, .int .i64 x.e, .int .i64 x.t, .int .i64 x.r]] w fun e w' => e = .returned (.string (S (cabL x))) ∧ Below w.heap.size w w' := by
  obtain ⟨⟨n1, n2⟩, ⟨s1, s2⟩, ⟨e1, e2⟩, ⟨t1, t2⟩, ⟨r1, r2⟩⟩ := okC_true.1 hx
  obtain ⟨a, ha⟩ : ∃ a, S (num x.n) = a := ⟨_, rfl⟩
  obtain ⟨b, hb⟩ : ∃ b, S (num x.s) = b := ⟨_, rfl⟩
  obtain ⟨c, hc⟩ : ∃ c, S (num x.e) = c := ⟨_, rfl⟩
  obtain ⟨d, hd⟩ : ∃ d, S (num x.r) = d := ⟨_, rfl⟩
  obtain ⟨t, ht⟩ : ∃ t, S (stN x.t) = t := ⟨_, rfl⟩
  have asz := num_S (by omega) (by omega) ha
  have bsz := num_S (by omega) (by omega) hb
  have csz := num_S (by omega) (by omega) hc
  have dsz := num_S (by omega) (by omega) hd
  have tsz : t.size ≤ 7 := by rw [← ht, S_size]; exact stN_len _
  have HE := Lib.hid (cab_S ha hb hc hd ht)
  have HA := Lib.hid ha
  have HBb := Lib.hid hb
  have HC := Lib.hid hc
  have HD := Lib.hid hd
  obtain ⟨j, hj⟩ : ∃ j : Nat, x.t = j := ⟨x.t.toNat, by omega⟩
  have hj4 : j < 4 := by omega
  have i4 : (j : Int) < 4 := by omega
  have i5 : (0 : Int) ≤ (j : Int) := by omega
  have HJ := Lib.hid hj
  have z1 : (9223372036854775807 < 6 + a.size) = False := by simp; omega
  have z2 : (9223372036854775807 < 6 + a.size + 2) = False := by simp; omega
  have z3 : (9223372036854775807 < 6 + a.size + 2 + b.size) = False := by simp; omega
  have z4 : (9223372036854775807 < 6 + a.size + 2 + b.size + 8) = False := by simp; omega
  have z5 : (9223372036854775807 < 6 + a.size + 2 + b.size + 8 + c.size) = False := by simp; omega
  have z6 : (9223372036854775807 < 6 + a.size + 2 + b.size + 8 + c.size + 5) = False := by simp; omega
  have z7 : (9223372036854775807 < 6 + a.size + 2 + b.size + 8 + c.size + 5 + t.size) = False := by simp; omega
  have z8 : (9223372036854775807 < 6 + a.size + 2 + b.size + 8 + c.size + 5 + t.size + 2) = False := by simp; omega
  have z9 : (9223372036854775807 < 6 + a.size + 2 + b.size + 8 + c.size + 5 + t.size + 2 + d.size) = False := by simp; omega
  have zz : (9223372036854775807 < 6 + a.size + 2 + b.size + 8 + c.size + 5 + t.size + 2 + d.size + 6) = False := by simp; omega
  have HTn := Lib.hid ht
  clear ha hb hc hd ht t1 t2
  clear hx
  have HNm := Lib.hid (show (#[.string ⟨#[114, 101, 97, 100, 121]⟩, .string ⟨#[111, 110, 32, 108, 105, 110, 101]⟩, .string ⟨#[112, 97, 114, 107, 101, 100]⟩, .string ⟨#[98, 114, 111, 107, 101, 110]⟩] : Array Value)[j]? = some (.string t) by
    rw [← HTn.out, hj]
    have : j = 0 ∨ j = 1 ∨ j = 2 ∨ j = 3 := by omega
    rcases this with rfl | rfl | rfl | rfl <;> rfl)
  obtain ⟨w1, hw1⟩ : ∃ v, w.alloc (.cells #[.int .i64 x.n, .int .i64 x.s, .int .i64 x.e, .int .i64 (j : Int), .int .i64 x.r] 25) = v := ⟨_, rfl⟩
  rw [hj]
  obtain ⟨w2, hw2⟩ : ∃ v, w1.alloc (.cells #[.string ⟨#[114, 101, 97, 100, 121]⟩, .string ⟨#[111, 110, 32, 108, 105, 110, 101]⟩, .string ⟨#[112, 97, 114, 107, 101, 100]⟩, .string ⟨#[98, 114, 111, 107, 101, 110]⟩] 9) = v := ⟨_, rfl⟩
  have HX2 := Lib.hid (show Box w2 w.heap.size 25 5 [.int .i64 x.n, .int .i64 x.s, .int .i64 x.e, .int .i64 (j : Int), .int .i64 x.r] by
    rw [← hw2, ← hw1]; exact (Box.new w [.int .i64 x.n, .int .i64 x.s, .int .i64 x.e, .int .i64 (j : Int), .int .i64 x.r] 25).alloc _)
  have HB2 := Lib.hid (show Below w.heap.size w w2 by rw [← hw2, ← hw1]; exact ((Below.refl _ _).alloc (Nat.le_refl _) _).alloc (by simp) _)
  have HL2 := Lib.hid (show w2.cell? ⟨w1.heap.size, j, none⟩ = some (.string t) by
    rw [← hw2, cell_of_row _ _ j _ 9 (0, 0) (heap_alloc_new w1 _)]; exact HNm.out)
  have HZ1 := Lib.hid (show w1.heap.size = w.heap.size + 1 by rw [← hw1]; simp)
  have l2 : w.heap.size + 1 < w2.heap.size := by rw [← hw2]; simp [HZ1.out]
  have g2 := HL2.out
  rw [HZ1.out] at g2
  have HN1 := Lib.hid (fun W (_ : Below w2.heap.size w2 W) => str_of (l1Num_c x.n W (by omega) (by omega)) HA.out)
  have HN2 := Lib.hid (fun W (_ : Below w2.heap.size w2 W) => str_of (l1Num_c x.s W (by omega) (by omega)) HBb.out)
  have HN3 := Lib.hid (fun W (_ : Below w2.heap.size w2 W) => str_of (l1Num_c x.e W (by omega) (by omega)) HC.out)
  have HN4 := Lib.hid (fun W (_ : Below w2.heap.size w2 W) => str_of (l1Num_c x.r W (by omega) (by omega)) HD.out)
  have HW := Lib.hid (show (w.alloc (.cells #[.int .i64 x.n, .int .i64 x.s, .int .i64 x.e, .int .i64 (j : Int), .int .i64 x.r] 25)).alloc (.cells #[.string ⟨#[114, 101, 97, 100, 121]⟩, .string ⟨#[111, 110, 32, 108, 105, 110, 101]⟩, .string ⟨#[112, 97, 114, 107, 101, 100]⟩, .string ⟨#[98, 114, 111, 107, 101, 110]⟩] 9) = w2 by rw [hw1, hw2])
  have hcell : ((w.alloc (.cells #[.int .i64 x.n, .int .i64 x.s, .int .i64 x.e, .int .i64 (j : Int), .int .i64 x.r] 25)).alloc (.cells #[.string ⟨#[114, 101, 97, 100, 121]⟩, .string ⟨#[111, 110, 32, 108, 105, 110, 101]⟩, .string ⟨#[112, 97, 114, 107, 101, 100]⟩, .string ⟨#[98, 114, 111, 107, 101, 110]⟩] 9)).cell? ⟨w.heap.size + 1, j, none⟩ = some (.string t) := by rw [HW.out]; exact g2
  clear hw1 hw2 hj
  go_enter Tryd.func23, Tryd.ntmps23
  go_wp2_with fail
  rw [HW.out]
  clear hcell
  have x0 := HX2.out.cell (j := 0) rfl
  have x1 := HX2.out.cell (j := 1) rfl
  have x2 := HX2.out.cell (j := 2) rfl
  have x3 := HX2.out.cell (j := 3) rfl
  have x4 := HX2.out.cell (j := 4) rfl
  have xl := HX2.out.lt
  refine wp_region_mem (by kernel_rfl) (by kernel_rfl) ?_
  repeat (go_big_quiet_step ((first | (go_at_call 49; with_reducible exact mem_of (HN1.out _ (WIn.ok _))) | (go_at_call 49; with_reducible exact mem_of (HN2.out _ (WIn.ok _))) | (go_at_call 49; with_reducible exact mem_of (HN3.out _ (WIn.ok _))) | (go_at_call 49; with_reducible exact mem_of (HN4.out _ (WIn.ok _))))))
  refine wpQuiet_nil ?_
  intro _ hw'
  obtain ⟨⟨wq, hbq⟩, hw''⟩ := hw'
  obtain rfl := hw''.symm
  obtain ⟨hcq, hfq, hzq⟩ := bcell hbq
  try simp [Nat.add_one_le_iff] at hzq
  have HBq := Lib.hid (HB2.out.trans (hbq.mono HB2.out.size))
  clear hcq hfq
  go_wp2_with fail
  go_ret
  exact ⟨rets HE.out, HBq.out⟩
theorem implCabinText_c (x : Cbn) (w : World) (hT : Tab w) (hN : NamesAt w) : Calls Tryd.prog 6 #[.agg #[.int .i64 x.n, .int .i64 x.s, .int .i64 x.e, .int .i64 x.t, .int .i64 x.r]] w (TextP (cabP x) w) := by
  have HX := Lib.hid (Box.new w x.cells 25)
  have HB0 := Lib.hid (show Below w.heap.size w (w.alloc (.cells x.cells.toArray 25)) from (Below.refl _ _).alloc (Nat.le_refl _) _)
  rcases hok : okC x with _ | _
  · have HP := Lib.hid (show cabP x = (⟨#[]⟩, false) by simp [cabP, hok])
    go_enter Tryd.func6, Tryd.ntmps6
    go_wp2_with fail
    refine (IsCabin_c x _).mono ?_
    rw [hok]
    rintro e w1 ⟨rfl, hb1⟩
    have HB := Lib.hid (HB0.out.trans (hb1.mono HB0.out.size))
    go_wp2_with fail
    exact bodyPost_ret (v := .tuple #[.string ⟨#[]⟩, .bool false]) (by simp [results, Tryd.results6, go_sem]) rfl ⟨retT HP.out, HB.out⟩
  have HP := Lib.hid (show cabP x = (S (cabL x), true) by simp [cabP, hok])
  have HT := And.intro (Lib.hid hT) (Lib.hid hN)
  go_enter Tryd.func6, Tryd.ntmps6
  go_wp2_with fail
  refine (IsCabin_c x _).mono ?_
  rw [hok]
  rintro e w1 ⟨rfl, hb1⟩
  have hx1 := HX.out.carry hb1
  have HB1 := Lib.hid (HB0.out.trans (hb1.mono HB0.out.size))
  have x0 := hx1.cell (j := 0) rfl
  have x1 := hx1.cell (j := 1) rfl
  have x2 := hx1.cell (j := 2) rfl
  have x3 := hx1.cell (j := 3) rfl
  have x4 := hx1.cell (j := 4) rfl
  have xl := hx1.lt
  clear hb1 hx1 HX HB0
  go_wp2_with fail
  refine (implText_c x _ hok (HT.1.out.carry HB1.out) (HT.2.out.carry HB1.out)).mono ?_
  rintro e w2 ⟨rfl, hb2⟩
  have HB2 := Lib.hid (HB1.out.trans (hb2.mono HB1.out.size))
  clear hb2
  go_wp2_with fail
  exact bodyPost_ret (v := .tuple #[.string (S (cabL x)), .bool true]) (by simp [results, Tryd.results6, go_sem]) rfl ⟨retT HP.out, HB2.out⟩
theorem specCabinText_c (x : Cbn) (w : World)  : Calls Tryd.prog 7 #[.agg #[.int .i64 x.n, .int .i64 x.s, .int .i64 x.e, .int .i64 x.t, .int .i64 x.r]] w (TextP (cabP x) w) := by
  have HX := Lib.hid (Box.new w x.cells 25)
  have HB0 := Lib.hid (show Below w.heap.size w (w.alloc (.cells x.cells.toArray 25)) from (Below.refl _ _).alloc (Nat.le_refl _) _)
  rcases hok : okC x with _ | _
  · have HP := Lib.hid (show cabP x = (⟨#[]⟩, false) by simp [cabP, hok])
    go_enter Tryd.func7, Tryd.ntmps7
    go_wp2_with fail
    refine (l5One_c x _).mono ?_
    rw [hok]
    rintro e w1 ⟨rfl, hb1⟩
    have HB := Lib.hid (HB0.out.trans (hb1.mono HB0.out.size))
    go_wp2_with fail
    exact bodyPost_ret (v := .tuple #[.string ⟨#[]⟩, .bool false]) (by simp [results, Tryd.results7, go_sem]) rfl ⟨retT HP.out, HB.out⟩
  have HP := Lib.hid (show cabP x = (S (cabL x), true) by simp [cabP, hok])
  
  go_enter Tryd.func7, Tryd.ntmps7
  go_wp2_with fail
  refine (l5One_c x _).mono ?_
  rw [hok]
  rintro e w1 ⟨rfl, hb1⟩
  have hx1 := HX.out.carry hb1
  have HB1 := Lib.hid (HB0.out.trans (hb1.mono HB0.out.size))
  have x0 := hx1.cell (j := 0) rfl
  have x1 := hx1.cell (j := 1) rfl
  have x2 := hx1.cell (j := 2) rfl
  have x3 := hx1.cell (j := 3) rfl
  have x4 := hx1.cell (j := 4) rfl
  have xl := hx1.lt
  clear hb1 hx1 HX HB0
  go_wp2_with fail
  refine (specText_c x _ hok ).mono ?_
  rintro e w2 ⟨rfl, hb2⟩
  have HB2 := Lib.hid (HB1.out.trans (hb2.mono HB1.out.size))
  clear hb2
  go_wp2_with fail
  exact bodyPost_ret (v := .tuple #[.string (S (cabL x)), .bool true]) (by simp [results, Tryd.results7, go_sem]) rfl ⟨retT HP.out, HB2.out⟩
end Go.Proofs.YteoajaichjojdaaDoor
