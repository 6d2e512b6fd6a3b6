/- Lists of pairs of ints, each pair a slice of its own: compared, marked, looked at again; no conditions beyond the length. -/
import Derived.Test.YtccdbdkpjcehjaaMarks
import Derived.Test.YtccdbdkpjcehjaaPush
namespace Go.Proofs.Ytccdbdkpjcehjaa
open Go.RowKit

/-- A pair as the two ints of a row; a row's slice. -/
def pl (p : Int × Int) : List Int := [p.1, p.2]
def rowV (g : Nat) : Value := .slice (some ⟨g, 0, none⟩) 2 2
def rowCells (g : Nat) : List Value := [rowV g]
theorem Row.less2 {w : World} {g : Nat} {p : Int × Int} (h : Row w g 3 1 intCells (pl p)) : w.cell? ⟨g, 0, none⟩ = some (.int .i64 p.1) ∧ w.cell? ⟨g, 1, none⟩ = some (.int .i64 p.2) ∧ ∀ i, w.frozen? ⟨g, i, none⟩ = false := by
  obtain ⟨f, hf, hc⟩ := h
  refine ⟨?_, ?_, fun i => hf.frozen i⟩
  · rw [hf.cell (show 0 < (pl p).length * 1 by simp [pl])]
    exact congrArg some (hc 0 (by simp [pl]) 0 _ (by omega) rfl)
  · rw [hf.cell (show 1 < (pl p).length * 1 by simp [pl])]
    exact congrArg some (hc 1 (by simp [pl]) 0 _ (by omega) rfl)
/-- The slice at A reads as the pairs l, from blocks below B. -/
def RdS (w : World) (B : Nat) (A : Option Addr) (l : List (Int × Int)) : Prop := ∃ gs : List Nat, gs.length = l.length ∧ Rd w B 1 rowCells A gs ∧ ∀ i, i < l.length → nth gs i < B ∧ Row w (nth gs i) 3 1 intCells (pl (nth l i))
/-- The slice at A, and the rows of all its pairs, lie in blocks of their own from base on. -/
def Spans (w : World) (base : Nat) (A : Option Addr) (l : List (Int × Int)) : Prop := ∃ gs : List Nat, gs.length = l.length ∧ Own w base 43 1 rowCells A gs ∧
  (∀ i, i < l.length → base ≤ nth gs i ∧ Row w (nth gs i) 3 1 intCells (pl (nth l i))) ∧ ∀ i j, i < j → j < l.length → nth gs i < nth gs j
section
variable {w w' : World} {base B B' g : Nat} {A : Option Addr} {l : List (Int × Int)}
theorem RdS.below (h : RdS w B A l) (hb : Below B' w w') (hB : B ≤ B') : RdS w' B A l := by
  obtain ⟨gs, h1, h2, h3⟩ := h
  exact ⟨gs, h1, h2.below hb hB, fun i hi => ⟨(h3 i hi).1, (h3 i hi).2.below hb (by have := (h3 i hi).1; omega)⟩⟩
theorem RdS.mono (h : RdS w B A l) (hB : B ≤ B') : RdS w B' A l := by
  obtain ⟨gs, h1, h2, h3⟩ := h
  exact ⟨gs, h1, h2.mono hB, fun i hi => ⟨by have := (h3 i hi).1; omega, (h3 i hi).2⟩⟩
theorem RdS.grown (h : RdS w B A l) (hg : w.grownBy w' (some g)) (hB : B ≤ g) (hs : B ≤ w.heap.size) : RdS w' B A l := by
  obtain ⟨gs, h1, h2, h3⟩ := h
  exact ⟨gs, h1, h2.grown hg hB hs, fun i hi => ⟨(h3 i hi).1, (h3 i hi).2.grown hg (by have := (h3 i hi).1; omega)⟩⟩
theorem Spans.carry (h : Spans w base A l) (hb : Below w.heap.size w w') : Spans w' base A l := by
  obtain ⟨gs, h1, h2, h3, h4⟩ := h
  exact ⟨gs, h1, h2.carry hb, fun i hi => ⟨(h3 i hi).1, (h3 i hi).2.carry hb⟩, h4⟩
theorem Spans.grown (h : Spans w base A l) (hg : w.grownBy w' (some g)) (hlt : g < base) : Spans w' base A l := by
  obtain ⟨gs, h1, h2, h3, h4⟩ := h
  exact ⟨gs, h1, h2.grown hg hlt, fun i hi => ⟨(h3 i hi).1, (h3 i hi).2.grown hg (by have := (h3 i hi).1; omega)⟩, h4⟩
theorem Spans.less (h : Spans w base A l) (hB : B ≤ base) : Spans w B A l := by
  obtain ⟨gs, h1, h2, h3, h4⟩ := h
  exact ⟨gs, h1, h2.less hB, fun i hi => ⟨by have := (h3 i hi).1; omega, (h3 i hi).2⟩, h4⟩
theorem Spans.rd (h : Spans w base A l) : RdS w w.heap.size A l := by
  obtain ⟨gs, h1, h2, h3, h4⟩ := h
  exact ⟨gs, h1, h2.rd (fun _ => rfl), fun i hi => ⟨(h3 i hi).2.lt, (h3 i hi).2⟩⟩
theorem Spans.nil : Spans w base A [] := ⟨[], rfl, Own.nil, fun i hi => absurd hi (by simp), fun i j _ hj => absurd hj (by simp)⟩
end
theorem Rd.row {w : World} {B : Nat} {A : Option Addr} {l : List Nat} (h : Rd w B 1 rowCells A l) {i : Nat} (hi : i < l.length) : ∃ b off, A = some ⟨b, off, none⟩ ∧ b < B ∧ w.cell? ⟨b, off + i, none⟩ = some (rowV (nth l i)) := by
  obtain ⟨b, off, e, hlt, hc⟩ := h i hi
  exact ⟨b, off, e, hlt, by simpa using hc 0 _ rfl⟩
theorem eqIntS_two (p : Int × Int) (A B : Option Addr) (w : World) (hr : Rd w w.heap.size 1 intCells A (pl p)) (hr' : Rd w w.heap.size 1 intCells B (pl p)) :
    Calls Try.prog 27 #[.slice A 2 2, .slice B 2 2] w fun e w' => e = .returned (.bool true) ∧ Below w.heap.size w w' :=
  eqIntS_same (pl p) A B 2 2 w (by simp [pl]) hr hr'
theorem eqIntSS_same (l : List (Int × Int)) (A B : Option Addr) (cap cap' : Nat) (w : World) (hl : l.length ≤ 1048576) (hr : RdS w w.heap.size A l) (hr' : RdS w w.heap.size B l) :
    Calls Try.prog 33 #[.slice A l.length cap, .slice B l.length cap'] w fun e w' => e = .returned (.bool true) ∧ Below w.heap.size w w' := by
  obtain ⟨gs, h1, h2, h3⟩ := hr
  obtain ⟨gs', h1', h2', h3'⟩ := hr'
  have H3 := Lib.hid h3
  have H3' := Lib.hid h3'
  clear h3 h3'
  have hb : ((l.length : Int) != l.length) = false := by simp
  go_enter Try.func33, Try.ntmps33
  go_wp2_with fail
  go_loopw [5] (fun i wr => ∃ k : Nat, k ≤ l.length ∧ i = .int .i64 k ∧ Below w.heap.size w wr) (fun i _ => l.length - (intOf i).toNat)
  case atStart => exact ⟨0, Nat.zero_le _, rfl, Below.refl _ _⟩
  case round =>
    obtain ⟨k, hk, rfl, hbel⟩ := hrel
    have HB := Lib.hid hbel
    by_cases hlt : k < l.length
    · obtain ⟨b, off, rfl, hb1, hc1⟩ := (h2.below hbel (Nat.le_refl _)).row (show k < gs.length by omega)
      obtain ⟨b', off', rfl, hb2, hc2⟩ := (h2'.below hbel (Nat.le_refl _)).row (show k < gs'.length by omega)
      obtain ⟨r1, r2⟩ := H3.out k hlt
      obtain ⟨r1', r2'⟩ := H3'.out k hlt
      have q1 := Lib.hid (Rd.of_row (r2.below hbel r1) (fun _ => rfl) (show nth gs k < wr.heap.size by have := hbel.size; omega))
      have q2 := Lib.hid (Rd.of_row (r2'.below hbel r1') (fun _ => rfl) (show nth gs' k < wr.heap.size by have := hbel.size; omega))
      have z1 := hbel.size
      have l1 : b < wr.heap.size := by omega
      have l2 : b' < wr.heap.size := by omega
      have i1 : (0 : Int) ≤ (k : Int) := by omega
      have i2 : (k : Int) < l.length := by omega
      clear hbel r2 r2'
      unfold rowV at hc1 hc2
      go_wp2_with fail
      refine wp_region_mem (by kernel_rfl) (by kernel_rfl) ?_
      repeat (go_big_quiet_step ((go_at_call 27; exact mem_of (eqIntS_two (nth l k) _ _ _ ((q1.out.below (WIn.ok _) (Nat.le_refl _)).mono (WIn.ok _).size) ((q2.out.below (WIn.ok _) (Nat.le_refl _)).mono (WIn.ok _).size)))))
      refine wpQuiet_nil ?_
      intro _ hw'
      obtain ⟨⟨wq, hbq⟩, hw''⟩ := hw'
      obtain rfl := hw''.symm
      obtain ⟨hcq, hfq, hzq⟩ := bcell hbq
      try simp [Nat.add_one_le_iff] at hzq
      go_wp2_with fail
      go_roundw
      case rel => exact ⟨k + 1, by omega, by go_num, HB.out.trans (hbq.mono z1)⟩
      case measure => simp [intOf]; omega
    · clear hbel
      obtain rfl : k = l.length := by omega
      go_wp2_with fail
      go_ret
      exact ⟨rfl, HB.out⟩

/-- One row is marked: no other block that was there turns. -/
theorem markIntS_g (p : Int × Int) (g : Nat) (m : Int) (w : World) (h0 : 0 ≤ m) (h1 : m ≤ 100000000) (hf0 : Row w g 3 1 intCells (pl p)) :
    Calls Try.prog 29 #[.slice (some ⟨g, 0, none⟩) 2 2, .int .i64 m] w fun e w' => e = .returned (.int .i64 (m + 2)) ∧ Row w' g 3 1 intCells (pl (m, m + 1)) ∧ w.grownBy w' (some g) := by
  obtain ⟨f0, hf, _⟩ := hf0
  simp only [pl, List.length_cons, List.length_nil] at hf
  have HF0 := Lib.hid hf
  clear hf
  go_enter Try.func29, Try.ntmps29
  go_wp2_with fail
  go_loopw [1, 5] (fun s i wr => ∃ (k : Nat) (f : Nat → Value), k ≤ 2 ∧ i = .int .i64 k ∧ s = .int .i64 (m + k) ∧ wr.rowIs g 3 2 f ∧ (∀ j, j < k → f j = .int .i64 (m + j)) ∧ w.grownBy wr (some g)) (fun _ i _ => 2 - (intOf i).toNat)
  case atStart => exact ⟨0, f0, Nat.zero_le _, rfl, by simp, HF0.out, fun j hj => absurd hj (by omega), World.grownBy.refl _ _⟩
  case round =>
    obtain ⟨k, f, hk, rfl, rfl, hf, hall, hgr⟩ := hrel
    have HA := Lib.hid hall
    have HG := Lib.hid hgr
    have HF := Lib.hid hf
    clear hall hgr
    by_cases hlt : k < 2
    · have hc := hf.cell (show k < 2 by omega)
      have hz2 := hf.frozen k
      clear hf
      go_wp2_with fail
      go_roundw
      case rel => exact ⟨k + 1, _, by omega, by go_num, by go_num, HF.out.set k _, fun j hj => by
        by_cases e : j = k
        · rw [if_pos e, e]
        · rw [if_neg e]; exact HA.out j (by omega), grown_set HG.out⟩
      case measure => simp [intOf]; omega
    · obtain rfl : k = 2 := by omega
      clear hf
      go_wp2_with fail
      go_ret
      exact ⟨rfl, ⟨f, HF.out, fun i hi j v hj hv => by
        simp only [pl, List.length_cons, List.length_nil] at hi
        obtain rfl : j = 0 := by omega
        have e := HA.out i (by omega)
        rw [Nat.mul_one, Nat.add_zero, e]
        match i, hi, hv with
        | 0, _, hv => simpa [nth, pl, intCells] using hv
        | 1, _, hv => simpa [nth, pl, intCells] using hv⟩, HG.out⟩
/-- The numbers that a mark leaves. -/
def markS (m : Int) (n : Nat) : List (Int × Int) := (List.range n).map fun i : Nat => (m + 2 * (i : Int), m + 2 * (i : Int) + 1)
theorem markS_len (m : Int) (n : Nat) : (markS m n).length = n := by simp [markS]
theorem markS_nth {m : Int} {n i : Nat} (hi : i < n) : nth (markS m n) i = (m + 2 * i, m + 2 * i + 1) := by simp [nth, markS, hi]
theorem own_far {w w' : World} {base g : Nat} {A : Option Addr} {gs : List Nat} (h : Own w base 43 1 rowCells A gs) {n : Nat} {f : Nat → Value} (hr : w.rowIs g 3 n f) (hg : w.grownBy w' (some g)) : Own w' base 43 1 rowCells A gs := fun h0 => by
  obtain ⟨g', N, f', e, hg', hN, hf, hc⟩ := h h0
  refine ⟨g', N, f', e, hg', hN, hf.of_block (hg.block g' hf.lt (fun e => ?_)), hc⟩
  simp only [Option.some.injEq] at e
  subst e
  obtain ⟨c1, a1, _⟩ := hf
  obtain ⟨c2, a2, _⟩ := hr
  rw [a1] at a2
  simp at a2
theorem markIntSS_c (l : List (Int × Int)) (A : Option Addr) (cap : Nat) (m : Int) (base : Nat) (w : World) (hl : l.length ≤ 1048576) (h0 : 0 ≤ m) (h1 : m ≤ 10000000) (ho : Spans w base A l) (hbs : base ≤ w.heap.size) :
    Calls Try.prog 34 #[.slice A l.length cap, .int .i64 m] w fun e w' => e = .returned (.int .i64 (m + 2 * l.length)) ∧ Spans w' base A (markS m l.length) ∧ Below base w w' := by
  obtain ⟨gs, g1, g2, g3, g4⟩ := ho
  have G3 := Lib.hid g3
  have G4 := Lib.hid g4
  have G2 := Lib.hid g2
  clear g3 g4 g2
  go_enter Try.func34, Try.ntmps34
  go_wp2_with fail
  go_loopw [1, 5] (fun s i wr => ∃ k : Nat, k ≤ l.length ∧ i = .int .i64 k ∧ s = .int .i64 (m + 2 * k) ∧ Own wr base 43 1 rowCells A gs ∧ (∀ j, j < k → Row wr (nth gs j) 3 1 intCells (pl (m + 2 * j, m + 2 * j + 1))) ∧ (∀ j, k ≤ j → j < l.length → Row wr (nth gs j) 3 1 intCells (pl (nth l j))) ∧ Below base w wr) (fun _ i _ => l.length - (intOf i).toNat)
  case atStart => exact ⟨0, Nat.zero_le _, rfl, by simp, G2.out, fun j hj => absurd hj (by omega), fun j _ hj => (G3.out j hj).2, Below.refl _ _⟩
  case round =>
    obtain ⟨k, hk, rfl, rfl, how, hdone, hrest, hbel⟩ := hrel
    have HB := Lib.hid hbel
    have HO := Lib.hid how
    have HD := Lib.hid hdone
    have HR := Lib.hid hrest
    have z1 := hbel.size
    clear hdone hrest hbel
    by_cases hlt : k < l.length
    · obtain ⟨b, off, rfl, hb1, hc1⟩ := (how.rd (fun _ => rfl)).row (show k < gs.length by omega)
      clear how
      unfold rowV at hc1
      go_wp2_with fail
      refine (markIntS_g (nth l k) _ _ _ (by omega) (by omega) (HR.out k (Nat.le_refl _) hlt)).mono ?_
      rintro e w1 ⟨rfl, hrow, hgr⟩
      have HW := Lib.hid hrow
      have HG := Lib.hid hgr
      clear hrow hgr
      go_wp2_with fail
      go_roundw
      case rel => 
        obtain ⟨f9, hf9, _⟩ := HR.out k (Nat.le_refl _) hlt
        refine ⟨k + 1, by omega, by go_num, by go_num, own_far HO.out hf9 HG.out, fun j hj => ?_, fun j hj hj2 => ?_, HB.out.trans (grown_below HG.out (G3.out k hlt).1 (by omega))⟩
        · by_cases e : j = k
          · subst e; exact HW.out
          · have := G4.out j k (by omega) hlt
            exact (HD.out j (by omega)).grown HG.out (by omega)
        · have := G4.out k j (by omega) hj2
          exact (HR.out j (by omega) hj2).grown HG.out (by omega)
      case measure => simp [intOf]; omega
    · obtain rfl : k = l.length := by omega
      clear how
      go_wp2_with fail
      go_ret
      exact ⟨rfl, ⟨gs, by rw [markS_len, g1], HO.out, fun i hi => by
        rw [markS_len] at hi
        rw [markS_nth hi]
        exact ⟨(G3.out i hi).1, HD.out i hi⟩, fun i j hij hj => G4.out i j hij (by rwa [markS_len] at hj)⟩, HB.out⟩
theorem heldIntS_two (A : Option Addr) (a : Int) (w : World) (h0 : 0 ≤ a) (h1 : a ≤ 100000000) (hr : Rd w w.heap.size 1 intCells A (pl (a, a + 1))) :
    Calls Try.prog 30 #[.slice A 2 2, .int .i64 a] w fun e w' => e = .returned (.int .i64 (a + 2)) ∧ w = w' :=
  heldIntS_c 2 A 2 a w (by omega) h0 h1 (by rw [show markL a 2 = pl (a, a + 1) by simp [markL, pl, List.range_succ]]; exact hr)
theorem heldIntSS_c (n : Nat) (A : Option Addr) (cap : Nat) (m : Int) (w : World) (hl : n ≤ 1048576) (h0 : 0 ≤ m) (h1 : m ≤ 10000000) (hr : RdS w w.heap.size A (markS m n)) :
    Calls Try.prog 35 #[.slice A n cap, .int .i64 m] w fun e w' => e = .returned (.int .i64 (m + 2 * n)) ∧ w = w' := by
  obtain ⟨gs, g1, g2, g3⟩ := hr
  rw [markS_len] at g1 g3
  have G3 := Lib.hid g3
  clear g3
  go_enter Try.func35, Try.ntmps35
  go_wp2_with fail
  go_loop [1, 5] (fun s i => ∃ k : Nat, k ≤ n ∧ i = .int .i64 k ∧ s = .int .i64 (m + 2 * k)) (fun _ i => n - (intOf i).toNat)
  case atStart => exact ⟨0, Nat.zero_le _, rfl, by simp⟩
  case round =>
    obtain ⟨k, hk, rfl, rfl⟩ := hrel
    by_cases hlt : k < n
    · obtain ⟨b, off, rfl, hb, hc⟩ := g2.row (show k < gs.length by omega)
      obtain ⟨r1, r2⟩ := G3.out k hlt
      rw [markS_nth hlt] at r2
      have q1 := Lib.hid (Rd.of_row r2 (fun _ => rfl) r1)
      clear r2
      unfold rowV at hc
      go_wp2_with (go_at_call 30; refine (heldIntS_two _ _ _ (by omega) (by omega) q1.out).mono ?_; rintro e w' ⟨rfl, rfl⟩)
      go_round
      case rel => exact ⟨k + 1, by omega, by go_num, by go_num⟩
      case measure => simp [intOf]; omega
    · obtain rfl : k = n := by omega
      go_wp2_with fail
      go_ret
      exact ⟨rfl, rfl⟩
end Go.Proofs.Ytccdbdkpjcehjaa
