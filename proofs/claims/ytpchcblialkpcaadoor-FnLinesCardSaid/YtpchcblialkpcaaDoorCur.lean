/- The reference's cursor over a code: its next byte, a number below a bound, a yes once in n times, one of some numbers: what is drawn lies within bounds, and only the cursor's own block turns; no conditions but that the cursor has not gone very far. -/
import Derived.Test.YtpchcblialkpcaaDoorPush
import Derived.Test.YtpchcblialkpcaaDoorInts
import Derived.Test.YtpchcblialkpcaaDoorLaw
import Derived.Laws.BitsLemmas
import Derived.IntWalk
import Derived.Deep.QuietTactic
namespace Go.Proofs.YtpchcblialkpcaaDoor
open Go.RowKit Go.Joins Go.ChangeShapes Go.WideShapes Go.ChangeAt Go.Deep

/-- bytes: one cell an element. -/
def byteCells (x : Int) : List Value := [.int .u8 x]
def InBytes (w : World) (A : Option Addr) (n : Nat) (l : List Int) : Prop := n = l.length ∧ l.length ≤ maxLen ∧ Rd w w.heap.size 1 byteCells A l ∧ ∀ i, i < l.length → 0 ≤ nth l i ∧ nth l i ≤ 255
section
variable {H : Type} {enc : TypeId × Value → H} {P : Program} {w : World} {base : Nat} {spare : Nat → Bool} {held : Bool}
/-- A slice of bytes that came in reads as a list. -/
theorem open_byteS {t e : TypeId} {a : Option Addr} {len cap : Nat} {d : DataW H} {p : List MemPlace} (ht : P.underlying t = some (.slice e)) (he : P.underlying e = some (.int .u8)) (hc : P.cellsOf e = 1)
    (h : DataW.Trod enc P w base spare held t (.slice a len cap) d p) : ∃ l : List Int, InBytes w a len l := by
  obtain ⟨fuel, hf⟩ := h
  rcases open_ints ht he hc hf with ⟨hcs, _⟩ | ⟨x, l, c, zs, hcs, _, hl, hm, hz, _, hcell, hwf⟩
  · simp [Value.cells] at hcs
    obtain ⟨rfl, rfl, rfl⟩ := hcs
    exact ⟨[], rfl, by simp [maxLen], fun i hi => absurd hi (by simp), fun i hi => absurd hi (by simp)⟩
  · simp [Value.cells] at hcs
    obtain ⟨rfl, rfl, rfl⟩ := hcs
    have hln : len ≤ zs.length := by rw [hz]; split <;> omega
    have hnth : ∀ i, i < len → nth (zs.take len) i = zs.getD i 0 := fun i hi => by simp [nth, hi]
    refine ⟨zs.take len, by simp; omega, by simp; omega, fun i hi => ?_, fun i hi => ?_⟩
    · have hi' : i < len := by simp at hi; omega
      have h0 := hcell 0 (by omega)
      obtain ⟨hp, hlt⟩ := plain_addr (show w.cell? x = _ from h0)
      refine ⟨x.block, x.off, by rw [← hp], hlt, fun j v hv => ?_⟩
      match j, hv with
      | 0, hv =>
        simp only [byteCells, List.getElem?_cons_zero, Option.some.injEq] at hv
        subst hv
        have hc := hcell i (by omega)
        rw [hp] at hc
        rw [hnth i hi', ← hc]
        unfold Addr.add
        by_cases h0 : i = 0 <;> simp [h0]
    · have hi' : i < len := by simp at hi; omega
      rw [hnth i hi']
      have hm : zs.getD i 0 ∈ zs := by
        rw [List.getD_eq_getElem?_getD, List.getElem?_eq_getElem (by omega)]; exact List.getElem_mem _
      have := bounds_u8 (hwf _ hm)
      exact ⟨this.1, this.2⟩
end

/-- A cursor at block gc, that has read K bytes at most. -/
def Cur (w : World) (gc K : Nat) : Prop := ∃ (A : Option Addr) (cap : Nat) (l : List Int) (a : Nat) (s : Int), a ≤ K ∧ l.length ≤ maxLen ∧ (∀ i, i < l.length → 0 ≤ nth l i ∧ nth l i ≤ 255) ∧ Rd w gc 1 byteCells A l ∧
  Box w gc 51 3 [.slice A l.length cap, .int .i64 a, .int .u64 s]
/-- What a draw leaves: a number within bounds; only the cursor's block has turned. -/
def Drew (gc K : Nat) (lo hi : Int) (w : World) (e : Ending) (w' : World) : Prop := ∃ v : Int, e = .returned (.int .i64 v) ∧ lo ≤ v ∧ v ≤ hi ∧ Cur w' gc K ∧ w.grownBy w' (some gc)
def DrewB (gc K : Nat) (w : World) (e : Ending) (w' : World) : Prop := ∃ v : Bool, e = .returned (.bool v) ∧ Cur w' gc K ∧ w.grownBy w' (some gc)
theorem but_trans {a w w' : World} {g : Nat} (h : a.grownBy w (some g)) (k : w.grownBy w' (some g)) : a.grownBy w' (some g) :=
  ⟨k.os.trans h.os, k.tape.trans h.tape, k.output.trans h.output, Nat.le_trans h.size k.size, fun i hi hne => (k.block i (Nat.lt_of_lt_of_le hi h.size) hne).trans (h.block i hi hne)⟩
theorem but_below {a w w' : World} {g : Nat} (h : a.grownBy w (some g)) (k : Below a.heap.size w w') : a.grownBy w' (some g) :=
  ⟨k.os.trans h.os, k.tape.trans h.tape, k.output.trans h.output, Nat.le_trans h.size k.size, fun i hi hne => (k.block i hi).trans (h.block i hi hne)⟩
theorem but_alloc {a : World} {g : Nat} (o : Obj) : a.grownBy (a.alloc o) (some g) := but_below (World.grownBy.refl _ _) ((Below.refl _ _).alloc (Nat.le_refl _) o)
theorem Box.grown {w w' : World} {g g' k : Nat} {T : TypeId} {vs : List Value} (h : Box w g T k vs) (hg : w.grownBy w' (some g')) (hne : g ≠ g') : Box w' g T k vs := h.keep (hg.block g h.lt (by simpa using hne))
section
variable {w w' : World} {gc K K' B : Nat}
theorem Cur.lt (h : Cur w gc K) : gc < w.heap.size := by
  obtain ⟨_, _, _, _, _, _, _, _, _, hb⟩ := h
  exact hb.lt
theorem Cur.mono (h : Cur w gc K) (hK : K ≤ K') : Cur w gc K' := by
  obtain ⟨A, cap, l, a, s, h1, r⟩ := h
  exact ⟨A, cap, l, a, s, by omega, r⟩
theorem Cur.below (h : Cur w gc K) (hb : Below B w w') (hB : gc < B) : Cur w' gc K := by
  obtain ⟨A, cap, l, a, s, h1, h2, h3, h4, h5⟩ := h
  exact ⟨A, cap, l, a, s, h1, h2, h3, h4.below hb (by omega), h5.below hb hB⟩
theorem Cur.carry (h : Cur w gc K) (hb : Below w.heap.size w w') : Cur w' gc K := h.below hb h.lt
theorem Cur.alloc (h : Cur w gc K) (o : Obj) : Cur (w.alloc o) gc K := h.carry ((Below.refl _ _).alloc (Nat.le_refl _) o)
/-- The cursor of a Draw. -/
theorem Cur.new {l : List Int} {A : Option Addr} {cap : Nat} (hl : l.length ≤ maxLen) (hr : Rd w w.heap.size 1 byteCells A l) (hb : ∀ i, i < l.length → 0 ≤ nth l i ∧ nth l i ≤ 255) :
    Cur (w.alloc (.cells #[.slice A l.length cap, .int .i64 0, .int .u64 0] 51)) w.heap.size 0 :=
  ⟨A, cap, l, 0, 0, Nat.le_refl _, hl, hb, hr.below ((Below.refl _ _).alloc (Nat.le_refl _) _) (Nat.le_refl _), Box.new w [.slice A l.length cap, .int .i64 0, .int .u64 0] _⟩
end
theorem and255 (x : Int) : 0 ≤ bits .and .u64 x 255 ∧ bits .and .u64 x 255 ≤ 255 := by
  have h1 : bits .and .u64 x 255 = IntKind.u64.wrap ((BitVec.ofInt 64 x &&& BitVec.ofInt 64 255).toNat : Int) := rfl
  have h2 : (BitVec.ofInt 64 x &&& BitVec.ofInt 64 255).toNat ≤ 255 := by
    rw [BitVec.toNat_and]; exact Nat.and_le_right
  rw [h1, IntKind.wrap_u64]
  omega
theorem Cur.went {w : World} {gc K n m cap a : Nat} {A : Option Addr} {l : List Int} {s s' : Int} (ha : a ≤ K) (hl : l.length ≤ maxLen) (hb : ∀ i, i < l.length → 0 ≤ nth l i ∧ nth l i ≤ 255) (hr : Rd w gc 1 byteCells A l)
    (hbox : Box w gc 51 3 [.slice A l.length cap, .int .i64 a, .int .u64 s]) :
    Cur ((((w.drewN n).setCell ⟨gc, 1, none⟩ (.int .i64 ((a : Int) + 1))).setCell ⟨gc, 2, none⟩ (.int .u64 s')).drewN m) gc (K + 1) ∧
      w.grownBy ((((w.drewN n).setCell ⟨gc, 1, none⟩ (.int .i64 ((a : Int) + 1))).setCell ⟨gc, 2, none⟩ (.int .u64 s')).drewN m) (some gc) := by
  have g0 : w.grownBy (w.drewN n) (some gc) := ⟨rfl, rfl, rfl, Nat.le_refl _, fun _ _ _ => rfl⟩
  have g1 := grown_set (s := 2) (v := .int .u64 s') (grown_set (s := 1) (v := .int .i64 ((a : Int) + 1)) g0)
  have g2 : w.grownBy ((((w.drewN n).setCell ⟨gc, 1, none⟩ (.int .i64 ((a : Int) + 1))).setCell ⟨gc, 2, none⟩ (.int .u64 s')).drewN m) (some gc) := ⟨g1.os, g1.tape, g1.output, g1.size, g1.block⟩
  refine ⟨⟨A, cap, l, a + 1, s', by omega, hl, hb, hr.grown g2 (Nat.le_refl _) (Nat.le_of_lt hbox.lt), ?_⟩, g2⟩
  have b0 : Box (w.drewN n) gc 51 3 [.slice A l.length cap, .int .i64 a, .int .u64 s] := hbox.keep rfl
  have b1 := (b0.set 1 (.int .i64 ((a : Int) + 1))).set 2 (.int .u64 s')
  exact Box.keep b1 rfl
theorem and255w (x : Int) : 0 ≤ wrap64 (bits .and .u64 x 255) ∧ wrap64 (bits .and .u64 x 255) ≤ 255 := by
  obtain ⟨h1, h2⟩ := and255 x
  have e : wrap64 (bits .and .u64 x 255) = bits .and .u64 x 255 := by unfold wrap64; omega
  rw [e]; exact ⟨h1, h2⟩
set_option maxHeartbeats 1000000 in
theorem next_c (gc K : Nat) (w : World) (h : Cur w gc K) (hK : K ≤ 100000000) : Calls Tryd.prog 49 #[.pointer (some ⟨gc, 0, none⟩)] w (Drew gc (K + 1) 0 255 w) := by
  obtain ⟨A, cap, l, a, s, ha, hl, hby, hr, hbox⟩ := h
  have c0 := hbox.cell (j := 0) rfl
  have c1 := hbox.cell (j := 1) rfl
  have c2 := hbox.cell (j := 2) rfl
  have hz := hbox.frozen
  have hlt := hbox.lt
  have HL := Lib.hid hl
  unfold maxLen at hl
  have HBY := Lib.hid hby
  have HR := Lib.hid hr
  have HBOX := Lib.hid hbox
  have a1 : IntKind.i64.wrap ((a : Int) + 1) = (a : Int) + 1 := IntWalk.i64_in _ (by omega)
  clear hby hr hbox
  by_cases hal : a < l.length
  · obtain ⟨b, off, rfl, hb, hc⟩ := HR.out a hal
    have hc := hc 0 _ rfl
    obtain ⟨v1, v2⟩ := HBY.out a hal
    obtain ⟨v, hv⟩ : ∃ v, nth l a = v := ⟨_, rfl⟩
    rw [hv] at hc v1 v2
    simp only [Nat.mul_one, Nat.add_zero] at hc
    clear hv
    have hbg : b ≠ gc := by omega
    have hle : (a : Int) + 1 ≤ l.length := by omega
    go_enter Tryd.func49, Tryd.ntmps49
    go_wp2_with fail
    go_quiet (fail)
    go_wp2_with fail
    go_quiet (fail)
    go_wp2_with fail
    go_quiet (fail)
    go_wp2_with fail
    go_ret
    obtain ⟨e1, e2⟩ := Cur.went ha HL.out HBY.out HR.out HBOX.out
    exact ⟨v, rfl, v1, v2, e1, e2⟩
  · have hle : ¬ (a : Int) + 1 ≤ l.length := by omega
    have hle2 : ¬ (a : Int) < l.length := by omega
    go_enter Tryd.func49, Tryd.ntmps49
    go_wp2_with fail
    go_quiet (fail)
    go_wp2_with fail
    go_quiet (fail)
    go_wp2_with fail
    go_ret
    obtain ⟨e1, e2⟩ := Cur.went ha HL.out HBY.out HR.out HBOX.out
    exact ⟨_, rfl, (and255w _).1, (and255w _).2, e1, e2⟩
set_option maxHeartbeats 1000000 in
theorem pick_c (n : Int) (gc K : Nat) (w : World) (h : Cur w gc K) (hK : K ≤ 10000000) (h1 : 1 ≤ n) (h2 : n ≤ 100000000) : Calls Tryd.prog 40 #[.pointer (some ⟨gc, 0, none⟩), .int .i64 n] w (Drew gc (K + 2) 0 (n - 1) w) := by
  have HC := Lib.hid h
  clear h
  by_cases hn : n ≤ 1
  · go_enter Tryd.func40, Tryd.ntmps40
    go_wp2_with fail
    go_ret
    exact ⟨0, rfl, Int.le_refl _, by omega, HC.out.mono (by omega), World.grownBy.refl _ _⟩
  by_cases hn2 : n ≤ 200
  · go_enter Tryd.func40, Tryd.ntmps40
    go_wp2_with fail
    refine (next_c gc K _ HC.out (by omega)).mono ?_
    rintro e w1 ⟨v, rfl, v1, v2, hc1, hg1⟩
    have H1 := Lib.hid hc1
    have G1 := Lib.hid hg1
    clear hc1 hg1
    have hm : 0 ≤ v % n ∧ v % n ≤ n - 1 := ⟨Int.emod_nonneg _ (by omega), by have := Int.emod_lt_of_pos v (show 0 < n by omega); omega⟩
    have M := Lib.hid hm
    clear hm
    go_wp2_with fail
    go_ret
    exact ⟨v % n, rfl, M.out.1, M.out.2, H1.out.mono (by omega), G1.out⟩
  · go_enter Tryd.func40, Tryd.ntmps40
    go_wp2_with fail
    refine (next_c gc K _ HC.out (by omega)).mono ?_
    rintro e w1 ⟨v, rfl, v1, v2, hc1, hg1⟩
    have H1 := Lib.hid hc1
    have G1 := Lib.hid hg1
    clear hc1 hg1
    go_wp2_with fail
    refine (next_c gc (K + 1) _ H1.out (by omega)).mono ?_
    rintro e w2 ⟨u, rfl, u1, u2, hc2, hg2⟩
    have H2 := Lib.hid hc2
    have G2 := Lib.hid hg2
    clear hc2 hg2
    have hm : 0 ≤ (v * 256 + u) % n ∧ (v * 256 + u) % n ≤ n - 1 := ⟨Int.emod_nonneg _ (by omega), by have := Int.emod_lt_of_pos (v * 256 + u) (show 0 < n by omega); omega⟩
    have M := Lib.hid hm
    clear hm
    go_wp2_with fail
    go_ret
    exact ⟨(v * 256 + u) % n, rfl, M.out.1, M.out.2, H2.out, but_trans G1.out G2.out⟩
theorem one_c (n : Int) (gc K : Nat) (w : World) (h : Cur w gc K) (hK : K ≤ 10000000) (h1 : 1 ≤ n) (h2 : n ≤ 100000000) : Calls Tryd.prog 29 #[.pointer (some ⟨gc, 0, none⟩), .int .i64 n] w (DrewB gc (K + 2) w) := by
  have HC := Lib.hid h
  clear h
  go_enter Tryd.func29, Tryd.ntmps29
  go_wp2_with fail
  refine (pick_c n gc K _ HC.out hK h1 h2).mono ?_
  rintro e w1 ⟨v, rfl, v1, v2, hc1, hg1⟩
  have H1 := Lib.hid hc1
  have G1 := Lib.hid hg1
  clear hc1 hg1
  go_wp2_with fail
  go_ret
  exact ⟨_, rfl, H1.out, G1.out⟩
theorem owns_grown {w w' : World} {base n k g : Nat} {T : TypeId} {v : Value} {xs : List Value} (h : w.ownsRow base T k v n xs) (hg : w.grownBy w' (some g)) (hb : g < base) : w'.ownsRow base T k v n xs :=
  h.kept (row := some g) hg (.inr fun e => by
    rcases h.2 with ⟨h, _⟩ | ⟨g', cap, cur, h, hg', _⟩
    · rw [h] at e; simp [Value.ownBlock] at e
    · rw [h] at e; simp only [Value.ownBlock, Option.some.injEq] at e; omega)
/-- Behind an append to a list of the call's own. -/
theorem push_end {w w6 w' : World} {gc K : Nat} (HB : w.grownBy w6 (some gc)) (HC : Cur w6 gc K) (hlt : gc < w.heap.size) (hb : Below w.heap.size w6 w') : Cur w' gc K ∧ w.grownBy w' (some gc) := ⟨HC.below hb hlt, but_below HB hb⟩
/-- One of some numbers of a block of its own. -/
theorem among_b (l : List Int) (lo hi : Int) (b cap : Nat) (gc K : Nat) (w : World) (h : Cur w gc K) (hK : K ≤ 10000000) (hb : b ≠ gc) (hlt : b < w.heap.size) (h0 : 0 < l.length) (h2 : l.length ≤ 10000000) (hl : ∀ i, i < l.length → lo ≤ nth l i ∧ nth l i ≤ hi)
    (hr : ∀ i, i < l.length → w.cell? ⟨b, i, none⟩ = some (.int .i64 (nth l i))) :
    Calls Tryd.prog 39 #[.pointer (some ⟨gc, 0, none⟩), .slice (some ⟨b, 0, none⟩) l.length cap] w (Drew gc (K + 2) lo hi w) := by
  have HC := Lib.hid h
  have HR := Lib.hid hr
  have HL := Lib.hid hl
  clear h hr hl
  have n1 : (1 : Int) ≤ l.length := by omega
  have n2 : (l.length : Int) ≤ 100000000 := by omega
  go_enter Tryd.func39, Tryd.ntmps39
  go_wp2_with fail
  refine (pick_c l.length gc K _ HC.out hK n1 n2).mono ?_
  rintro e w1 ⟨v, rfl, v1, v2, hc1, hg1⟩
  have H1 := Lib.hid hc1
  have G1 := Lib.hid hg1
  have q := (World.cell?_of_block (a := ⟨b, v.toNat, none⟩) (hg1.block b hlt (by simpa using hb))).trans (HR.out v.toNat (by omega))
  clear hc1 hg1
  obtain ⟨k, rfl⟩ : ∃ k : Nat, v = (k : Int) := ⟨v.toNat, by omega⟩
  simp only [Int.toNat_natCast] at q
  have i2 : (k : Int) < l.length := by omega
  obtain ⟨l1, l2⟩ := HL.out k (by omega)
  go_wp2_with fail
  go_ret
  exact ⟨_, rfl, l1, l2, H1.out, G1.out⟩
/-- One of some numbers of a literal. -/
theorem among_c (l : List Int) (lo hi : Int) (gc K n : Nat) (w : World) (cs : Array Value) (h : Cur w gc K) (hK : K ≤ 10000000) (hn : n = l.length) (hcs : cs = (l.map (Value.int .i64)).toArray) (h0 : 0 < l.length) (h2 : l.length ≤ 10000000) (hl : ∀ i, i < l.length → lo ≤ nth l i ∧ nth l i ≤ hi) :
    Calls Tryd.prog 39 #[.pointer (some ⟨gc, 0, none⟩), .slice (some ⟨w.heap.size, 0, none⟩) n n] (w.alloc (.cells cs 3)) (Drew gc (K + 2) lo hi w) := by
  subst hn hcs
  have hlt := h.lt
  refine (among_b l lo hi w.heap.size l.length gc K _ (h.alloc _) hK (by omega) (by simp) h0 h2 hl (fun i hi => ?_)).mono ?_
  · rw [cell_of_row _ _ i (l.map (Value.int .i64)).toArray 3 (0, 0) (heap_alloc_new w _)]
    simp [nth_eq hi, hi]
  · rintro e w' ⟨v, rfl, v1, v2, hc, hg⟩
    exact ⟨v, rfl, v1, v2, hc, but_trans (but_alloc _) hg⟩
/-- The same, the literal's block being spelled otherwise. -/
theorem among_n (l : List Int) (lo hi : Int) (gc K n b : Nat) (w : World) (cs : Array Value) (h : Cur w gc K) (hK : K ≤ 10000000) (hb : b = w.heap.size) (hn : n = l.length) (hcs : cs = (l.map (Value.int .i64)).toArray) (h0 : 0 < l.length) (h2 : l.length ≤ 10000000) (hl : ∀ i, i < l.length → lo ≤ nth l i ∧ nth l i ≤ hi) :
    Calls Tryd.prog 39 #[.pointer (some ⟨gc, 0, none⟩), .slice (some ⟨b, 0, none⟩) n n] (w.alloc (.cells cs 3)) (Drew gc (K + 2) lo hi w) := by
  subst hb
  exact among_c l lo hi gc K n w cs h hK hn hcs h0 h2 hl
/-- The same inside a region that draws its order. -/
theorem among_d (l : List Int) (lo hi : Int) (gc K n b : Nat) (w : World) (cs : Array Value) (h : Cur w gc K) (hK : K ≤ 10000000) (hb : b = w.heap.size) (hn : n = l.length) (hcs : cs = (l.map (Value.int .i64)).toArray) (h0 : 0 < l.length) (h2 : l.length ≤ 10000000) (hl : ∀ i, i < l.length → lo ≤ nth l i ∧ nth l i ≤ hi) :
    Calls Tryd.prog 39 #[.pointer (some ⟨gc, 0, none⟩), .slice (some ⟨b, 0, none⟩) n n] (w.alloc (.cells cs 3)).drew (Drew gc (K + 2) lo hi w) := by
  subst hb hn hcs
  have hlt := h.lt
  refine (among_b l lo hi w.heap.size l.length gc K _ ((h.alloc _).carry (Below.refl _ _).drew) hK (by omega) (by simp) h0 h2 hl (fun i hi => ?_)).mono ?_
  · have e : (w.alloc (.cells (l.map (Value.int .i64)).toArray 3)).drew.heap[w.heap.size]? = some (.cells (l.map (Value.int .i64)).toArray 3) := heap_alloc_new w _
    rw [cell_of_row _ _ i (l.map (Value.int .i64)).toArray 3 (0, 0) e]
    simp [nth_eq hi, hi]
  · rintro e w' ⟨v, rfl, v1, v2, hc, hg⟩
    exact ⟨v, rfl, v1, v2, hc, but_trans (but_below (World.grownBy.refl _ _) ((Below.refl _ _).alloc (Nat.le_refl _) _).drew) hg⟩
end Go.Proofs.YtpchcblialkpcaaDoor
