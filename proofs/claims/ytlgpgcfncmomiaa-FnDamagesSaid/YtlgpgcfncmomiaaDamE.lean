/- A damage that the reference draws; no conditions but that the cursor has not gone very far. -/
import Derived.Test.YtlgpgcfncmomiaaVee
import Derived.Test.YtlgpgcfncmomiaaDamD
import Derived.Test.YtlgpgcfncmomiaaDamVerdictS
import Derived.Test.YtlgpgcfncmomiaaRely
import Derived.Great.BuildSlice
import Derived.Deep.RegionWith
import Derived.Deep.RegionHeld3
import Derived.Deep.DeepCutAuto
namespace Go.Proofs.Ytlgpgcfncmomiaa
open Go.RowKit

def NearW (d : Dam) : Prop := -1000000 ≤ d.w ∧ d.w ≤ 1000000
def DamD (gc K : Nat) (w : World) (e : Ending) (w' : World) : Prop := ∃ d : Dam, e = .returned (.agg #[.int .i64 d.a, .int .i64 d.s, .int .i64 d.w]) ∧ NearW d ∧ Cur w' gc K ∧ w.grownBy w' (some gc)
theorem heap_new2 (W : World) (o : Obj) {g : Nat} (h : g = W.heap.size) : (W.alloc o).heap[g]? = some o := by subst h; exact heap_alloc_new W o
theorem heap_up {W : World} {o x : Obj} {g : Nat} (h : W.heap[g]? = some x) : (W.alloc o).heap[g]? = some x := (heap_alloc_old W o (lt_of_block h)).trans h
theorem heap_dr {W : World} {x : Obj} {g : Nat} (h : W.heap[g]? = some x) : W.drew.heap[g]? = some x := h
theorem heap_gr {W W' : World} {x : Obj} {g gc : Nat} (hg : W.grownBy W' (some gc)) (hne : g ≠ gc) (h : W.heap[g]? = some x) : W'.heap[g]? = some x := (hg.block g (lt_of_block h) (by simpa using hne)).trans h
theorem bind_ {P Q : Prop} (h : P) (k : P → Q) : Q := k h
theorem Box.of_heap {W : World} {g : Nat} {T : TypeId} {vs : List Value} (h : W.heap[g]? = some (.cells vs.toArray T (0, 0))) : Box W g T vs.length vs := by
  refine ⟨rfl, fun i => vs.getD i undef, ⟨vs.toArray, h, by simp, fun i hi => ?_⟩, fun j v hv => by simp [hv]⟩
  have hi' : i < vs.length := by simpa using hi
  simp [hi']
/-- A literal slice of ints. -/
theorem oper_lit {o : Oper} {a : Act} {w : World} {K : Act → World → Prop} {Q : Exit → Act → World → Prop} (len : Nat) (parts : Array (Nat × Operand)) (zs : List Int) (cells : Array Value) (ho : o.op = .buildSlice 63 len parts) (hlen : len = zs.length) (hsmall : len ≤ 1000) (hpos : 0 < len)
    (hparts : parts.toList = (zs.zipIdx 0).map fun x => (x.2, Operand.const (Value.int .i64 x.1))) (hc : cells = (zs.map (Value.int .i64)).toArray)
    (h : K (a.put o.dst (.slice (some ⟨w.heap.size, 0, none⟩) len len)) (w.alloc (.cells cells 3))) : o.wp Try.prog a w K Q := by
  obtain ⟨i, hi, hzz⟩ := Option.map_eq_some_iff.1 info_int
  simp only [Prod.mk.injEq] at hzz
  obtain ⟨hz, hs, hb⟩ := hzz
  subst hc
  refine wp_buildSlice 63 3 len parts ho _ i (.int .i64 0) Try.underlying63 hi hz (by rw [hs]; omega) (by rw [hs]; omega) ?_ h
  rw [parts_eval a parts .i64 zs hparts, hs]
  exact Great.fill_flat _ _ (fun v hv => by obtain ⟨n, _, rfl⟩ := List.mem_map.1 hv; rfl) (by simp [hlen])
/-- One of some numbers of a literal, which may lie anywhere. -/
theorem among_g (l : List Int) (lo hi : Int) (gc K n b : Nat) (w : World) (cs : Array Value) (h : Cur w gc K) (hK : K ≤ 10000000) (hb : b ≠ gc) (hh : w.heap[b]? = some (.cells cs 3 (0, 0))) (hn : n = l.length) (hcs : cs = (l.map (Value.int .i64)).toArray) (h0 : 0 < l.length) (h2 : l.length ≤ 10000000) (hl : ∀ i, i < l.length → lo ≤ nth l i ∧ nth l i ≤ hi) :
    Calls Try.prog 35 #[.pointer (some ⟨gc, 0, none⟩), .slice (some ⟨b, 0, none⟩) n n] w (Drew gc (K + 2) lo hi w) := by
  subst hn hcs
  refine among_b l lo hi b l.length gc K _ h hK hb (lt_of_block hh) h0 h2 hl (fun i hi => ?_)
  rw [cell_of_row _ _ i (l.map (Value.int .i64)).toArray 3 (0, 0) hh]
  simp [nth_eq hi, hi]
theorem two_bd {k : Int} (h1 : -10000 ≤ k) (h2 : k ≤ 1000) : ∀ i, i < [-1, k].length → -10000 ≤ nth [-1, k] i ∧ nth [-1, k] i ≤ 3001 := fun i hi => by
  match i, hi with
  | 0, _ => simp [nth]
  | 1, _ => simp [nth]; omega
theorem four_bd {k : Int} (h1 : -10000 ≤ k) (h2 : k ≤ 10000) : ∀ i, i < [0, -1, k, k + 1].length → -10000 ≤ nth [0, -1, k, k + 1] i ∧ nth [0, -1, k, k + 1] i ≤ 10001 := fun i hi => by
  match i, hi with
  | 0, _ => simp [nth]
  | 1, _ => simp [nth]
  | 2, _ => simp [nth]; omega
  | 3, _ => simp [nth]; omega
def DamAt (w : World) (gc K : Nat) (k : Kin) (s : Value) (wx : World) : Prop := ∃ (g : Nat) (x : Dam), s = .pointer (some ⟨g, 0, none⟩) ∧ (-1000 ≤ x.w ∧ x.w ≤ 1000) ∧ Box wx g 28 3 x.cells ∧ w.heap.size + 1 < g ∧ Box wx w.heap.size 25 5 k.cells ∧ Box wx (w.heap.size + 1) 28 3 [.int .i64 0, .int .i64 0, .int .i64 0] ∧ Cur wx gc (K + 6) ∧ w.grownBy wx (some gc)
def DamBox (B gc : Nat) (w : World) (g : Nat) : Prop := B ≤ g ∧ g ≠ gc ∧ ∃ d : Dam, (-1000 ≤ d.w ∧ d.w ≤ 1000) ∧ Box w g 28 3 d.cells
def LitAt (w : World) (gc b : Nat) (cs : Array Value) : Prop := b ≠ gc ∧ w.heap[b]? = some (.cells cs 3 (0, 0))
def dmgV (gc kb B : Nat) (k : Kin) (i : Nat) (v : Value) (w : World) : Prop :=
  if i = 0 ∨ i = 3 ∨ i = 8 then v = .pointer (some ⟨gc, 0, none⟩)
  else if i = 1 then ∃ b, v = .slice (some ⟨b, 0, none⟩) 8 8 ∧ LitAt w gc b #[.int .i64 0, .int .i64 5, .int .i64 9, .int .i64 10, .int .i64 14, .int .i64 60, .int .i64 103, .int .i64 3000]
  else if i = 2 ∨ i = 7 then ∃ x : Int, v = .int .i64 x
  else if i = 4 then v = .pointer (some ⟨kb, 1, none⟩)
  else if i = 5 then v = .int .i64 k.st
  else if i = 6 then v = .int .i64 (max 1 k.st)
  else if i = 9 then ∃ b, v = .slice (some ⟨b, 0, none⟩) 5 5 ∧ LitAt w gc b #[.int .i64 1, .int .i64 1, .int .i64 2, .int .i64 3, .int .i64 4]
  else if i = 10 then ∃ x : Int, v = .int .i64 x ∧ 1 ≤ x ∧ x ≤ 4
  else if i = 11 then ∃ d : Dam, v = .agg #[.int .i64 d.a, .int .i64 d.s, .int .i64 d.w] ∧ -1000 ≤ d.w ∧ d.w ≤ 1000
  else if i = 12 then ∃ g, v = .pointer (some ⟨g, 0, none⟩) ∧ DamBox B gc w g
  else True
def dmgR (gc B : Nat) (w w' : World) : Prop := (∀ b cs, LitAt w gc b cs → LitAt w' gc b cs) ∧ ∀ g, DamBox B gc w g → DamBox B gc w' g
def cntD (L : Array Bool) : Nat := (if L.getD 2 false = true then 1 else 0) + (if L.getD 7 false = true then 1 else 0) + (if L.getD 10 false = true then 1 else 0)
def dmgJ (w2 : World) (gc K : Nat) (L : Array Bool) (w : World) : Prop := Cur w gc (K + 2 * cntD L) ∧ w2.grownBy w (some gc)
theorem dmgV_keep {gc kb B : Nat} {k : Kin} {i : Nat} {v : Value} {w w' : World} (h : dmgV gc kb B k i v w) (hr : dmgR gc B w w') : dmgV gc kb B k i v w' := by
  unfold dmgV at *
  split at h
  · next c => rw [if_pos c]; exact h
  next c0 =>
  rw [if_neg c0]
  split at h
  · next c => rw [if_pos c]; obtain ⟨b, e, hl⟩ := h; exact ⟨b, e, hr.1 _ _ hl⟩
  next c1 =>
  rw [if_neg c1]
  split at h
  · next c => rw [if_pos c]; exact h
  next c2 =>
  rw [if_neg c2]
  split at h
  · next c => rw [if_pos c]; exact h
  next c3 =>
  rw [if_neg c3]
  split at h
  · next c => rw [if_pos c]; exact h
  next c4 =>
  rw [if_neg c4]
  split at h
  · next c => rw [if_pos c]; exact h
  next c5 =>
  rw [if_neg c5]
  split at h
  · next c => rw [if_pos c]; obtain ⟨b, e, hl⟩ := h; exact ⟨b, e, hr.1 _ _ hl⟩
  next c6 =>
  rw [if_neg c6]
  split at h
  · next c => rw [if_pos c]; exact h
  next c7 =>
  rw [if_neg c7]
  split at h
  · next c => rw [if_pos c]; exact h
  next c8 =>
  rw [if_neg c8]
  split at h
  · next c => rw [if_pos c]; obtain ⟨g, e, hl⟩ := h; exact ⟨g, e, hr.2 _ hl⟩
  next c9 => rw [if_neg c9]; trivial
theorem dmgR_grown {gc B : Nat} {w w' : World} (h : w.grownBy w' (some gc)) : dmgR gc B w w' :=
  ⟨fun b cs ⟨h1, h2⟩ => ⟨h1, (h.block b (lt_of_block h2) (by simpa using h1)).trans h2⟩, fun g ⟨h1, h2, d, h3, h4⟩ => ⟨h1, h2, d, h3, h4.grown h h2⟩⟩
theorem cntD_set {L : Array Bool} {i : Nat} (hi : L.getD i true = false) (hs : L.size = 14) (hlt : i < 14) : cntD (L.setIfInBounds i true) = cntD L + (if i = 2 ∨ i = 7 ∨ i = 10 then 1 else 0) := by
  have hf : L.getD i false = false := by simp [hs, hlt] at hi ⊢; exact hi
  have ht : (L.setIfInBounds i true).getD i false = true := by simp [hs, hlt]
  unfold cntD
  by_cases h2 : i = 2
  · subst h2; rw [ht, hf, getD_set_ne false (by omega), getD_set_ne false (by omega)]; simp; omega
  by_cases h7 : i = 7
  · subst h7; rw [ht, hf, getD_set_ne false (by omega), getD_set_ne false (by omega)]; simp; omega
  by_cases h10 : i = 10
  · subst h10; rw [ht, hf, getD_set_ne false (by omega), getD_set_ne false (by omega)]; simp
  · rw [getD_set_ne false h2, getD_set_ne false h7, getD_set_ne false h10]; simp [h2, h7, h10]
section
variable {gc kb B : Nat} {k : Kin} {v : Value} {w : World}
theorem dmgV_1 (h : ∃ b, v = .slice (some ⟨b, 0, none⟩) 8 8 ∧ LitAt w gc b #[.int .i64 0, .int .i64 5, .int .i64 9, .int .i64 10, .int .i64 14, .int .i64 60, .int .i64 103, .int .i64 3000]) : dmgV gc kb B k 1 v w := by
  unfold dmgV; rw [if_neg (by decide), if_pos rfl]; exact h
theorem dmgV_9 (h : ∃ b, v = .slice (some ⟨b, 0, none⟩) 5 5 ∧ LitAt w gc b #[.int .i64 1, .int .i64 1, .int .i64 2, .int .i64 3, .int .i64 4]) : dmgV gc kb B k 9 v w := by
  unfold dmgV; rw [if_neg (by decide), if_neg (by decide), if_neg (by decide), if_neg (by decide), if_neg (by decide), if_neg (by decide), if_pos rfl]; exact h
theorem dmgV_11 (h : ∃ d : Dam, v = .agg #[.int .i64 d.a, .int .i64 d.s, .int .i64 d.w] ∧ -1000 ≤ d.w ∧ d.w ≤ 1000) : dmgV gc kb B k 11 v w := by
  unfold dmgV; rw [if_neg (by decide), if_neg (by decide), if_neg (by decide), if_neg (by decide), if_neg (by decide), if_neg (by decide), if_neg (by decide), if_neg (by decide), if_pos rfl]; exact h
theorem dmgV_12 (h : ∃ g, v = .pointer (some ⟨g, 0, none⟩) ∧ DamBox B gc w g) : dmgV gc kb B k 12 v w := by
  unfold dmgV; rw [if_neg (by decide), if_neg (by decide), if_neg (by decide), if_neg (by decide), if_neg (by decide), if_neg (by decide), if_neg (by decide), if_neg (by decide), if_neg (by decide), if_pos rfl]; exact h
theorem dmgV_of12 (h : dmgV gc kb B k 12 v w) : ∃ g, v = .pointer (some ⟨g, 0, none⟩) ∧ DamBox B gc w g := by
  unfold dmgV at h; rwa [if_neg (by decide), if_neg (by decide), if_neg (by decide), if_neg (by decide), if_neg (by decide), if_neg (by decide), if_neg (by decide), if_neg (by decide), if_neg (by decide), if_pos rfl] at h
end
theorem cntD_le (L : Array Bool) : cntD L ≤ 3 := by unfold cntD; split <;> split <;> split <;> omega
section
variable {w2 w w' : World} {gc K i : Nat} {L : Array Bool}
theorem dmgJ_put (hl : L.getD i true = false) (hs : L.size = 14) (hlt : i < 14) (hn : ¬ (i = 2 ∨ i = 7 ∨ i = 10)) (h : dmgJ w2 gc K L w) : dmgJ w2 gc K (L.setIfInBounds i true) w := by
  unfold dmgJ; rw [cntD_set hl hs hlt, if_neg hn]; exact h
theorem dmgJ_below (hl : L.getD i true = false) (hs : L.size = 14) (hlt : i < 14) (hn : ¬ (i = 2 ∨ i = 7 ∨ i = 10)) (h : dmgJ w2 gc K L w) (hb : Below w2.heap.size w w') (hg : gc < w2.heap.size) : dmgJ w2 gc K (L.setIfInBounds i true) w' :=
  dmgJ_put hl hs hlt hn ⟨h.1.below hb hg, but_below h.2 hb⟩
theorem dmgJ_drew (hl : L.getD i true = false) (hs : L.size = 14) (hlt : i < 14) (hn : i = 2 ∨ i = 7 ∨ i = 10) (h : dmgJ w2 gc K L w) (hc : Cur w' gc (K + 2 * cntD L + 2)) (hg : w.grownBy w' (some gc)) : dmgJ w2 gc K (L.setIfInBounds i true) w' := by
  unfold dmgJ; rw [cntD_set hl hs hlt, if_pos hn]; exact ⟨hc.mono (by omega), but_trans h.2 hg⟩
end
theorem dmgR_store {gc B g : Nat} {w : World} {d : Dam} (h : DamBox B gc w g) (hd : -1000 ≤ d.w ∧ d.w ≤ 1000) : dmgR gc B w (((w.setCell ⟨g, 0, none⟩ (.int .i64 d.a)).setCell ⟨g, 1, none⟩ (.int .i64 d.s)).setCell ⟨g, 2, none⟩ (.int .i64 d.w)) := by
  obtain ⟨h1, h2, d0, _, hx⟩ := h
  refine ⟨fun b cs ⟨hb, hh⟩ => ⟨hb, ?_⟩, fun g' ⟨k1, k2, d', k3, k4⟩ => ⟨k1, k2, ?_⟩⟩
  · have hne : b ≠ g := fun e => by
      subst e
      obtain ⟨_, f, ⟨cur, hc, _⟩, _⟩ := hx
      rw [hc] at hh; simp at hh
    exact (((Below.heap_setCell _ ⟨g, 2, none⟩ _ b hne).trans (Below.heap_setCell _ ⟨g, 1, none⟩ _ b hne)).trans (Below.heap_setCell _ ⟨g, 0, none⟩ _ b hne)).trans hh
  · by_cases e : g' = g
    · subst e
      exact ⟨d, hd, ((hx.set 0 _).set 1 _).set 2 _⟩
    · exact ⟨d', k3, ((k4.far e _).far e _).far e _⟩
set_option maxRecDepth 100000 in
set_option maxHeartbeats 16000000 in
theorem damage_c (k : Kin) (gc K : Nat) (w : World) (h : Cur w gc K) (hK : K ≤ 100000) (hk : NearK k) : Calls Try.prog 21 #[.pointer (some ⟨gc, 0, none⟩), .agg #[.int .i64 k.i, .int .i64 k.st, .int .i64 k.wi, .int .i64 k.we, .int .i64 k.sg]] w (DamD gc (K + 20) w) := by
  have HC := Lib.hid h
  have HLT := Lib.hid h.lt
  have g0 := h.lt
  obtain ⟨⟨s1, s2⟩, t1, t2⟩ := hk
  have HR := Lib.hid ((Box.new w k.cells 25).alloc (.cells #[.int .i64 0, .int .i64 0, .int .i64 0] 28))
  have hz := Box.new (w.alloc (.cells k.cells.toArray 25)) [.int .i64 0, .int .i64 0, .int .i64 0] 28
  rw [World.size_alloc] at hz
  have HZ := Lib.hid hz
  have HC2 := Lib.hid ((HC.out.alloc (.cells k.cells.toArray 25)).alloc (.cells #[.int .i64 0, .int .i64 0, .int .i64 0] 28))
  have HB2 := Lib.hid (but_trans (but_alloc (g := gc) (.cells k.cells.toArray 25)) (but_alloc (a := w.alloc (.cells k.cells.toArray 25)) (.cells #[.int .i64 0, .int .i64 0, .int .i64 0] 28)))
  clear h hz
  go_enter Try.func21, Try.ntmps21
  go_wp2_with fail
  obtain ⟨w2, hw2⟩ : ∃ w2, (w.alloc (.cells k.cells.toArray 25)).alloc (.cells #[.int .i64 0, .int .i64 0, .int .i64 0] 28) = w2 := ⟨_, rfl⟩
  have hw2' := hw2
  have z2 : w2.heap.size = w.heap.size + 2 := by rw [← hw2]; simp
  simp only [Kin.cells] at hw2'
  rw [hw2'] 
  rw [hw2] at HR HZ HC2 HB2
  clear hw2 hw2'
  have lr := HR.out.lt
  have m1 : 1 ≤ max 1 k.st := by omega
  have m2 : max 1 k.st ≤ 1000 := by omega
  have hgw : ¬ w.heap.size = gc := by omega
  have Z2 := Lib.hid z2
  clear z2
  have lr2 : w.heap.size + 1 < w2.heap.size := by have := Z2.out; omega
  go_cut [5] (fun s wx => DamAt w gc K k s wx)
  case first => as_aux_lemma =>
    rename_i K1 h1
    have HR := Lib.hid (show Box w2 w.heap.size 25 5 k.cells from HR.out)
    have HZ := Lib.hid (show Box w2 (w.heap.size + 1) 28 3 [.int .i64 0, .int .i64 0, .int .i64 0] from HZ.out)
    refine wp_region_rely (dmgV gc w.heap.size w2.heap.size k) (dmgJ w2 gc K) (dmgR gc w2.heap.size) (by kernel_rfl) (by kernel_rfl) ?_ (fun i v w w' h hr => dmgV_keep h hr) ?_ ?_
    · exact ⟨HC2.out.carry (Below.refl _ _).drew, but_below (World.grownBy.refl _ _) (Below.refl _ _).drew⟩
    · have gB : gc < w2.heap.size := by omega
      refine ⟨?_, ?_, ?_, ?_, ?_, ?_, ?_, ?_, ?_, ?_, ?_, ?_, ?_, ?_, trivial⟩
      · intro L a w' hs hl hj hf hd KK hK
        have HJ := Lib.hid hj
        have e0 : a.tmps[0]?.getD undef = .pointer (some ⟨gc, 0, none⟩) := by simpa [Act.eval] using hf 0 (unwritten_of (by kernel_rfl))
        clear hf hd hj
        go_simp
        exact hK _ _ (by simp [dmgV]) (dmgJ_put hl hs (by decide) (by decide) HJ.out) (dmgR_grown (World.grownBy.refl _ _))
      · intro L a w' hs hl hj hf hd KK hK
        have HJ := Lib.hid hj
        clear hf hd hj
        have hne : w'.heap.size ≠ gc := by have := HJ.out.1.lt; omega
        refine oper_lit 8 _ [0, 5, 9, 10, 14, 60, 103, 3000] #[.int .i64 0, .int .i64 5, .int .i64 9, .int .i64 10, .int .i64 14, .int .i64 60, .int .i64 103, .int .i64 3000] rfl rfl (by decide) (by decide) rfl rfl ?_
        exact hK _ _ (dmgV_1 ⟨w'.heap.size, rfl, hne, heap_alloc_new w' _⟩) (dmgJ_below hl hs (by decide) (by decide) HJ.out ((Below.refl _ w').alloc HJ.out.2.size _) gB) (dmgR_grown (but_alloc _))
      · intro L a w' hs hl hj hf hd KK hK
        have HJ := Lib.hid hj
        have e6 : dmgV gc w.heap.size w2.heap.size k 0 (a.tmps[6]?.getD undef) w' := by simpa [Act.eval] using rely_dep hd 0 6 (by kernel_rfl) (by kernel_rfl)
        simp [dmgV] at e6
        have e7 : dmgV gc w.heap.size w2.heap.size k 1 (a.tmps[7]?.getD undef) w' := by simpa [Act.eval] using rely_dep hd 1 7 (by kernel_rfl) (by kernel_rfl)
        simp [dmgV] at e7
        obtain ⟨b, e7, hb, hh⟩ := e7
        clear hf hd hj
        have hcn := cntD_le L
        go_simp
        refine (among_g [0, 5, 9, 10, 14, 60, 103, 3000] 0 3000 gc (K + 2 * cntD L) _ _ _ #[.int .i64 0, .int .i64 5, .int .i64 9, .int .i64 10, .int .i64 14, .int .i64 60, .int .i64 103, .int .i64 3000] HJ.out.1 (by omega) hb hh rfl rfl (by decide) (by decide) (by decide)).mono ?_
        rintro e wx ⟨x, rfl, x1, x2, hc, hg⟩
        exact hK _ _ (by simp [dmgV]) (dmgJ_drew hl hs (by decide) (by decide) HJ.out hc hg) (dmgR_grown hg)
      · intro L a w' hs hl hj hf hd KK hK
        have HJ := Lib.hid hj
        have e0 : a.tmps[0]?.getD undef = .pointer (some ⟨gc, 0, none⟩) := by simpa [Act.eval] using hf 0 (unwritten_of (by kernel_rfl))
        clear hf hd hj
        go_simp
        exact hK _ _ (by simp [dmgV]) (dmgJ_put hl hs (by decide) (by decide) HJ.out) (dmgR_grown (World.grownBy.refl _ _))
      · intro L a w' hs hl hj hf hd KK hK
        have HJ := Lib.hid hj
        have e3 : a.tmps[3]?.getD undef = .pointer (some ⟨w.heap.size, 0, none⟩) := by simpa [Act.eval] using hf 3 (unwritten_of (by kernel_rfl))
        clear hf hd hj
        go_simp
        exact hK _ _ (by simp [dmgV]) (dmgJ_put hl hs (by decide) (by decide) HJ.out) (dmgR_grown (World.grownBy.refl _ _))
      · intro L a w' hs hl hj hf hd KK hK
        have HJ := Lib.hid hj
        have e10 : dmgV gc w.heap.size w2.heap.size k 4 (a.tmps[10]?.getD undef) w' := by simpa [Act.eval] using rely_dep hd 4 10 (by kernel_rfl) (by kernel_rfl)
        simp [dmgV] at e10
        have q := (HR.out.grown hj.2 hgw).cell (j := 1) rfl
        clear hf hd hj
        go_simp
        exact hK _ _ (by simp [dmgV]) (dmgJ_put hl hs (by decide) (by decide) HJ.out) (dmgR_grown (World.grownBy.refl _ _))
      · intro L a w' hs hl hj hf hd KK hK
        have HJ := Lib.hid hj
        have e11 : dmgV gc w.heap.size w2.heap.size k 5 (a.tmps[11]?.getD undef) w' := by simpa [Act.eval] using rely_dep hd 5 11 (by kernel_rfl) (by kernel_rfl)
        simp [dmgV] at e11
        clear hf hd hj
        go_simp
        refine (l1Most_c 1 k.st _).mono ?_
        rintro e wx ⟨rfl, rfl⟩
        exact hK _ _ (by simp [dmgV]) (dmgJ_put hl hs (by decide) (by decide) HJ.out) (dmgR_grown (World.grownBy.refl _ _))
      · intro L a w' hs hl hj hf hd KK hK
        have HJ := Lib.hid hj
        have e9 : dmgV gc w.heap.size w2.heap.size k 3 (a.tmps[9]?.getD undef) w' := by simpa [Act.eval] using rely_dep hd 3 9 (by kernel_rfl) (by kernel_rfl)
        simp [dmgV] at e9
        have e12 : dmgV gc w.heap.size w2.heap.size k 6 (a.tmps[12]?.getD undef) w' := by simpa [Act.eval] using rely_dep hd 6 12 (by kernel_rfl) (by kernel_rfl)
        simp [dmgV] at e12
        clear hf hd hj
        have hcn := cntD_le L
        go_simp
        refine (pick_c (max 1 k.st) gc (K + 2 * cntD L) _ HJ.out.1 (by omega) m1 (by omega)).mono ?_
        rintro e wx ⟨x, rfl, x1, x2, hc, hg⟩
        exact hK _ _ (by simp [dmgV]) (dmgJ_drew hl hs (by decide) (by decide) HJ.out hc hg) (dmgR_grown hg)
      · intro L a w' hs hl hj hf hd KK hK
        have HJ := Lib.hid hj
        have e0 : a.tmps[0]?.getD undef = .pointer (some ⟨gc, 0, none⟩) := by simpa [Act.eval] using hf 0 (unwritten_of (by kernel_rfl))
        clear hf hd hj
        go_simp
        exact hK _ _ (by simp [dmgV]) (dmgJ_put hl hs (by decide) (by decide) HJ.out) (dmgR_grown (World.grownBy.refl _ _))
      · intro L a w' hs hl hj hf hd KK hK
        have HJ := Lib.hid hj
        clear hf hd hj
        have hne : w'.heap.size ≠ gc := by have := HJ.out.1.lt; omega
        refine oper_lit 5 _ [1, 1, 2, 3, 4] #[.int .i64 1, .int .i64 1, .int .i64 2, .int .i64 3, .int .i64 4] rfl rfl (by decide) (by decide) rfl rfl ?_
        exact hK _ _ (dmgV_9 ⟨w'.heap.size, rfl, hne, heap_alloc_new w' _⟩) (dmgJ_below hl hs (by decide) (by decide) HJ.out ((Below.refl _ w').alloc HJ.out.2.size _) gB) (dmgR_grown (but_alloc _))
      · intro L a w' hs hl hj hf hd KK hK
        have HJ := Lib.hid hj
        have e14 : dmgV gc w.heap.size w2.heap.size k 8 (a.tmps[14]?.getD undef) w' := by simpa [Act.eval] using rely_dep hd 8 14 (by kernel_rfl) (by kernel_rfl)
        simp [dmgV] at e14
        have e15 : dmgV gc w.heap.size w2.heap.size k 9 (a.tmps[15]?.getD undef) w' := by simpa [Act.eval] using rely_dep hd 9 15 (by kernel_rfl) (by kernel_rfl)
        simp [dmgV] at e15
        obtain ⟨b, e15, hb, hh⟩ := e15
        clear hf hd hj
        have hcn := cntD_le L
        go_simp
        refine (among_g [1, 1, 2, 3, 4] 1 4 gc (K + 2 * cntD L) _ _ _ #[.int .i64 1, .int .i64 1, .int .i64 2, .int .i64 3, .int .i64 4] HJ.out.1 (by omega) hb hh rfl rfl (by decide) (by decide) (by decide)).mono ?_
        rintro e wx ⟨x, rfl, x1, x2, hc, hg⟩
        exact hK _ _ (by simp [dmgV]; exact ⟨x1, x2⟩) (dmgJ_drew hl hs (by decide) (by decide) HJ.out hc hg) (dmgR_grown hg)
      · intro L a w' hs hl hj hf hd KK hK
        have HJ := Lib.hid hj
        have e8 : dmgV gc w.heap.size w2.heap.size k 2 (a.tmps[8]?.getD undef) w' := by simpa [Act.eval] using rely_dep hd 2 8 (by kernel_rfl) (by kernel_rfl)
        simp [dmgV] at e8
        have e13 : dmgV gc w.heap.size w2.heap.size k 7 (a.tmps[13]?.getD undef) w' := by simpa [Act.eval] using rely_dep hd 7 13 (by kernel_rfl) (by kernel_rfl)
        simp [dmgV] at e13
        have e16 : dmgV gc w.heap.size w2.heap.size k 10 (a.tmps[16]?.getD undef) w' := by simpa [Act.eval] using rely_dep hd 10 16 (by kernel_rfl) (by kernel_rfl)
        simp [dmgV] at e16
        obtain ⟨x, e8⟩ := e8
        obtain ⟨y, e13⟩ := e13
        obtain ⟨z, e16, z1, z2⟩ := e16
        clear hf hd hj
        go_simp
        exact hK _ _ (dmgV_11 ⟨⟨x, y, z⟩, rfl, by simp only; omega, by simp only; omega⟩) (dmgJ_put hl hs (by decide) (by decide) HJ.out) (dmgR_grown (World.grownBy.refl _ _))
      · intro L a w' hs hl hj hf hd KK hK
        have HJ := Lib.hid hj
        clear hf hd hj
        go_simp
        have hne : w'.heap.size ≠ gc := by have := HJ.out.1.lt; omega
        exact hK _ _ (dmgV_12 ⟨w'.heap.size, rfl, HJ.out.2.size, hne, ⟨0, 0, 0⟩, by simp, Box.new w' [.int .i64 0, .int .i64 0, .int .i64 0] 28⟩) (dmgJ_below hl hs (by decide) (by decide) HJ.out ((Below.refl _ w').alloc HJ.out.2.size _) gB) (dmgR_grown (but_alloc _))
      · intro L a w' hs hl hj hf hd KK hK
        have HJ := Lib.hid hj
        have e17 : dmgV gc w.heap.size w2.heap.size k 11 (a.tmps[17]?.getD undef) w' := by simpa [Act.eval] using rely_dep hd 11 17 (by kernel_rfl) (by kernel_rfl)
        simp [dmgV] at e17
        have e5 : dmgV gc w.heap.size w2.heap.size k 12 (a.tmps[5]?.getD undef) w' := by simpa [Act.eval] using rely_dep hd 12 5 (by kernel_rfl) (by kernel_rfl)
        simp [dmgV] at e5
        obtain ⟨d, e17, d1, d2⟩ := e17
        obtain ⟨g, e5, hg⟩ := e5
        have HG := Lib.hid hg
        obtain ⟨b1, b2, d0, _, hx⟩ := hg
        have x0 := hx.cell (j := 0) rfl
        have x1 := hx.cell (j := 1) rfl
        have x2 := hx.cell (j := 2) rfl
        have xf := hx.frozen
        clear hx
        clear hf hd hj
        go_simp
        exact hK undef _ (by simp [dmgV]) (dmgJ_below hl hs (by decide) (by decide) HJ.out ((((Below.refl _ _).setCell (p := ⟨g, 0, none⟩) b1 _).setCell (p := ⟨g, 1, none⟩) b1 _).setCell (p := ⟨g, 2, none⟩) b1 _) gB) (dmgR_store HG.out ⟨d1, d2⟩)
    · intro L a w' hj hL hsz hdf hfr hvs
      obtain ⟨g, e5, b1, b2, d, hd, hx⟩ := dmgV_of12 (hvs 12 _ 5 rfl rfl)
      have hc3 := cntD_le L
      have HP : DamAt w gc K k (.pointer (some ⟨g, 0, none⟩)) w' := ⟨g, d, rfl, hd, hx, by omega, HR.out.grown hj.2 hgw, HZ.out.grown hj.2 (by omega), hj.1.mono (by omega), but_trans HB2.out hj.2⟩
      obtain ⟨tm, df⟩ := a
      obtain ⟨ts, rfl⟩ : ∃ ts : List Value, tm = ts.toArray := ⟨tm.toList, by simp⟩
      simp only at hdf
      subst hdf
      have hlen : ts.length = 46 := by simpa using hsz
      have f0 := hfr 0 (unwritten_of (by kernel_rfl))
      have f1 := hfr 1 (unwritten_of (by kernel_rfl))
      have f2 := hfr 2 (unwritten_of (by kernel_rfl))
      have f3 := hfr 3 (unwritten_of (by kernel_rfl))
      have f4 := hfr 4 (unwritten_of (by kernel_rfl))
      have f18 := hfr 18 (unwritten_of (by kernel_rfl))
      have f19 := hfr 19 (unwritten_of (by kernel_rfl))
      have f20 := hfr 20 (unwritten_of (by kernel_rfl))
      have f21 := hfr 21 (unwritten_of (by kernel_rfl))
      have f22 := hfr 22 (unwritten_of (by kernel_rfl))
      have f23 := hfr 23 (unwritten_of (by kernel_rfl))
      have f24 := hfr 24 (unwritten_of (by kernel_rfl))
      have f25 := hfr 25 (unwritten_of (by kernel_rfl))
      have f26 := hfr 26 (unwritten_of (by kernel_rfl))
      have f27 := hfr 27 (unwritten_of (by kernel_rfl))
      have f28 := hfr 28 (unwritten_of (by kernel_rfl))
      have f29 := hfr 29 (unwritten_of (by kernel_rfl))
      have f30 := hfr 30 (unwritten_of (by kernel_rfl))
      have f31 := hfr 31 (unwritten_of (by kernel_rfl))
      have f32 := hfr 32 (unwritten_of (by kernel_rfl))
      have f33 := hfr 33 (unwritten_of (by kernel_rfl))
      have f34 := hfr 34 (unwritten_of (by kernel_rfl))
      have f35 := hfr 35 (unwritten_of (by kernel_rfl))
      have f36 := hfr 36 (unwritten_of (by kernel_rfl))
      have f37 := hfr 37 (unwritten_of (by kernel_rfl))
      have f38 := hfr 38 (unwritten_of (by kernel_rfl))
      have f39 := hfr 39 (unwritten_of (by kernel_rfl))
      have f40 := hfr 40 (unwritten_of (by kernel_rfl))
      have f41 := hfr 41 (unwritten_of (by kernel_rfl))
      have f42 := hfr 42 (unwritten_of (by kernel_rfl))
      have f43 := hfr 43 (unwritten_of (by kernel_rfl))
      have f44 := hfr 44 (unwritten_of (by kernel_rfl))
      have f45 := hfr 45 (unwritten_of (by kernel_rfl))
      clear hfr hvs hsz
      rcases ts with _ | ⟨y0, ts⟩
      · simp at hlen
      rcases ts with _ | ⟨y1, ts⟩
      · simp at hlen
      rcases ts with _ | ⟨y2, ts⟩
      · simp at hlen
      rcases ts with _ | ⟨y3, ts⟩
      · simp at hlen
      rcases ts with _ | ⟨y4, ts⟩
      · simp at hlen
      rcases ts with _ | ⟨y5, ts⟩
      · simp at hlen
      rcases ts with _ | ⟨y6, ts⟩
      · simp at hlen
      rcases ts with _ | ⟨y7, ts⟩
      · simp at hlen
      rcases ts with _ | ⟨y8, ts⟩
      · simp at hlen
      rcases ts with _ | ⟨y9, ts⟩
      · simp at hlen
      rcases ts with _ | ⟨y10, ts⟩
      · simp at hlen
      rcases ts with _ | ⟨y11, ts⟩
      · simp at hlen
      rcases ts with _ | ⟨y12, ts⟩
      · simp at hlen
      rcases ts with _ | ⟨y13, ts⟩
      · simp at hlen
      rcases ts with _ | ⟨y14, ts⟩
      · simp at hlen
      rcases ts with _ | ⟨y15, ts⟩
      · simp at hlen
      rcases ts with _ | ⟨y16, ts⟩
      · simp at hlen
      rcases ts with _ | ⟨y17, ts⟩
      · simp at hlen
      rcases ts with _ | ⟨y18, ts⟩
      · simp at hlen
      rcases ts with _ | ⟨y19, ts⟩
      · simp at hlen
      rcases ts with _ | ⟨y20, ts⟩
      · simp at hlen
      rcases ts with _ | ⟨y21, ts⟩
      · simp at hlen
      rcases ts with _ | ⟨y22, ts⟩
      · simp at hlen
      rcases ts with _ | ⟨y23, ts⟩
      · simp at hlen
      rcases ts with _ | ⟨y24, ts⟩
      · simp at hlen
      rcases ts with _ | ⟨y25, ts⟩
      · simp at hlen
      rcases ts with _ | ⟨y26, ts⟩
      · simp at hlen
      rcases ts with _ | ⟨y27, ts⟩
      · simp at hlen
      rcases ts with _ | ⟨y28, ts⟩
      · simp at hlen
      rcases ts with _ | ⟨y29, ts⟩
      · simp at hlen
      rcases ts with _ | ⟨y30, ts⟩
      · simp at hlen
      rcases ts with _ | ⟨y31, ts⟩
      · simp at hlen
      rcases ts with _ | ⟨y32, ts⟩
      · simp at hlen
      rcases ts with _ | ⟨y33, ts⟩
      · simp at hlen
      rcases ts with _ | ⟨y34, ts⟩
      · simp at hlen
      rcases ts with _ | ⟨y35, ts⟩
      · simp at hlen
      rcases ts with _ | ⟨y36, ts⟩
      · simp at hlen
      rcases ts with _ | ⟨y37, ts⟩
      · simp at hlen
      rcases ts with _ | ⟨y38, ts⟩
      · simp at hlen
      rcases ts with _ | ⟨y39, ts⟩
      · simp at hlen
      rcases ts with _ | ⟨y40, ts⟩
      · simp at hlen
      rcases ts with _ | ⟨y41, ts⟩
      · simp at hlen
      rcases ts with _ | ⟨y42, ts⟩
      · simp at hlen
      rcases ts with _ | ⟨y43, ts⟩
      · simp at hlen
      rcases ts with _ | ⟨y44, ts⟩
      · simp at hlen
      rcases ts with _ | ⟨y45, ts⟩
      · simp at hlen
      obtain rfl : ts = [] := List.eq_nil_of_length_eq_zero (by simpa using hlen)
      simp only [Act.eval, Array.getD_eq_getD_getElem?, List.getElem?_toArray, List.getElem?_cons_succ, List.getElem?_cons_zero, Option.getD_some] at e5 f0 f1 f2 f3 f4 f18 f19 f20 f21 f22 f23 f24 f25 f26 f27 f28 f29 f30 f31 f32 f33 f34 f35 f36 f37 f38 f39 f40 f41 f42 f43 f44 f45
      subst e5 f0 f1 f2 f3 f4 f18 f19 f20 f21 f22 f23 f24 f25 f26 f27 f28 f29 f30 f31 f32 f33 f34 f35 f36 f37 f38 f39 f40 f41 f42 f43 f44 f45
      refine h1 _ _ (Met.intro ?_)
      refine K1 _ _ ?_
      (repeat apply Exists.intro)
      exact ⟨HP, rfl⟩
  obtain ⟨g, x, rfl, ⟨x1, x2⟩, hx, hg, hkb, hzb, hc, hbt⟩ := hcut
  have HX := Lib.hid hx
  have HK := Lib.hid hkb
  have HZ3 := Lib.hid hzb
  have HC3 := Lib.hid hc
  have HB3 := Lib.hid hbt
  have g1 : gc < g := by omega
  clear hx hkb hzb hc hbt HR HZ HC2 HB2
  go_wp2_with fail
  refine (pick_c 60 gc _ _ HC3.out (by omega) (by omega) (by omega)).mono ?_
  rintro e w5 ⟨m, rfl, m1, m2, hcw5, hgw5⟩
  have HCw5 := Lib.hid hcw5
  have HGw5 := Lib.hid hgw5
  clear hcw5 hgw5
  have HX5 := Lib.hid (HX.out.grown HGw5.out (by omega))
  have HK5 := Lib.hid (HK.out.grown HGw5.out (by omega))
  have HZ5 := Lib.hid (HZ3.out.grown HGw5.out (by omega))
  have HB5 := Lib.hid (but_trans HB3.out HGw5.out)
  have z5 := HX5.out.lt
  have k1 := HK5.out.cell (j := 1) rfl
  have k2 := HK5.out.cell (j := 2) rfl
  have lk := HK5.out.lt
  have e1 : IntKind.i64.wrap (k.wi + 1) = k.wi + 1 := IntWalk.i64_in _ (by omega)
  clear HGw5 HC3 HX HK HZ3 HB3
  have hcase : m = 0 ∨ m = 1 ∨ m = 2 ∨ (m ≠ 0 ∧ m ≠ 1 ∧ m ≠ 2) := by omega
  rcases hcase with rfl | rfl | rfl | ⟨q0, q1, q2⟩
  ·
    go_wp2_with fail
    refine (among_n [-1, 3001] (-1) 3001 gc _ _ _ _ _ HCw5.out (by omega) (by simp) rfl rfl (by simp) (by simp) (by decide)).mono ?_
    rintro e w6 ⟨v, rfl, v1, v2, hcw6, hgw6⟩
    have HCw6 := Lib.hid hcw6
    have HGw6 := Lib.hid hgw6
    clear hcw6 hgw6
    have HX6 := Lib.hid (HX5.out.grown HGw6.out (by omega))
    have HZ6 := Lib.hid (HZ5.out.grown HGw6.out (by omega))
    have HB6 := Lib.hid (but_trans HB5.out HGw6.out)
    clear HGw6
    have k0 := HX6.out.cell (j := 0) rfl
    have k1 := HX6.out.cell (j := 1) rfl
    have k2 := HX6.out.cell (j := 2) rfl
    have kz := HX6.out.frozen
    have o0 := HZ6.out.cell (j := 0) rfl
    have o1 := HZ6.out.cell (j := 1) rfl
    have o2 := HZ6.out.cell (j := 2) rfl
    have oz := HZ6.out.frozen
    have lx := HX6.out.lt
    have lz := HB6.out.size
    have n1 : ¬ g = w.heap.size + 1 := by omega
    have n2 : ¬ w.heap.size + 1 = g := by omega
    go_wp2_with fail
    exact bodyPost_ret (v := .agg #[.int .i64 ((⟨v, x.s, x.w⟩ : Dam)).a, .int .i64 ((⟨v, x.s, x.w⟩ : Dam)).s, .int .i64 ((⟨v, x.s, x.w⟩ : Dam)).w]) (by simp [results, Try.results21, go_sem, o0, o1, o2]) rfl
      ⟨(⟨v, x.s, x.w⟩ : Dam), rfl, ⟨by first | omega | (simp only; omega), by first | omega | (simp only; omega)⟩, (HCw6.out.below (B := w.heap.size) (by repeat (first | (with_reducible exact Below.refl _ _) | ((with_reducible refine alloc_ ?_ ?_); (focus (first | exact Nat.le_refl _ | (simp; done) | (simp; omega) | omega))) | ((with_reducible refine set_ ?_ ?_); (focus (first | exact Nat.le_refl _ | (simp; done) | (simp; omega) | omega))) | (with_reducible refine Below.drew ?_) | ((with_reducible refine after_ ?_ (by assumption) ?_); (rotate_left; (focus (first | exact Nat.le_refl _ | (simp; done) | (simp; omega) | omega)))))) g0).mono (by omega), but_below HB6.out (by repeat (first | (with_reducible exact Below.refl _ _) | ((with_reducible refine alloc_ ?_ ?_); (focus (first | exact Nat.le_refl _ | (simp; done) | (simp; omega) | omega))) | ((with_reducible refine set_ ?_ ?_); (focus (first | exact Nat.le_refl _ | (simp; done) | (simp; omega) | omega))) | (with_reducible refine Below.drew ?_) | ((with_reducible refine after_ ?_ (by assumption) ?_); (rotate_left; (focus (first | exact Nat.le_refl _ | (simp; done) | (simp; omega) | omega))))))⟩
  ·
    go_wp2_with fail
    refine (among_n [-1, k.st] (-10000) 3001 gc _ _ _ _ _ HCw5.out (by omega) (by simp) rfl rfl (by simp) (by simp) (two_bd (by omega) s2)).mono ?_
    rintro e w6 ⟨v, rfl, v1, v2, hcw6, hgw6⟩
    have HCw6 := Lib.hid hcw6
    have HGw6 := Lib.hid hgw6
    clear hcw6 hgw6
    have HX6 := Lib.hid (HX5.out.grown HGw6.out (by omega))
    have HZ6 := Lib.hid (HZ5.out.grown HGw6.out (by omega))
    have HB6 := Lib.hid (but_trans HB5.out HGw6.out)
    clear HGw6
    have k0 := HX6.out.cell (j := 0) rfl
    have k1 := HX6.out.cell (j := 1) rfl
    have k2 := HX6.out.cell (j := 2) rfl
    have kz := HX6.out.frozen
    have o0 := HZ6.out.cell (j := 0) rfl
    have o1 := HZ6.out.cell (j := 1) rfl
    have o2 := HZ6.out.cell (j := 2) rfl
    have oz := HZ6.out.frozen
    have lx := HX6.out.lt
    have lz := HB6.out.size
    have n1 : ¬ g = w.heap.size + 1 := by omega
    have n2 : ¬ w.heap.size + 1 = g := by omega
    go_wp2_with fail
    exact bodyPost_ret (v := .agg #[.int .i64 ((⟨x.a, v, x.w⟩ : Dam)).a, .int .i64 ((⟨x.a, v, x.w⟩ : Dam)).s, .int .i64 ((⟨x.a, v, x.w⟩ : Dam)).w]) (by simp [results, Try.results21, go_sem, o0, o1, o2]) rfl
      ⟨(⟨x.a, v, x.w⟩ : Dam), rfl, ⟨by first | omega | (simp only; omega), by first | omega | (simp only; omega)⟩, (HCw6.out.below (B := w.heap.size) (by repeat (first | (with_reducible exact Below.refl _ _) | ((with_reducible refine alloc_ ?_ ?_); (focus (first | exact Nat.le_refl _ | (simp; done) | (simp; omega) | omega))) | ((with_reducible refine set_ ?_ ?_); (focus (first | exact Nat.le_refl _ | (simp; done) | (simp; omega) | omega))) | (with_reducible refine Below.drew ?_) | ((with_reducible refine after_ ?_ (by assumption) ?_); (rotate_left; (focus (first | exact Nat.le_refl _ | (simp; done) | (simp; omega) | omega)))))) g0).mono (by omega), but_below HB6.out (by repeat (first | (with_reducible exact Below.refl _ _) | ((with_reducible refine alloc_ ?_ ?_); (focus (first | exact Nat.le_refl _ | (simp; done) | (simp; omega) | omega))) | ((with_reducible refine set_ ?_ ?_); (focus (first | exact Nat.le_refl _ | (simp; done) | (simp; omega) | omega))) | (with_reducible refine Below.drew ?_) | ((with_reducible refine after_ ?_ (by assumption) ?_); (rotate_left; (focus (first | exact Nat.le_refl _ | (simp; done) | (simp; omega) | omega))))))⟩
  ·
    go_wp2_with fail
    refine (among_n [0, -1, k.wi, k.wi + 1] (-10000) 10001 gc _ _ _ _ _ HCw5.out (by omega) (by simp) rfl rfl (by simp) (by simp) (four_bd t1 t2)).mono ?_
    rintro e w6 ⟨v, rfl, v1, v2, hcw6, hgw6⟩
    have HCw6 := Lib.hid hcw6
    have HGw6 := Lib.hid hgw6
    clear hcw6 hgw6
    have HX6 := Lib.hid (HX5.out.grown HGw6.out (by omega))
    have HZ6 := Lib.hid (HZ5.out.grown HGw6.out (by omega))
    have HB6 := Lib.hid (but_trans HB5.out HGw6.out)
    clear HGw6
    have k0 := HX6.out.cell (j := 0) rfl
    have k1 := HX6.out.cell (j := 1) rfl
    have k2 := HX6.out.cell (j := 2) rfl
    have kz := HX6.out.frozen
    have o0 := HZ6.out.cell (j := 0) rfl
    have o1 := HZ6.out.cell (j := 1) rfl
    have o2 := HZ6.out.cell (j := 2) rfl
    have oz := HZ6.out.frozen
    have lx := HX6.out.lt
    have lz := HB6.out.size
    have n1 : ¬ g = w.heap.size + 1 := by omega
    have n2 : ¬ w.heap.size + 1 = g := by omega
    go_wp2_with fail
    exact bodyPost_ret (v := .agg #[.int .i64 ((⟨x.a, x.s, v⟩ : Dam)).a, .int .i64 ((⟨x.a, x.s, v⟩ : Dam)).s, .int .i64 ((⟨x.a, x.s, v⟩ : Dam)).w]) (by simp [results, Try.results21, go_sem, o0, o1, o2]) rfl
      ⟨(⟨x.a, x.s, v⟩ : Dam), rfl, ⟨by first | omega | (simp only; omega), by first | omega | (simp only; omega)⟩, (HCw6.out.below (B := w.heap.size) (by repeat (first | (with_reducible exact Below.refl _ _) | ((with_reducible refine alloc_ ?_ ?_); (focus (first | exact Nat.le_refl _ | (simp; done) | (simp; omega) | omega))) | ((with_reducible refine set_ ?_ ?_); (focus (first | exact Nat.le_refl _ | (simp; done) | (simp; omega) | omega))) | (with_reducible refine Below.drew ?_) | ((with_reducible refine after_ ?_ (by assumption) ?_); (rotate_left; (focus (first | exact Nat.le_refl _ | (simp; done) | (simp; omega) | omega)))))) g0).mono (by omega), but_below HB6.out (by repeat (first | (with_reducible exact Below.refl _ _) | ((with_reducible refine alloc_ ?_ ?_); (focus (first | exact Nat.le_refl _ | (simp; done) | (simp; omega) | omega))) | ((with_reducible refine set_ ?_ ?_); (focus (first | exact Nat.le_refl _ | (simp; done) | (simp; omega) | omega))) | (with_reducible refine Below.drew ?_) | ((with_reducible refine after_ ?_ (by assumption) ?_); (rotate_left; (focus (first | exact Nat.le_refl _ | (simp; done) | (simp; omega) | omega))))))⟩
  ·
    have k0 := HX5.out.cell (j := 0) rfl
    have k1 := HX5.out.cell (j := 1) rfl
    have k2 := HX5.out.cell (j := 2) rfl
    have kz := HX5.out.frozen
    have o0 := HZ5.out.cell (j := 0) rfl
    have o1 := HZ5.out.cell (j := 1) rfl
    have o2 := HZ5.out.cell (j := 2) rfl
    have oz := HZ5.out.frozen
    have lx := HX5.out.lt
    have lz := HB5.out.size
    have n1 : ¬ g = w.heap.size + 1 := by omega
    have n2 : ¬ w.heap.size + 1 = g := by omega
    go_wp2_with fail
    exact bodyPost_ret (v := .agg #[.int .i64 (x).a, .int .i64 (x).s, .int .i64 (x).w]) (by simp [results, Try.results21, go_sem, o0, o1, o2]) rfl
      ⟨x, rfl, ⟨by first | omega | (simp only; omega), by first | omega | (simp only; omega)⟩, (HCw5.out.below (B := w.heap.size) (by repeat (first | (with_reducible exact Below.refl _ _) | ((with_reducible refine alloc_ ?_ ?_); (focus (first | exact Nat.le_refl _ | (simp; done) | (simp; omega) | omega))) | ((with_reducible refine set_ ?_ ?_); (focus (first | exact Nat.le_refl _ | (simp; done) | (simp; omega) | omega))) | (with_reducible refine Below.drew ?_) | ((with_reducible refine after_ ?_ (by assumption) ?_); (rotate_left; (focus (first | exact Nat.le_refl _ | (simp; done) | (simp; omega) | omega)))))) g0).mono (by omega), but_below HB5.out (by repeat (first | (with_reducible exact Below.refl _ _) | ((with_reducible refine alloc_ ?_ ?_); (focus (first | exact Nat.le_refl _ | (simp; done) | (simp; omega) | omega))) | ((with_reducible refine set_ ?_ ?_); (focus (first | exact Nat.le_refl _ | (simp; done) | (simp; omega) | omega))) | (with_reducible refine Below.drew ?_) | ((with_reducible refine after_ ?_ (by assumption) ?_); (rotate_left; (focus (first | exact Nat.le_refl _ | (simp; done) | (simp; omega) | omega))))))⟩
end Go.Proofs.Ytlgpgcfncmomiaa
