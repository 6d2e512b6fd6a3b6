/- Words for slices in memory: what a slice reads as, what a block that a call made holds; no conditions. -/
import Derived.Test.YtpchcblialkpcaaDoorBase
import Derived.Deep.OwnRows
import Derived.Deep.LoopGhost
import Derived.OwnWalk
namespace Go.Proofs.YtpchcblialkpcaaDoor
open Go.RowKit

def nth {α : Type} [Inhabited α] (l : List α) (i : Nat) : α := l.getD i default
theorem nth_eq {α : Type} [Inhabited α] {l : List α} {i : Nat} (h : i < l.length) : nth l i = l[i] := by simp [nth, h]
theorem nth_mem {α : Type} [Inhabited α] {l : List α} {i : Nat} (h : i < l.length) : nth l i ∈ l := by rw [nth_eq h]; exact List.getElem_mem h

/-- A slice of elements of k cells each reads as l, from blocks below B. -/
def Rd {α : Type} [Inhabited α] (w : World) (B k : Nat) (cells : α → List Value) (A : Option Addr) (l : List α) : Prop :=
  ∀ i, i < l.length → ∃ b off, A = some ⟨b, off, none⟩ ∧ b < B ∧ ∀ j v, (cells (nth l i))[j]? = some v → w.cell? ⟨b, off + i * k + j, none⟩ = some v
/-- Block g, which the call made, holds the elements of l, and nothing else. -/
def Row {α : Type} [Inhabited α] (w : World) (g : Nat) (T : TypeId) (k : Nat) (cells : α → List Value) (l : List α) : Prop :=
  ∃ f, w.rowIs g T (l.length * k) f ∧ ∀ i, i < l.length → ∀ j v, j < k → (cells (nth l i))[j]? = some v → f (i * k + j) = v
section
variable {α : Type} [Inhabited α] {w w' : World} {B B' k g : Nat} {cells : α → List Value} {A : Option Addr} {l : List α} {T : TypeId}
theorem Rd.below (h : Rd w B k cells A l) (hb : Below B' w w') (hB : B ≤ B') : Rd w' B k cells A l := fun i hi => by
  obtain ⟨b, off, e, hlt, hc⟩ := h i hi
  exact ⟨b, off, e, hlt, fun j v hv => (hb.cell (p := ⟨b, off + i * k + j, none⟩) (by show b < B'; omega)).trans (hc j v hv)⟩
theorem Rd.mono (h : Rd w B k cells A l) (hB : B ≤ B') : Rd w B' k cells A l := fun i hi => by
  obtain ⟨b, off, e, hlt, hc⟩ := h i hi
  exact ⟨b, off, e, by omega, hc⟩
theorem Rd.of_row (h : Row w g T k cells l) (hk : ∀ x : α, (cells x).length = k) (hB : g < B) : Rd w B k cells (some ⟨g, 0, none⟩) l := fun i hi => by
  obtain ⟨f, hf, hc⟩ := h
  refine ⟨g, 0, rfl, hB, fun j v hv => ?_⟩
  have hj : j < k := by
    have := (List.getElem?_eq_some_iff.1 hv).1
    rw [hk] at this; exact this
  have hlt : i * k + j < l.length * k := by
    have := Nat.mul_le_mul_right k (show i + 1 ≤ l.length by omega)
    rw [Nat.add_mul] at this; omega
  rw [Nat.zero_add, hf.cell hlt, hc i hi j v hj hv]
theorem Row.below (h : Row w g T k cells l) (hb : Below B w w') (hB : g < B) : Row w' g T k cells l := by
  obtain ⟨f, hf, hc⟩ := h
  exact ⟨f, hf.of_block (hb.block g hB), hc⟩
theorem Rd.carry (h : Rd w w.heap.size k cells A l) (hb : Below w.heap.size w w') : Rd w' w'.heap.size k cells A l := (h.below hb (Nat.le_refl _)).mono hb.size
theorem Rd.alloc (h : Rd w w.heap.size k cells A l) (o : Obj) : Rd (w.alloc o) (w.alloc o).heap.size k cells A l := h.carry ((Below.refl _ _).alloc (Nat.le_refl _) o)
theorem nth_take {l : List α} {k j : Nat} (h : j < k) : nth (l.take k) j = nth l j := by simp [nth, h]
theorem Rd.take (h : Rd w B k cells A l) (n : Nat) : Rd w B k cells A (l.take n) := fun i hi => by
  have hi' : i < n ∧ i < l.length := by simp at hi; omega
  obtain ⟨b, off, e, hb, hc⟩ := h i hi'.2
  exact ⟨b, off, e, hb, by rw [nth_take hi'.1]; exact hc⟩
theorem Row.lt (h : Row w g T k cells l) : g < w.heap.size := by
  obtain ⟨f, hf, _⟩ := h
  exact hf.lt
theorem Row.carry (h : Row w g T k cells l) (hb : Below w.heap.size w w') : Row w' g T k cells l := h.below hb h.lt
theorem Row.rd (h : Row w g T k cells l) (hk : ∀ x : α, (cells x).length = k) : Rd w w.heap.size k cells (some ⟨g, 0, none⟩) l := Rd.of_row h hk h.lt
end

/-- The first k elements of a block of the call's own are filled in; nothing that was there has turned. -/
def Fill {α : Type} [Inhabited α] (w wr : World) (T : TypeId) (m : Nat) (cells : α → List Value) (l : List α) (k : Nat) : Prop :=
  (∃ f, wr.rowIs w.heap.size T (l.length * m) f ∧ ∀ i, i < k → ∀ j v, j < m → (cells (nth l i))[j]? = some v → f (i * m + j) = v) ∧ Below w.heap.size w wr
/-- Values stored one behind the other. -/
def puts (w : World) (g s : Nat) : List Value → World
  | [] => w
  | v :: vs => puts (w.setCell ⟨g, s, none⟩ v) g (s + 1) vs
theorem puts_row {g : Nat} {T : TypeId} {N : Nat} : ∀ (vs : List Value) (w : World) (s : Nat) (f : Nat → Value), w.rowIs g T N f →
    ∃ f', (puts w g s vs).rowIs g T N f' ∧ (∀ j v, vs[j]? = some v → f' (s + j) = v) ∧ ∀ i, (i < s ∨ s + vs.length ≤ i) → f' i = f i
  | [], w, s, f, h => ⟨f, h, by simp, fun _ _ => rfl⟩
  | v :: vs, w, s, f, h => by
    obtain ⟨f', h1, h2, h3⟩ := puts_row vs _ (s + 1) _ (h.set s v)
    refine ⟨f', h1, fun j u hj => ?_, fun i hi => ?_⟩
    · cases j with
      | zero =>
        simp only [List.getElem?_cons_zero, Option.some.injEq] at hj
        subst hj
        rw [Nat.add_zero, h3 s (.inl (by omega)), if_pos rfl]
      | succ j =>
        have := h2 j u (by simpa using hj)
        rw [← this]; congr 1; omega
    · simp only [List.length_cons] at hi
      rw [h3 i (by omega), if_neg (by omega)]
theorem puts_below {g B : Nat} {a : World} (hg : B ≤ g) : ∀ (vs : List Value) (w : World) (s : Nat), Below B a w → Below B a (puts w g s vs)
  | [], _, _, h => h
  | _ :: vs, _, s, h => puts_below hg vs _ (s + 1) (h.setCell hg _)
section
variable {α : Type} [Inhabited α] {w wr w1 : World} {m k : Nat} {cells : α → List Value} {l : List α} {T : TypeId}
/-- One element more: behind a callee that left what was there as it was. -/
theorem Fill.step (h : Fill w wr T m cells l k) (hb : Below wr.heap.size wr w1) (_hk : k < l.length) : Fill w (puts w1 w.heap.size (k * m) (cells (nth l k))) T m cells l (k + 1) := by
  obtain ⟨⟨f, hf, hc⟩, hbel⟩ := h
  have hf1 : w1.rowIs w.heap.size T (l.length * m) f := hf.of_block (hb.block _ hf.lt)
  obtain ⟨f', h1, h2, h3⟩ := puts_row (cells (nth l k)) w1 (k * m) f hf1
  refine ⟨⟨f', h1, fun i hi j v hj hv => ?_⟩, puts_below (Nat.le_refl _) _ _ _ (hbel.trans (hb.mono hbel.size))⟩
  by_cases he : i = k
  · subst he; exact h2 j v hv
  · have : (i + 1) * m ≤ k * m := Nat.mul_le_mul_right m (by omega)
    rw [Nat.add_mul] at this
    rw [h3 _ (.inl (by omega))]
    exact hc i (by omega) j v hj hv
theorem Fill.row (h : Fill w wr T m cells l l.length) : Row wr w.heap.size T m cells l := by
  obtain ⟨⟨f, hf, hc⟩, _⟩ := h
  exact ⟨f, hf, fun i hi j v hj hv => hc i hi j v hj hv⟩
theorem Fill.start {f : Nat → Value} (hf : w1.rowIs w.heap.size T (l.length * m) f) (hb : Below w.heap.size w w1) : Fill w w1 T m cells l 0 := ⟨⟨f, hf, fun i hi => absurd hi (by omega)⟩, hb⟩
/-- What the walk asks of the cells that are stored into. -/
theorem Fill.cell (h : Fill w wr T m cells l k) {j : Nat} (hk : k < l.length) (hj : j < m) : ∃ u, wr.cell? ⟨w.heap.size, k * m + j, none⟩ = some u := by
  obtain ⟨⟨f, hf, _⟩, _⟩ := h
  have : (k + 1) * m ≤ l.length * m := Nat.mul_le_mul_right m (by omega)
  rw [Nat.add_mul] at this
  exact ⟨_, hf.cell (by omega)⟩
theorem Fill.frozen (h : Fill w wr T m cells l k) (j : Nat) : wr.frozen? ⟨w.heap.size, j, none⟩ = false := by
  obtain ⟨⟨f, hf, _⟩, _⟩ := h
  exact hf.frozen j
theorem Fill.size (h : Fill w wr T m cells l k) : w.heap.size < wr.heap.size := by
  obtain ⟨⟨f, hf, _⟩, _⟩ := h
  exact hf.lt
end

/-- A variable of the call's own of k cells: block g holds just vs. -/
def Box (w : World) (g : Nat) (T : TypeId) (k : Nat) (vs : List Value) : Prop := vs.length = k ∧ ∃ f, w.rowIs g T k f ∧ ∀ j v, vs[j]? = some v → f j = v
section
variable {w w' : World} {g k B : Nat} {T : TypeId} {vs : List Value}
theorem Box.cell (h : Box w g T k vs) {j : Nat} {v : Value} (hv : vs[j]? = some v) : w.cell? ⟨g, j, none⟩ = some v := by
  obtain ⟨hk, f, hf, hc⟩ := h
  have hj := (List.getElem?_eq_some_iff.1 hv).1
  rw [hf.cell (by omega), hc j v hv]
theorem Box.frozen (h : Box w g T k vs) (j : Nat) : w.frozen? ⟨g, j, none⟩ = false := by
  obtain ⟨hk, f, hf, hc⟩ := h
  exact hf.frozen j
theorem Box.lt (h : Box w g T k vs) : g < w.heap.size := by
  obtain ⟨hk, f, hf, hc⟩ := h
  exact hf.lt
theorem Box.below (h : Box w g T k vs) (hb : Below B w w') (hg : g < B) : Box w' g T k vs := by
  obtain ⟨hk, f, hf, hc⟩ := h
  exact ⟨hk, f, hf.of_block (hb.block g hg), hc⟩
theorem Box.carry (h : Box w g T k vs) (hb : Below w.heap.size w w') : Box w' g T k vs := h.below hb h.lt
theorem Box.alloc (h : Box w g T k vs) (o : Obj) : Box (w.alloc o) g T k vs := h.carry ((Below.refl _ _).alloc (Nat.le_refl _) o)
theorem Box.drew (h : Box w g T k vs) : Box w.drew g T k vs := h
theorem Box.far (h : Box w g T k vs) {p : Addr} (hp : g ≠ p.block) (u : Value) : Box (w.setCell p u) g T k vs := by
  obtain ⟨hk, f, hf, hc⟩ := h
  exact ⟨hk, f, hf.setOther hp u, hc⟩
theorem Box.new (w : World) (vs : List Value) (T : TypeId) : Box (w.alloc (.cells vs.toArray T)) w.heap.size T vs.length vs :=
  ⟨rfl, fun i => vs.getD i undef, by simpa using World.rowIs_alloc w vs.toArray T (fun i => vs.getD i undef) (fun i hi => by simp at hi; simp [hi]), fun j v hv => by simp [hv]⟩
theorem puts_far {g' : Nat} (hne : g ≠ g') : ∀ (us : List Value) (w : World) (s : Nat), Box w g T k vs → Box (puts w g' s us) g T k vs
  | [], _, _, h => h
  | u :: us, w, s, h => puts_far hne us _ _ (h.far (p := ⟨g', s, none⟩) hne u)
theorem Box.puts (h : Box w g T k vs) {us : List Value} (hu : us.length = k) : Box (puts w g 0 us) g T k us := by
  obtain ⟨hk, f, hf, hc⟩ := h
  obtain ⟨f', h1, h2, _⟩ := puts_row us w 0 f hf
  exact ⟨hu, f', h1, fun j v hv => by simpa using h2 j v hv⟩
end

/-- 'make([]T, n)' at elements of k cells. -/
theorem make_rows {P : Program} (t e : TypeId) (z : Value) (k bytes : Nat) (ht : P.underlying t = some (.slice e)) (hinfo : (P.info? e).map (fun i => (i.zero, i.size, i.bytes)) = some (some z, k, bytes))
    (n : Nat) (hbytes : bytes * n ≤ 281474976710656) (h63 : n ≤ 9223372036854775807) (w : World) :
    (Instr.makeSlice t (.int .i64 (n : Int)) (.int .i64 (n : Int))).run P w = .ok (.slice (some ⟨w.heap.size, 0, none⟩) n n) (w.alloc (.cells (madeCells z.cells (n * k)) e)) := by
  obtain ⟨i, hi, hzz⟩ := Option.map_eq_some_iff.1 hinfo
  simp only [Prod.mk.injEq] at hzz
  obtain ⟨hz, hs, hb⟩ := hzz
  have hr := run_make (P := P) w t e i z ht hi hz .i64 .i64 n n (by omega) (by omega) (by rw [hb]; omega) (by omega)
  rw [hs] at hr
  simp only [Int.toNat_natCast] at hr
  exact hr
theorem made_row (w : World) (zs : Array Value) (N : Nat) (e : TypeId) (hz : (madeCells zs N).size = N) : (w.alloc (.cells (madeCells zs N) e)).rowIs w.heap.size e N (fun i => (madeCells zs N)[i]?.getD undef) := by
  have h := World.rowIs_alloc w (madeCells zs N) e (fun i => (madeCells zs N)[i]?.getD undef) (fun i hi => by simp [hi])
  rw [hz] at h; exact h

/-- Every index below n answers yes. -/
def allTo (n : Nat) (p : Nat → Bool) : Bool := (List.range n).all p
theorem allTo_true {n : Nat} {p : Nat → Bool} : allTo n p = true ↔ ∀ i, i < n → p i = true := by simp [allTo]
theorem allTo_no {n : Nat} {p : Nat → Bool} {i : Nat} (hi : i < n) (hp : p i = false) : allTo n p = false := by
  rcases h : allTo n p with _ | _
  · rfl
  · rw [allTo_true.1 h i hi] at hp; cases hp
theorem allTo_ex {n : Nat} {p : Nat → Bool} (h : allTo n p = false) : ¬ ∀ i, i < n → p i = true := fun h' => by rw [allTo_true.2 h'] at h; cases h

/-- Some index below n answers yes. -/
def anyTo (n : Nat) (p : Nat → Bool) : Bool := !allTo n fun i => !p i
theorem anyTo_yes {n : Nat} {p : Nat → Bool} {i : Nat} (hi : i < n) (hp : p i = true) : anyTo n p = true := by
  unfold anyTo; rw [allTo_no hi (by simp [hp])]; rfl
theorem anyTo_none {n : Nat} {p : Nat → Bool} (h : ∀ i, i < n → p i = false) : anyTo n p = false := by
  unfold anyTo; rw [allTo_true.2 fun i hi => by simp [h i hi]]; rfl
theorem anyTo_congr {n m : Nat} {p q : Nat → Bool} (hn : n = m) (h : ∀ i, i < m → p i = q i) : anyTo n p = anyTo m q := by
  subst hn
  rcases hq : anyTo n q with _ | _
  · refine anyTo_none fun i hi => ?_
    rw [h i hi]
    rcases hqi : q i with _ | _
    · rfl
    · rw [anyTo_yes hi hqi] at hq; cases hq
  · rcases hp : anyTo n p with _ | _
    · unfold anyTo at hp hq
      have h2 : allTo n (fun i => !p i) = true := by simpa using hp
      have h3 : allTo n (fun i => !q i) = true := allTo_true.2 fun i hi => by rw [← h i hi]; exact allTo_true.1 h2 i hi
      rw [h3] at hq; cases hq
    · rfl
theorem anyTo_false {n : Nat} {p : Nat → Bool} (h : anyTo n p = false) : ∀ i, i < n → p i = false := by
  unfold anyTo at h
  have h2 : allTo n (fun i => !p i) = true := by simpa using h
  intro i hi
  simpa using allTo_true.1 h2 i hi
theorem below_add {k : Nat} {p : Nat → Prop} (h : ∀ j, j < k → p j) (hk : p k) : ∀ j, j < k + 1 → p j := fun j hj => by
  rcases Nat.lt_succ_iff_lt_or_eq.1 hj with h' | h'
  · exact h j h'
  · subst h'; exact hk

/-- ints: one cell an element. -/
def intCells (x : Int) : List Value := [.int .i64 x]
theorem Rd.int {w : World} {B : Nat} {A : Option Addr} {l : List Int} (h : Rd w B 1 intCells A l) {i : Nat} (hi : i < l.length) : ∃ b off, A = some ⟨b, off, none⟩ ∧ b < B ∧ w.cell? ⟨b, off + i, none⟩ = some (.int .i64 (nth l i)) := by
  obtain ⟨b, off, e, hlt, hc⟩ := h i hi
  exact ⟨b, off, e, hlt, by simpa using hc 0 _ rfl⟩
end Go.Proofs.YtpchcblialkpcaaDoor
