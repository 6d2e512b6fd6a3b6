/- Words for slices that a call hands back, and for what marks them; no conditions. -/
import Derived.Test.YtpchcblialkpcaaDoorSlice
import Derived.Maps.AppendAt
namespace Go.Proofs.YtpchcblialkpcaaDoor
open Go.RowKit

theorem flat_get {α : Type} [Inhabited α] {k : Nat} {cells : α → List Value} (hk : ∀ x : α, (cells x).length = k) : ∀ (l : List α) (i j : Nat) (v : Value), i < l.length → j < k → (cells (nth l i))[j]? = some v → ((l.map cells).flatten)[i * k + j]? = some v
  | [], i, j, v, hi, _, _ => absurd hi (by simp)
  | x :: l, 0, j, v, _, hj, hv => by
    simp only [List.map_cons, List.flatten_cons, Nat.zero_mul, Nat.zero_add]
    rw [List.getElem?_append_left (by rw [hk]; exact hj)]
    exact hv
  | x :: l, i + 1, j, v, hi, hj, hv => by
    simp only [List.map_cons, List.flatten_cons]
    rw [List.getElem?_append_right (by rw [hk, Nat.add_mul]; omega), hk, show (i + 1) * k + j - k = i * k + j by rw [Nat.add_mul]; omega]
    exact flat_get hk l i j v (by simpa using hi) hj hv
/-- The slice at A, of elements of k cells each, lies at the head of a block from base on, not frozen, and reads as l. -/
def Own {α : Type} [Inhabited α] (w : World) (base : Nat) (T : TypeId) (k : Nat) (cells : α → List Value) (A : Option Addr) (l : List α) : Prop :=
  0 < l.length → ∃ g N f, A = some ⟨g, 0, none⟩ ∧ base ≤ g ∧ l.length * k ≤ N ∧ w.rowIs g T N f ∧ ∀ i, i < l.length → ∀ j v, j < k → (cells (nth l i))[j]? = some v → f (i * k + j) = v
section
variable {α : Type} [Inhabited α] {w w' : World} {base B k g : Nat} {cells : α → List Value} {A : Option Addr} {l : List α} {T : TypeId}
theorem Own.nil {A : Option Addr} : Own w base T k cells A ([] : List α) := fun h => absurd h (by simp)
theorem Own.rd (h : Own w base T k cells A l) (hk : ∀ x : α, (cells x).length = k) : Rd w w.heap.size k cells A l := fun i hi => by
  obtain ⟨g, N, f, rfl, hb, hN, hf, hc⟩ := h (by omega)
  refine ⟨g, 0, rfl, hf.lt, fun j v hv => ?_⟩
  have hj : j < k := by
    have := (List.getElem?_eq_some_iff.1 hv).1
    rw [hk] at this; exact this
  have hlt : i * k + j < l.length * k := by
    have := Nat.mul_le_mul_right k (show i + 1 ≤ l.length by omega)
    rw [Nat.add_mul] at this; omega
  rw [Nat.zero_add, hf.cell (by omega), hc i hi j v hj hv]
theorem Own.carry (h : Own w base T k cells A l) (hb : Below w.heap.size w w') : Own w' base T k cells A l := fun h0 => by
  obtain ⟨g, N, f, e, hg, hN, hf, hc⟩ := h h0
  exact ⟨g, N, f, e, hg, hN, hf.of_block (hb.block g hf.lt), hc⟩
theorem Own.grown (h : Own w base T k cells A l) (hg : w.grownBy w' (some g)) (hlt : g < base) : Own w' base T k cells A l := fun h0 => by
  obtain ⟨g', N, f, e, hg', hN, hf, hc⟩ := h h0
  exact ⟨g', N, f, e, hg', hN, hf.of_block (hg.block g' hf.lt (by simp; omega)), hc⟩
theorem Own.less (h : Own w base T k cells A l) (hB : B ≤ base) : Own w B T k cells A l := fun h0 => by
  obtain ⟨g, N, f, e, hg, r⟩ := h h0
  exact ⟨g, N, f, e, by omega, r⟩
theorem Rd.grown (h : Rd w B k cells A l) (hg : w.grownBy w' (some g)) (hB : B ≤ g) (hs : B ≤ w.heap.size) : Rd w' B k cells A l := fun i hi => by
  obtain ⟨b, off, e, hlt, hc⟩ := h i hi
  exact ⟨b, off, e, hlt, fun j v hv => (World.cell?_of_block (hg.block b (by omega) (by simp; omega))).trans (hc j v hv)⟩
theorem Row.grown {g' : Nat} (h : Row w g T k cells l) (hg : w.grownBy w' (some g')) (hne : g ≠ g') : Row w' g T k cells l := by
  obtain ⟨f, hf, hc⟩ := h
  exact ⟨f, hf.of_block (hg.block g hf.lt (by simpa using hne)), hc⟩
theorem grown_below (h : w.grownBy w' (some g)) (hB : B ≤ g) (hs : B ≤ w.heap.size) : Below B w w' := ⟨h.os, h.tape, h.output, h.size, fun i hi => h.block i (by omega) (by simp; omega)⟩
/-- What append's law leaves, as a slice at an address. -/
theorem Own.of_row {v : Value} (h : w.ownsRow base T k v l.length ((l.map cells).flatten)) (hk : ∀ x : α, (cells x).length = k) : ∃ A cap, v = .slice A l.length cap ∧ Own w base T k cells A l := by
  rcases h.2 with ⟨rfl, h0⟩ | ⟨g, cap, cur, rfl, hg, hh, hnc, hmax, hcs, htk⟩
  · refine ⟨none, 0, by rw [h0], fun h => absurd h (by omega)⟩
  · refine ⟨_, cap, rfl, fun _ => ⟨g, cur.size, fun i => cur[i]?.getD undef, rfl, hg, by rw [hcs]; exact Nat.mul_le_mul_right k hnc, ⟨cur, hh, rfl, fun i hi => by simp [hi]⟩, fun i hi j v hj hv => ?_⟩⟩
    have hlt : i * k + j < l.length * k := by
      have := Nat.mul_le_mul_right k (show i + 1 ≤ l.length by omega)
      rw [Nat.add_mul] at this; omega
    have h1 : ((l.map cells).flatten)[i * k + j]? = some v := flat_get hk l i j v hi hj hv
    rw [← htk, List.getElem?_take, if_pos hlt] at h1
    simp only [Array.getElem?_toList] at h1
    show cur[i * k + j]?.getD undef = v
    rw [h1]; rfl
end

/-- A block of the call's caller whose cells are written: no other block that was there has turned. -/
def Mk (w wr : World) (g : Nat) (T : TypeId) (N : Nat) : Prop := (∃ f, wr.rowIs g T N f) ∧ w.grownBy wr (some g)
theorem grown_set {w wr : World} {g s : Nat} {v : Value} (h : w.grownBy wr (some g)) : w.grownBy (wr.setCell ⟨g, s, none⟩ v) (some g) :=
  ⟨h.os, h.tape, h.output, by simpa [World.setCell] using h.size, fun i hi hne => (Below.heap_setCell wr ⟨g, s, none⟩ v i (by simpa using hne)).trans (h.block i hi hne)⟩
section
variable {w wr : World} {g N s : Nat} {T : TypeId} {v : Value}
theorem Mk.set_ (h : Mk w wr g T N) : Mk w (wr.setCell ⟨g, s, none⟩ v) g T N := by
  obtain ⟨⟨f, hf⟩, hg⟩ := h
  exact ⟨⟨_, hf.set s v⟩, grown_set hg⟩
theorem Mk.cell (h : Mk w wr g T N) (hs : s < N) : ∃ u, wr.cell? ⟨g, s, none⟩ = some u := by
  obtain ⟨⟨f, hf⟩, _⟩ := h
  exact ⟨_, hf.cell hs⟩
theorem Mk.frozen (h : Mk w wr g T N) (s : Nat) : wr.frozen? ⟨g, s, none⟩ = false := by
  obtain ⟨⟨f, hf⟩, _⟩ := h
  exact hf.frozen s
end
/-- The numbers that a mark leaves. -/
def markL (m : Int) (n : Nat) : List Int := (List.range n).map fun i : Nat => m + (i : Int)
theorem markL_len (m : Int) (n : Nat) : (markL m n).length = n := by simp [markL]
theorem markL_nth {m : Int} {n i : Nat} (hi : i < n) : nth (markL m n) i = m + i := by simp [nth, markL, hi]
end Go.Proofs.YtpchcblialkpcaaDoor
