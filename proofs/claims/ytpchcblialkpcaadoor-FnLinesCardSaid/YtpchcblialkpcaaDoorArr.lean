/- A slice of ints of the call's own, cell by cell; no conditions. -/
import Derived.Test.YtpchcblialkpcaaDoorOwn
import Derived.Test.YtpchcblialkpcaaDoorPush
import Derived.Test.YtpchcblialkpcaaDoorInts
import Derived.StillTailTactics
namespace Go.Proofs.YtpchcblialkpcaaDoor
open Go.RowKit

/-- Block g holds the numbers of o at its head. -/
def Arr (w : World) (g : Nat) (o : List Int) : Prop := ∃ N f, o.length ≤ N ∧ w.rowIs g 3 N f ∧ ∀ i, i < o.length → f i = .int .i64 (nth o i)
section
variable {w w' : World} {g B base : Nat} {o : List Int}
theorem Arr.cell (h : Arr w g o) {i : Nat} (hi : i < o.length) : w.cell? ⟨g, i, none⟩ = some (.int .i64 (nth o i)) := by
  obtain ⟨N, f, hN, hf, hc⟩ := h
  rw [hf.cell (by omega), hc i hi]
theorem Arr.frozen (h : Arr w g o) (i : Nat) : w.frozen? ⟨g, i, none⟩ = false := by
  obtain ⟨N, f, hN, hf, hc⟩ := h
  exact hf.frozen i
theorem Arr.lt (h : Arr w g o) : g < w.heap.size := by
  obtain ⟨N, f, hN, hf, hc⟩ := h
  exact hf.lt
theorem Arr.below (h : Arr w g o) (hb : Below B w w') (hg : g < B) : Arr w' g o := by
  obtain ⟨N, f, hN, hf, hc⟩ := h
  exact ⟨N, f, hN, hf.of_block (hb.block g hg), hc⟩
theorem Arr.carry (h : Arr w g o) (hb : Below w.heap.size w w') : Arr w' g o := h.below hb h.lt
theorem nth_setI {s : List Int} {i j : Nat} {p : Int} (hj : j < s.length) : nth (s.set i p) j = if i = j then p else nth s j := by
  rw [nth_eq (by simpa using hj), nth_eq hj, List.getElem_set]
theorem Arr.set (h : Arr w g o) (i : Nat) (v : Int) : Arr (w.setCell ⟨g, i, none⟩ (.int .i64 v)) g (o.set i v) := by
  obtain ⟨N, f, hN, hf, hc⟩ := h
  refine ⟨N, _, by simpa using hN, hf.set i _, fun j hj => ?_⟩
  simp only [List.length_set] at hj
  rw [nth_setI hj]
  by_cases e : j = i
  · rw [if_pos e, if_pos e.symm]
  · rw [if_neg e, if_neg (fun x => e x.symm), hc j hj]
theorem Arr.far (h : Arr w g o) {p : Addr} (hp : g ≠ p.block) (u : Value) : Arr (w.setCell p u) g o := by
  obtain ⟨N, f, hN, hf, hc⟩ := h
  exact ⟨N, f, hN, hf.setOther hp u, hc⟩
theorem Arr.keep (h : Arr w g o) (he : w'.heap[g]? = w.heap[g]?) : Arr w' g o := by
  obtain ⟨N, f, hN, hf, hc⟩ := h
  exact ⟨N, f, hN, hf.of_block he, hc⟩
theorem Arr.own (h : Arr w g o) (hb : base ≤ g) : Own w base 3 1 intCells (some ⟨g, 0, none⟩) o := fun _ => by
  obtain ⟨N, f, hN, hf, hc⟩ := h
  refine ⟨g, N, f, rfl, hb, by omega, hf, fun i hi j v hj hv => ?_⟩
  obtain rfl : j = 0 := by omega
  simp only [intCells, List.getElem?_cons_zero, Option.some.injEq] at hv
  rw [Nat.mul_one, Nat.add_zero, hc i hi, hv]
theorem Arr.rd (h : Arr w g o) : Rd w w.heap.size 1 intCells (some ⟨g, 0, none⟩) o := fun i hi => ⟨g, 0, rfl, h.lt, fun j v hv => by
  have hj : j < 1 := (List.getElem?_eq_some_iff.1 hv).1
  obtain rfl : j = 0 := by omega
  simp only [intCells, List.getElem?_cons_zero, Option.some.injEq] at hv
  have := h.cell hi
  rw [← hv, ← this]; simp⟩
theorem Arr.made (w : World) (n : Nat) (g : Nat) (hg : g = w.heap.size) : Arr (w.alloc (.cells (madeCells #[.int .i64 0] n) 3)) g (List.replicate n 0) := by
  subst hg
  refine ⟨n, fun _ => .int .i64 0, by simp, World.rowIs_made w (.int .i64 0) n 3, fun i hi => ?_⟩
  simp only [List.length_replicate] at hi
  simp [nth, hi]
theorem Arr.new (w : World) (o : List Int) (g : Nat) (hg : g = w.heap.size) : Arr (w.alloc (.cells (o.map (Value.int .i64)).toArray 3)) g o := by
  subst hg
  refine ⟨o.length, fun i => ((o.map (Value.int .i64)).toArray)[i]?.getD undef, Nat.le_refl _, by simpa using World.rowIs_alloc w (o.map (Value.int .i64)).toArray 3 (fun i => ((o.map (Value.int .i64)).toArray)[i]?.getD undef) (fun i hi => by simp at hi; simp [hi]), fun i hi => by simp [hi, nth_eq hi]⟩
theorem Arr.of_owns {v : Value} {n : Nat} (h : w.ownsRow base 3 1 v n (o.map (Value.int .i64))) (hn : n = o.length) (h0 : 0 < n) : ∃ g cap, v = .slice (some ⟨g, 0, none⟩) n cap ∧ base ≤ g ∧ Arr w g o := by
  obtain ⟨hx, ⟨_, h1⟩ | ⟨g, cap, cur, rfl, hg, hh, hnc, hmax, hcs, htk⟩⟩ := h
  · omega
  · refine ⟨g, cap, rfl, hg, cur.size, fun i => cur[i]?.getD undef, by omega, ⟨cur, hh, rfl, fun i hi => by simp [hi]⟩, fun i hi => ?_⟩
    have h2 : (o.map (Value.int .i64))[i]? = some (.int .i64 (nth o i)) := by simp [nth_eq hi, hi]
    rw [← htk, List.getElem?_take, if_pos (by omega)] at h2
    simp only [Array.getElem?_toList] at h2
    simp [h2]
end
/-- What a call hands back: a list of its own. -/
def Gives (o : List Int) (w : World) (e : Ending) (w' : World) : Prop := ∃ g cap, e = .returned (.slice (some ⟨g, 0, none⟩) o.length cap) ∧ w.heap.size ≤ g ∧ Arr w' g o ∧ Below w.heap.size w w'
theorem retG {o : List Int} {n g cap : Nat} (h : o.length = n) : Ending.returned (.slice (some ⟨g, 0, none⟩) n cap) = .returned (.slice (some ⟨g, 0, none⟩) o.length cap) := by rw [h]
/-- A region that draws, reads, and writes at its end alone: the reading in the order of the text, from a world that the draw alone has turned. -/
theorem wp_region_tail {P : Program} {id : Nat} {Q : Exit → Act → World → Prop} {a : Act} {w : World} {l : List Oper} (n : Nat) (hm : P.follows .mixedOrders = true) (hB : Region.lexTailB .any l.toArray n = true)
    (h : ∀ wd : World, Below w.heap.size w wd → (∀ b o, wd.cell? ⟨b, o, none⟩ = w.cell? ⟨b, o, none⟩) → wpStill P l.toArray wd (fun a' => wpList P l.toArray Q (l.drop n) a' wd) (l.take n) a) : (Code.region id l.toArray true).wp P Q a w :=
  wp_region_still_tail n hm hB (h _ (Below.refl _ _).drew fun _ _ => rfl)
end Go.Proofs.YtpchcblialkpcaaDoor
