/- A cell of a list of the call's own is written over, elements of k cells; no conditions. -/
import Derived.Test.YtpchcblialkpcaaDoorCur
import Derived.Test.YtpchcblialkpcaaDoorOwn
namespace Go.Proofs.YtpchcblialkpcaaDoor
open Go.RowKit

theorem owns_putk {w : World} {base n g c k : Nat} {T : TypeId} {xs : List Value} (h : w.ownsRow base T k (.slice (some ⟨g, 0, none⟩) n c) n xs) {i : Nat} (hi : i < n * k) (u : Value) :
    (w.setCell ⟨g, i, none⟩ u).ownsRow base T k (.slice (some ⟨g, 0, none⟩) n c) n (xs.set i u) ∧ w.cell? ⟨g, i, none⟩ = xs[i]? ∧ w.frozen? ⟨g, i, none⟩ = false ∧ base ≤ g ∧ g < w.heap.size := by
  obtain ⟨hx, ⟨h1, _⟩ | ⟨g', cap, cur, he, hg, hh, hnc, hmax, hcs, htk⟩⟩ := h
  · simp at h1
  · simp only [Value.slice.injEq, Option.some.injEq, Addr.mk.injEq, and_true, true_and] at he
    obtain ⟨rfl, rfl⟩ := he
    have hck : n * k ≤ c * k := Nat.mul_le_mul_right k hnc
    have r : w.rowIs g T cur.size (fun i => cur[i]?.getD undef) := ⟨cur, hh, rfl, fun i hi => by simp [hi]⟩
    have hic : i < cur.size := by omega
    have hget : ∀ j, j < n * k → xs[j]? = cur[j]? := fun j hj => by
      rw [← htk, List.getElem?_take, if_pos hj]; simp
    obtain ⟨cur', hh', hs', hf'⟩ := r.set i u
    refine ⟨⟨by simpa using hx, .inr ⟨g, c, cur', rfl, hg, hh', hnc, hmax, by rw [hs']; exact hcs, ?_⟩⟩, ?_, r.frozen i, hg, r.lt⟩
    · apply List.ext_getElem?
      intro j
      by_cases hj : j < n * k
      · rw [List.getElem?_take, if_pos hj, Array.getElem?_toList, hf' j (by omega), List.getElem?_set]
        by_cases e : i = j
        · subst e; simp; omega
        · rw [if_neg e, hget j hj]
          show some (if j = i then u else cur[j]?.getD undef) = cur[j]?
          rw [if_neg (fun h => e h.symm), Array.getElem?_eq_getElem (by omega)]; rfl
      · rw [List.getElem?_eq_none (by simp; omega), List.getElem?_eq_none (by simp; omega)]
    · rw [r.cell hic, hget i hi, Array.getElem?_eq_getElem hic]; rfl
theorem flat_set {α : Type} [Inhabited α] {k : Nat} {cells : α → List Value} (hk : ∀ x : α, (cells x).length = k) : ∀ (l : List α) (i j : Nat) (v : Value) (y : α), i < l.length → j < k → cells y = (cells (nth l i)).set j v → ((l.map cells).flatten).set (i * k + j) v = ((l.set i y).map cells).flatten
  | [], i, j, v, y, hi, _, _ => absurd hi (by simp)
  | x :: l, 0, j, v, y, _, hj, hy => by
    have hy' : cells y = (cells x).set j v := hy
    simp only [List.map_cons, List.flatten_cons, Nat.zero_mul, Nat.zero_add, List.set_cons_zero]
    rw [List.set_append_left _ _ (by rw [hk]; exact hj), hy']
  | x :: l, i + 1, j, v, y, hi, hj, hy => by
    have ih := flat_set hk l i j v y (by simpa using hi) hj hy
    simp only [List.map_cons, List.flatten_cons, List.set_cons_succ]
    rw [show (i + 1) * k + j = k + (i * k + j) by rw [Nat.succ_mul]; omega, List.set_append_right _ _ (by rw [hk]; omega), hk]
    rw [show k + (i * k + j) - k = i * k + j by omega, ih]
/-- A literal of elements lies as a list of the call's own. -/
theorem owns_lit {w : World} {T : TypeId} {k n : Nat} {xs : List Value} (hx : xs.length = n * k) (hn : n ≤ maxLen) : (w.alloc (.cells xs.toArray T)).ownsRow w.heap.size T k (.slice (some ⟨w.heap.size, 0, none⟩) n n) n xs :=
  ⟨hx, .inr ⟨w.heap.size, n, xs.toArray, rfl, Nat.le_refl _, heap_alloc_new w _, Nat.le_refl _, hn, by simpa using hx, by rw [← hx]; simp⟩⟩
end Go.Proofs.YtpchcblialkpcaaDoor
