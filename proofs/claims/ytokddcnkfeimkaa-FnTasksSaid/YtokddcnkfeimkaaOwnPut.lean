/- An element of a list of the call's own is written over; no conditions. -/
import Derived.Test.YtokddcnkfeimkaaCur
namespace Go.Proofs.Ytokddcnkfeimkaa
open Go.RowKit

theorem owns_put {w : World} {base n g c : Nat} {T : TypeId} {xs : List Value} (h : w.ownsRow base T 1 (.slice (some ⟨g, 0, none⟩) n c) n xs) {i : Nat} (hi : i < n) (u : Value) :
    (w.setCell ⟨g, i, none⟩ u).ownsRow base T 1 (.slice (some ⟨g, 0, none⟩) n c) n (xs.set i u) ∧ w.cell? ⟨g, i, none⟩ = xs[i]? ∧ w.frozen? ⟨g, i, none⟩ = false ∧ base ≤ g ∧ g < w.heap.size := by
  obtain ⟨hx, ⟨h1, _⟩ | ⟨g', cap, cur, he, hg, hh, hnc, hmax, hcs, htk⟩⟩ := h
  · simp at h1
  · simp only [Value.slice.injEq, Option.some.injEq, Addr.mk.injEq, and_true, true_and] at he
    obtain ⟨rfl, rfl⟩ := he
    simp only [Nat.mul_one] at hcs htk hx
    have r : w.rowIs g T cur.size (fun i => cur[i]?.getD undef) := ⟨cur, hh, rfl, fun i hi => by simp [hi]⟩
    have hic : i < cur.size := by omega
    have hget : ∀ j, j < n → xs[j]? = cur[j]? := fun j hj => by
      rw [← htk, List.getElem?_take, if_pos hj]; simp
    obtain ⟨cur', hh', hs', hf'⟩ := r.set i u
    refine ⟨⟨by simpa using hx, .inr ⟨g, c, cur', rfl, hg, hh', hnc, hmax, by rw [hs', Nat.mul_one]; exact hcs, ?_⟩⟩, ?_, r.frozen i, hg, r.lt⟩
    · rw [Nat.mul_one]
      apply List.ext_getElem?
      intro j
      by_cases hj : j < n
      · rw [List.getElem?_take, if_pos hj, Array.getElem?_toList, hf' j (by omega), List.getElem?_set]
        by_cases e : i = j
        · subst e; simp; omega
        · rw [if_neg e, hget j hj]
          show some (if j = i then u else cur[j]?.getD undef) = cur[j]?
          rw [if_neg (fun h => e h.symm), Array.getElem?_eq_getElem (by omega)]; rfl
      · rw [List.getElem?_eq_none (by simp; omega), List.getElem?_eq_none (by simp; omega)]
    · rw [r.cell hic, hget i hi, Array.getElem?_eq_getElem hic]; rfl
end Go.Proofs.Ytokddcnkfeimkaa
