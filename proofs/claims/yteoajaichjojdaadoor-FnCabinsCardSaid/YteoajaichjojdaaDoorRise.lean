/- Lists that rise: insertion, members, places; no conditions. -/
import Derived.Test.YteoajaichjojdaaDoorPut
namespace Go.Proofs.YteoajaichjojdaaDoor
open Go.RowKit

/-- Insertion into a falling list. -/
def insQ (x : Int) : List Int → List Int
  | [] => [x]
  | y :: q => if x < y then y :: insQ x q else x :: y :: q
def isQ (o : List Int) : List Int := o.foldl (fun q x => insQ x q) []
def isort (o : List Int) : List Int := (isQ o).reverse
theorem insQ_len (x : Int) : ∀ q : List Int, (insQ x q).length = q.length + 1
  | [] => rfl
  | y :: q => by rw [insQ]; split <;> simp [insQ_len x q]
theorem isQ_snoc (o : List Int) (x : Int) : isQ (o ++ [x]) = insQ x (isQ o) := by simp [isQ]
theorem isQ_len (o : List Int) : (isQ o).length = o.length := by
  have h : ∀ (o q : List Int), (o.foldl (fun q x => insQ x q) q).length = q.length + o.length := fun o => by
    induction o with
    | nil => intro q; rfl
    | cons x o ih => intro q; rw [List.foldl_cons, ih, insQ_len]; simp; omega
  have := h o []
  simpa [isQ] using this
theorem isort_len (o : List Int) : (isort o).length = o.length := by rw [isort, List.length_reverse, isQ_len]
def Falling (q : List Int) : Prop := q.Pairwise (fun a b => b < a)
theorem insQ_mem (x z : Int) : ∀ q : List Int, z ∈ insQ x q ↔ z = x ∨ z ∈ q
  | [] => by simp [insQ]
  | y :: q => by
    rw [insQ]; split
    · rw [List.mem_cons, insQ_mem x z q, List.mem_cons]
      constructor
      · rintro (h | h | h)
        · exact .inr (.inl h)
        · exact .inl h
        · exact .inr (.inr h)
      · rintro (h | h | h)
        · exact .inr (.inl h)
        · exact .inl h
        · exact .inr (.inr h)
    · rw [List.mem_cons]
theorem insQ_falling {x : Int} : ∀ {q : List Int}, Falling q → x ∉ q → Falling (insQ x q)
  | [], _, _ => by simp [insQ, Falling]
  | y :: q, h, hx => by
    obtain ⟨h1, h2⟩ := List.pairwise_cons.1 h
    have hx' : x ≠ y ∧ x ∉ q := by simpa using hx
    rw [insQ]; split
    · next c =>
      refine List.pairwise_cons.2 ⟨fun z hz => ?_, insQ_falling h2 hx'.2⟩
      rcases (insQ_mem x z q).1 hz with rfl | hz
      · exact c
      · exact h1 z hz
    · next c =>
      refine List.pairwise_cons.2 ⟨fun z hz => ?_, h⟩
      rcases List.mem_cons.1 hz with rfl | hz
      · omega
      · have := h1 z hz; omega
theorem isQ_mem (z : Int) (u : List Int) : z ∈ isQ u ↔ z ∈ u := by
  have h : ∀ (u q : List Int), z ∈ u.foldl (fun q x => insQ x q) q ↔ z ∈ u ∨ z ∈ q := fun u => by
    induction u with
    | nil => intro q; simp
    | cons x u ih =>
      intro q
      rw [List.foldl_cons, ih, insQ_mem, List.mem_cons]
      constructor
      · rintro (h | h | h)
        · exact .inl (.inr h)
        · exact .inl (.inl h)
        · exact .inr h
      · rintro ((h | h) | h)
        · exact .inr (.inl h)
        · exact .inl h
        · exact .inr (.inr h)
  have := h u []
  simpa [isQ] using this
theorem isort_mem {z : Int} {u : List Int} : z ∈ isort u ↔ z ∈ u := by rw [isort, List.mem_reverse, isQ_mem]
theorem places {x : Int} : ∀ {q : List Int}, Falling q → x ∉ q → ∃ k, Places q.reverse x k ∧ (insQ x q).reverse = q.reverse.take k ++ [x] ++ q.reverse.drop k
  | [], _, _ => ⟨0, ⟨by simp, fun j hj => absurd hj (by omega), fun j _ hj => absurd hj (by simp)⟩, rfl⟩
  | y :: q, h, hx => by
    obtain ⟨h1, h2⟩ := List.pairwise_cons.1 h
    have hx' : x ≠ y ∧ x ∉ q := by simpa using hx
    have at_ : ∀ j, j < q.length → nth (y :: q).reverse j = nth q.reverse j := fun j hj => by
      rw [nth_eq (by simp; omega), nth_eq (by simpa using hj)]
      simp [hj]
    have last : nth (y :: q).reverse q.length = y := by
      rw [nth_eq (by simp)]; simp
    rw [insQ]; split
    · next c =>
      obtain ⟨k, ⟨hk, hlo, hhi⟩, he⟩ := places h2 hx'.2
      have hk' : k ≤ q.length := by simpa using hk
      refine ⟨k, ⟨by simp; omega, fun j hj => by rw [at_ j (by omega)]; exact hlo j hj, fun j hj hjl => ?_⟩, ?_⟩
      · by_cases e : j = q.length
        · subst e; rw [last]; exact c
        · have : j < q.length := by simp at hjl; omega
          rw [at_ j this]; exact hhi j hj (by simpa using this)
      · rw [List.reverse_cons, he, List.reverse_cons, List.take_append_of_le_length hk, List.drop_append_of_le_length hk]; simp
    · next c =>
      refine ⟨q.length + 1, ⟨by simp, fun j hj => ?_, fun j hj hjl => absurd hjl (by simp; omega)⟩, ?_⟩
      · by_cases e : j = q.length
        · subst e; rw [last]; omega
        · rw [at_ j (by omega)]
          have hm : nth q.reverse j ∈ q := by have := nth_mem (l := q.reverse) (i := j) (by simp; omega); simpa using this
          have := h1 _ hm; omega
      · rw [List.take_of_length_le (by simp), List.drop_eq_nil_of_le (by simp)]; simp
theorem falling_le : ∀ {q : List Int} {n : Nat}, Falling q → (∀ z ∈ q, 0 ≤ z ∧ z < n) → q.length ≤ n
  | [], _, _, _ => by simp
  | y :: q, n, h, hm => by
    obtain ⟨h1, h2⟩ := List.pairwise_cons.1 h
    obtain ⟨hy0, hyn⟩ := hm y List.mem_cons_self
    have := falling_le (n := y.toNat) h2 fun z hz => by
      have := h1 z hz
      have := hm z (List.mem_cons_of_mem _ hz)
      omega
    simp only [List.length_cons]; omega
theorem len_le {n : Nat} {u : List Int} (hf : Falling (isQ u)) (hm : ∀ z ∈ u, ∃ i : Nat, z = i ∧ i < n) : u.length ≤ n := by
  rw [← isQ_len u]
  refine falling_le hf fun z hz => ?_
  obtain ⟨i, rfl, hi⟩ := hm z ((isQ_mem z u).1 hz)
  omega
end Go.Proofs.YteoajaichjojdaaDoor
