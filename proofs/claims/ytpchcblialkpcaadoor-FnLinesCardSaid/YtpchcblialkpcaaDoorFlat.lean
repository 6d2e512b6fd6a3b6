/- Lists as the cells that they lie in; no conditions. -/
import Derived.Test.YtpchcblialkpcaaDoorPush
namespace Go.Proofs.YtpchcblialkpcaaDoor
open Go.RowKit
section
variable {α : Type} {k : Nat} {cells : α → List Value}
def flat (cells : α → List Value) (l : List α) : List Value := (l.map cells).flatten
theorem flat_len (hk : ∀ x : α, (cells x).length = k) : ∀ l : List α, (flat cells l).length = l.length * k
  | [] => by simp [flat]
  | x :: l => by
    have ih := flat_len hk l
    unfold flat at ih ⊢
    rw [List.map_cons, List.flatten_cons, List.length_append, hk, ih, List.length_cons, Nat.add_mul]; omega
theorem flat_app (p q : List α) : flat cells p ++ flat cells q = flat cells (p ++ q) := by simp [flat]
theorem flat_nil : flat cells ([] : List α) = [] := rfl
theorem flat_one (x : α) : flat cells [x] = cells x := by simp [flat]
theorem flat_cells (h1 : ∀ x : α, ∀ u ∈ cells x, u.oneCell' = true) (l : List α) : ∀ u ∈ flat cells l, u.oneCell' = true := fun u hu => by
  obtain ⟨c, hc, hu⟩ := List.mem_flatten.1 hu
  obtain ⟨x, _, rfl⟩ := List.mem_map.1 hc
  exact h1 x u hu
variable [Inhabited α]
theorem flat_at (hk : ∀ x : α, (cells x).length = k) (h0 : 0 < k) : ∀ (l : List α) (j : Nat) (u : Value), (flat cells l)[j]? = some u → j / k < l.length ∧ (cells (nth l (j / k)))[j % k]? = some u
  | [], j, u, h => by simp [flat] at h
  | x :: l, j, u, h => by
    unfold flat at h
    rw [List.map_cons, List.flatten_cons] at h
    by_cases hj : j < k
    · rw [List.getElem?_append_left (by rw [hk]; exact hj)] at h
      rw [Nat.div_eq_of_lt hj, Nat.mod_eq_of_lt hj]
      exact ⟨by simp, by simpa [nth] using h⟩
    · rw [List.getElem?_append_right (by rw [hk]; omega), hk] at h
      obtain ⟨h1, h2⟩ := flat_at hk h0 l (j - k) u h
      have e : j = (j - k) + k := by omega
      have e1 : j / k = (j - k) / k + 1 := by rw [show j / k = ((j - k) + k) / k by rw [← e], Nat.add_div_right _ h0]
      have e2 : j % k = (j - k) % k := by rw [show j % k = ((j - k) + k) % k by rw [← e], Nat.add_mod_right]
      rw [e1, e2]
      exact ⟨by simp only [List.length_cons]; omega, by simpa [nth] using h2⟩
/-- A list that reads at an address lies there cell by cell. -/
theorem Rd.news {w W : World} {B b off : Nat} {p : List α} (h : Rd w B k cells (some ⟨b, off, none⟩) p) (hb : Below B w W) (hk : ∀ x : α, (cells x).length = k) (h0 : 0 < k) : ∀ j u, (flat cells p)[j]? = some u → W.cell? ⟨b, off + j, none⟩ = some u := fun j u hj => by
  obtain ⟨h1, h2⟩ := flat_at hk h0 p j u hj
  obtain ⟨b', off', he, hlt, hc⟩ := (h.below hb (Nat.le_refl _)) (j / k) h1
  simp only [Option.some.injEq, Addr.mk.injEq, and_true] at he
  obtain ⟨rfl, rfl⟩ := he
  rw [← hc (j % k) u h2]
  congr 2
  have := Nat.div_add_mod j k
  rw [Nat.mul_comm] at this
  omega
/-- A part of a list that reads. -/
theorem Rd.drop {w : World} {B b off : Nat} {l : List α} (h : Rd w B k cells (some ⟨b, off, none⟩) l) (n : Nat) : Rd w B k cells (some ⟨b, off + n * k, none⟩) (l.drop n) := fun i hi => by
  have hi' : n + i < l.length := by simp at hi; omega
  obtain ⟨b', off', he, hlt, hc⟩ := h (n + i) hi'
  simp only [Option.some.injEq, Addr.mk.injEq, and_true] at he
  obtain ⟨rfl, rfl⟩ := he
  refine ⟨b, off + n * k, rfl, hlt, fun j v hv => ?_⟩
  rw [show nth (l.drop n) i = nth l (n + i) by rw [nth_eq hi, nth_eq hi']; simp] at hv
  rw [← hc j v hv]
  congr 2
  rw [Nat.add_mul]; omega
theorem Rd.empty {w : World} {B : Nat} {A : Option Addr} : Rd w B k cells A ([] : List α) := fun i hi => absurd hi (by simp)
/-- What append left, as a list of the call's own. -/
theorem own_flat {w : World} {base n cap : Nat} {T : TypeId} {A : Option Addr} {xs : List Value} {l : List α} (h : w.ownsRow base T k (.slice A n cap) n xs) (hn : n = l.length) (hx : xs = flat cells l) (hk : ∀ x : α, (cells x).length = k) : Own w base T k cells A l := Own.of_row' h hn hx hk
end
theorem heap_drawn (W : World) (o : Obj) {g : Nat} (h : g = W.heap.size) : (W.alloc o).drew.heap[g]? = some o := by subst h; exact heap_alloc_new W o
/-- The room that slices.Grow makes. -/
theorem ownsRow_room {w : World} {base size cap : Nat} {e : TypeId} {cs : Array Value} (hc : cs.size = cap * size) (hm : cap ≤ maxLen) (hb : base ≤ w.heap.size) : (w.alloc (.cells cs e)).ownsRow base e size (.slice (some ⟨w.heap.size, 0, none⟩) 0 cap) 0 [] :=
  ⟨by simp, .inr ⟨w.heap.size, cap, cs, rfl, hb, heap_alloc_new w _, Nat.zero_le _, hm, hc, by simp⟩⟩
end Go.Proofs.YtpchcblialkpcaaDoor
