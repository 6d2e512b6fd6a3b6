/- Tasks planned by due, in plain Lean: the rounds, and that each round finds a task; no conditions but that the tasks are valid. -/
import Derived.Test.YtokddcnkfeimkaaPlan
import Derived.Test.YtokddcnkfeimkaaArr
namespace Go.Proofs.Ytokddcnkfeimkaa
open Go.RowKit

/-- How many numbers are negative. -/
def neg : List Int → Nat
  | [] => 0
  | x :: p => (if x < 0 then 1 else 0) + neg p
theorem neg_set : ∀ (p : List Int) (i : Nat) (v : Int), i < p.length → neg (p.set i v) + (if nth p i < 0 then 1 else 0) = neg p + (if v < 0 then 1 else 0)
  | [], i, v, h => absurd h (by simp)
  | x :: p, 0, v, _ => by simp only [List.set_cons_zero, neg, nth, List.getD_cons_zero]; omega
  | x :: p, i + 1, v, h => by
    have ih := neg_set p i v (by simpa using h)
    have e : nth (x :: p) (i + 1) = nth p i := by simp [nth]
    rw [e]; simp only [List.set_cons_succ, neg]; omega
theorem neg_ex : ∀ {p : List Int}, 0 < neg p → ∃ i, i < p.length ∧ nth p i < 0
  | [], h => by simp [neg] at h
  | x :: p, h => by
    by_cases hx : x < 0
    · exact ⟨0, by simp, by simpa [nth] using hx⟩
    · have : 0 < neg p := by simp only [neg, if_neg hx] at h; omega
      obtain ⟨i, hi, hn⟩ := neg_ex this
      exact ⟨i + 1, by simpa using hi, by simpa [nth] using hn⟩
theorem neg_replicate : ∀ n : Nat, neg (List.replicate n (-1)) = n
  | 0 => rfl
  | n + 1 => by rw [List.replicate_succ, neg, neg_replicate n]; simp; omega
theorem neg_zero : ∀ {p : List Int}, neg p = 0 → ∀ i, i < p.length → 0 ≤ nth p i
  | [], _, i, hi => absurd hi (by simp)
  | x :: p, h, i, hi => by
    have hx : ¬ x < 0 := fun hx => by simp only [neg, if_pos hx] at h; omega
    have hp : neg p = 0 := by simp only [neg, if_neg hx] at h; omega
    cases i with
    | zero => simp [nth]; omega
    | succ i => simpa [nth] using neg_zero hp i (by simpa using hi)
def firstD (l : List Tsk) (p : List Int) : Nat → Int
  | 0 => 400
  | k + 1 => if nth p k < 0 then min (firstD l p k) (nth l k).f else firstD l p k
def bestD (l : List Tsk) (p : List Int) (day : Int) : Nat → Int
  | 0 => -1
  | k + 1 => if nth p k < 0 ∧ (nth l k).f ≤ day ∧ (bestD l p day k < 0 ∨ (nth l k).u < (nth l (bestD l p day k).toNat).u) then k else bestD l p day k
def dayD (l : List Tsk) (st : List Int × Int) : Int := max st.2 (firstD l st.1 l.length)
def pickD (l : List Tsk) (st : List Int × Int) : Nat := (bestD l st.1 (dayD l st) l.length).toNat
def roundD (l : List Tsk) (st : List Int × Int) : List Int × Int := (st.1.set (pickD l st) (dayD l st), dayD l st + (nth l (pickD l st)).d)
def roundsD (l : List Tsk) : Nat → List Int × Int
  | 0 => (List.replicate l.length (-1), 0)
  | r + 1 => roundD l (roundsD l r)
def byDue (l : List Tsk) : List Int := (roundsD l l.length).1
theorem firstD_le {l : List Tsk} {p : List Int} : ∀ k, firstD l p k ≤ 400
  | 0 => Int.le_refl _
  | k + 1 => by have := firstD_le (l := l) (p := p) k; rw [firstD]; split <;> omega
theorem firstD_ge {l : List Tsk} {p : List Int} (h : ∀ i, i < l.length → 0 ≤ (nth l i).f) : ∀ k, k ≤ l.length → 0 ≤ firstD l p k
  | 0, _ => by simp [firstD]
  | k + 1, hk => by have := firstD_ge (p := p) h k (by omega); have := h k (by omega); rw [firstD]; split <;> omega
theorem firstD_at {l : List Tsk} {p : List Int} : ∀ k, firstD l p k < 400 → ∃ j, j < k ∧ nth p j < 0 ∧ (nth l j).f ≤ firstD l p k
  | 0, h => by simp [firstD] at h
  | k + 1, h => by
    by_cases hp : nth p k < 0
    · have e : firstD l p (k + 1) = min (firstD l p k) (nth l k).f := by rw [firstD, if_pos hp]
      rw [e] at h ⊢
      by_cases hle : (nth l k).f ≤ firstD l p k
      · exact ⟨k, by omega, hp, by omega⟩
      · obtain ⟨j, hj, hn, hf⟩ := firstD_at (l := l) (p := p) k (by omega)
        exact ⟨j, by omega, hn, by omega⟩
    · have e : firstD l p (k + 1) = firstD l p k := by rw [firstD, if_neg hp]
      rw [e] at h ⊢
      obtain ⟨j, hj, hn, hf⟩ := firstD_at k h
      exact ⟨j, by omega, hn, hf⟩
theorem bestD_is {l : List Tsk} {p : List Int} {day : Int} : ∀ k, bestD l p day k = -1 ∨ ∃ j, j < k ∧ bestD l p day k = (j : Int) ∧ nth p j < 0
  | 0 => .inl rfl
  | k + 1 => by
    rw [bestD]; split
    · next h => exact .inr ⟨k, by omega, rfl, h.1⟩
    · rcases bestD_is (l := l) (p := p) (day := day) k with h | ⟨j, hj, h1, h2⟩
      · exact .inl h
      · exact .inr ⟨j, by omega, h1, h2⟩
theorem bestD_ex {l : List Tsk} {p : List Int} {day : Int} {j : Nat} (hn : nth p j < 0) (hf : (nth l j).f ≤ day) : ∀ k, j < k → 0 ≤ bestD l p day k
  | 0, h => absurd h (by omega)
  | k + 1, h => by
    rw [bestD]; split
    · omega
    · next c =>
      by_cases e : j = k
      · subst e
        by_cases hb : bestD l p day j < 0
        · exact absurd ⟨hn, hf, .inl hb⟩ c
        · omega
      · exact bestD_ex hn hf k (by omega)
/-- What holds behind r rounds. -/
structure Due (l : List Tsk) (r : Nat) (st : List Int × Int) : Prop where
  len : st.1.length = l.length
  cnt : neg st.1 + r = l.length
  t0 : 0 ≤ st.2
  t1 : st.2 ≤ 400 + 30 * r
  val : ∀ i, i < l.length → nth st.1 i = -1 ∨ 0 ≤ nth st.1 i
theorem due_pick {l : List Tsk} (hg : ∀ i, i < l.length → okK (nth l i) = true) {r : Nat} {st : List Int × Int} (h : Due l r st) (hr : r < l.length) :
    pickD l st < l.length ∧ bestD l st.1 (dayD l st) l.length = (pickD l st : Nat) ∧ nth st.1 (pickD l st) < 0 ∧ 0 ≤ dayD l st ∧ dayD l st ≤ 400 + 30 * r := by
  have hf := fun i hi => (okK_true.1 (hg i hi)).2.2.1
  obtain ⟨i, hi, hn⟩ := neg_ex (show 0 < neg st.1 by have := h.cnt; omega)
  rw [h.len] at hi
  have ht0 := h.t0
  have ht1 := h.t1
  have hle := firstD_le (l := l) (p := st.1) l.length
  have hd0 : 0 ≤ dayD l st := by unfold dayD; omega
  have hex : ∃ j, j < l.length ∧ nth st.1 j < 0 ∧ (nth l j).f ≤ dayD l st := by
    by_cases h400 : firstD l st.1 l.length < 400
    · obtain ⟨j, hj, hn, hf⟩ := firstD_at _ h400
      exact ⟨j, hj, hn, by unfold dayD; omega⟩
    · exact ⟨i, hi, hn, by have := hf i hi; unfold dayD; omega⟩
  obtain ⟨j, hj, hnj, hfj⟩ := hex
  have hb := bestD_ex hnj hfj l.length hj
  rcases bestD_is (l := l) (p := st.1) (day := dayD l st) l.length with h1 | ⟨q, hq, h1, h2⟩
  · omega
  · have e : pickD l st = q := by unfold pickD; rw [h1]; simp
    exact ⟨by omega, by rw [h1, e], by rw [e]; exact h2, hd0, by unfold dayD; omega⟩
theorem due_round {l : List Tsk} (hg : ∀ i, i < l.length → okK (nth l i) = true) {r : Nat} {st : List Int × Int} (h : Due l r st) (hr : r < l.length) : Due l (r + 1) (roundD l st) := by
  obtain ⟨p1, _, p3, p4, p5⟩ := due_pick hg h hr
  obtain ⟨_, ⟨d1, d2⟩, _⟩ := okK_true.1 (hg _ p1)
  have hs := neg_set st.1 (pickD l st) (dayD l st) (by rw [h.len]; exact p1)
  rw [if_pos p3, if_neg (by omega)] at hs
  have := h.cnt
  refine ⟨by rw [roundD]; simp [h.len], by simp only [roundD]; omega, by simp only [roundD]; omega, by simp only [roundD]; omega, fun i hi => ?_⟩
  simp only [roundD]
  rw [nth_setI (by rw [h.len]; exact hi)]
  split
  · right; omega
  · exact h.val i hi
theorem nth_replicate {n i : Nat} {x : Int} (hi : i < n) : nth (List.replicate n x) i = x := by rw [nth_eq (by simpa using hi), List.getElem_replicate]
theorem due_rounds {l : List Tsk} (hg : ∀ i, i < l.length → okK (nth l i) = true) : ∀ r, r ≤ l.length → Due l r (roundsD l r)
  | 0, _ => ⟨by simp [roundsD], by rw [roundsD, neg_replicate]; omega, Int.le_refl _, by simp [roundsD], fun i hi => .inl (nth_replicate hi)⟩
  | r + 1, hr => due_round hg (due_rounds hg r (by omega)) (by omega)
end Go.Proofs.Ytokddcnkfeimkaa
