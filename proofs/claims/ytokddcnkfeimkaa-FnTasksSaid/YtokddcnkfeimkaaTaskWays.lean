/- A plan of tasks gives an order in which they can be done: who has a plan by any means has one by the orders' reckoning, and it ends no later; no conditions but that the tasks are valid. -/
import Derived.Test.YtokddcnkfeimkaaHas
import Derived.Test.YtokddcnkfeimkaaPlan
import Derived.Test.YtokddcnkfeimkaaBusy
import Derived.Test.YtokddcnkfeimkaaDueImpl
namespace Go.Proofs.Ytokddcnkfeimkaa
open Go.RowKit

/-- Done one behind the other where a plan puts them, tasks end no later than the plan. -/
theorem run_plan {J : Nat → Job} {p : Nat → Int} {E : Int} : ∀ (s : List Nat) (t : Int), s.Pairwise (fun i j => p i + (J i).d ≤ p j) → (∀ i, i ∈ s → t ≤ p i ∧ (J i).f ≤ p i ∧ p i + (J i).d - 1 ≤ (J i).u ∧ p i + (J i).d ≤ E) → t ≤ E → ∃ e, runL (stepJ J) t s = some e ∧ e ≤ E
  | [], t, _, _, hE => ⟨t, rfl, hE⟩
  | i :: s, t, hs, hi, _ => by
    obtain ⟨h1, h2, h3, h4⟩ := hi i (by simp)
    have hst : stepJ J i t = some (max t (J i).f + (J i).d) := by
      unfold stepJ; rw [if_pos (by omega)]
    rw [List.pairwise_cons] at hs
    obtain ⟨e, he, hE⟩ := run_plan s (max t (J i).f + (J i).d) hs.2 (fun j hj => by
      have a := hs.1 j hj
      obtain ⟨b1, b2, b3, b4⟩ := hi j (by simp [hj])
      exact ⟨by omega, b2, b3, b4⟩) (by omega)
    exact ⟨e, by rw [runL, hst]; exact he, hE⟩
section
variable {l : List Tsk} {p : List Int}
theorem planB_apart (h : planB l p = true) {i k : Nat} (hk : k < i) (hi : i < l.length) : nth p k + (nth l k).d ≤ nth p i ∨ nth p i + (nth l i).d ≤ nth p k := by
  simp only [planB, Bool.and_eq_true, decide_eq_true_eq, allTo_true] at h
  have := h.2 i hi
  simp only [okP, Bool.and_eq_true, allTo_true, Bool.not_eq_true'] at this
  have := this.2 k hk
  simp only [ovl, hits, Bool.and_eq_false_iff, decide_eq_false_iff_not] at this
  omega
/-- The tasks in the order of the plan's days. -/
def orderP (l : List Tsk) (p : List Int) : List Nat := (List.range l.length).mergeSort fun i j => decide (nth p i ≤ nth p j)
theorem orderP_perm : (orderP l p).Perm (List.range l.length) := List.mergeSort_perm _ _
theorem orderP_ord (l : List Tsk) (p : List Int) : Ord l.length (full l) (orderP l p) := by
  refine ⟨orderP_perm.nodup_iff.2 List.nodup_range, fun i => ?_⟩
  rw [orderP_perm.mem_iff, List.mem_range, full, Nat.testBit_two_pow_sub_one]
  simp
theorem orderP_sorted (hg : ∀ i, i < l.length → okK (nth l i) = true) (h : planB l p = true) : (orderP l p).Pairwise (fun i j => nth p i + (nth l i).d ≤ nth p j) := by
  have h1 : (orderP l p).Pairwise (fun i j => decide (nth p i ≤ nth p j) = true) := List.pairwise_mergeSort (fun a b c h1 h2 => by simp only [decide_eq_true_eq] at h1 h2 ⊢; omega) (fun a b => by simp only [Bool.or_eq_true, decide_eq_true_eq]; omega) _
  have h2 : (orderP l p).Nodup := (orderP_ord l p).1
  have hm : ∀ i, i ∈ orderP l p → i < l.length := fun i hi => ((orderP_ord l p).2 i).1 hi |>.1
  refine (List.Pairwise.and h1 h2).imp_of_mem (fun {i j} hi hj hij => ?_)
  have h3 := of_decide_eq_true hij.1
  have li := hm i hi
  have lj := hm j hj
  obtain ⟨_, ⟨d1, _⟩, _⟩ := okK_true.1 (hg i li)
  obtain ⟨_, ⟨d2, _⟩, _⟩ := okK_true.1 (hg j lj)
  rcases Nat.lt_trichotomy i j with hlt | e | hlt
  · rcases planB_apart h hlt lj with h | h <;> omega
  · exact absurd e hij.2
  · rcases planB_apart h hlt li with h | h <;> omega
/-- Who has a plan has one by the orders' reckoning, and the earliest end is no later than the plan's. -/
theorem plan_has (hg : l.length ≤ 8 ∧ ∀ i, i < l.length → okK (nth l i) = true) (h : planB l p = true) {E : Int} (hE : ∀ i, i < l.length → nth p i + (nth l i).d ≤ E) (h0 : 0 ≤ E) : has l = true ∧ eOf l (full l) ≤ E := by
  obtain ⟨hlen, hin⟩ := planB_in h
  have hm : ∀ i, i ∈ orderP l p → i < l.length := fun i hi => ((orderP_ord l p).2 i).1 hi |>.1
  obtain ⟨e, he, hle⟩ := run_plan (J := jobs l) (p := fun i => nth p i) (E := E) (orderP l p) 0 (orderP_sorted hg.2 h) (fun i hi => by
    have li := hm i hi
    obtain ⟨_, ⟨d1, _⟩, ⟨f1, _⟩, _⟩ := okK_true.1 (hg.2 i li)
    obtain ⟨q1, q2⟩ := hin i li
    unfold lastS at q2
    have := hE i li
    simp only [jobs]
    exact ⟨by omega, q1, by omega, this⟩) h0
  have hL := endE_least (J := jobs l) hg.1 (fun i hi => by
    obtain ⟨_, ⟨d1, _⟩, ⟨f1, _⟩, _⟩ := okK_true.1 (hg.2 i hi)
    exact ⟨f1, d1⟩) (full l) (full l) (Nat.le_refl _) full_lt
  rcases hL with ⟨_, hno⟩ | ⟨h1, _, h3⟩
  · exact absurd ⟨_, orderP_ord l p, he⟩ (hno e)
  · have := h3 e ⟨_, orderP_ord l p, he⟩
    refine ⟨decide_eq_true h1, ?_⟩
    unfold eOf; omega
/-- All days of a plan are busy days of the whole span. -/
def daysTo (l : List Tsk) : Nat → Int
  | 0 => 0
  | k + 1 => daysTo l k + (nth l k).d
def lateTo (l : List Tsk) (p : List Int) : Nat → Int
  | 0 => 0
  | k + 1 => if lateTo l p k < nth p k + (nth l k).d - 1 then nth p k + (nth l k).d - 1 else lateTo l p k
theorem lateTo_up : ∀ (k d : Nat), lateTo l p k ≤ lateTo l p (k + d)
  | _, 0 => Int.le_refl _
  | k, d + 1 => by
    have := lateTo_up k d
    rw [← Nat.add_assoc, lateTo]; split <;> omega
theorem lateTo_at {i : Nat} (hi : i < l.length) : nth p i + (nth l i).d - 1 ≤ lateTo l p l.length := by
  have h1 : nth p i + (nth l i).d - 1 ≤ lateTo l p (i + 1) := by rw [lateTo]; split <;> omega
  have h2 := lateTo_up (l := l) (p := p) (i + 1) (l.length - (i + 1))
  rw [show i + 1 + (l.length - (i + 1)) = l.length by omega] at h2
  omega
theorem lateTo_ge : ∀ k, 0 ≤ lateTo l p k
  | 0 => Int.le_refl _
  | k + 1 => by have := lateTo_ge k; rw [lateTo]; split <;> omega
theorem busy_all (hg : ∀ i, i < l.length → okK (nth l i) = true) (h : planB l p = true) : ∀ k, k ≤ l.length → busyTo l p 0 400 k = daysTo l k
  | 0, _ => rfl
  | k + 1, hk => by
    rw [busyTo, daysTo, busy_all hg h k (by omega)]
    obtain ⟨_, ⟨d1, _⟩, ⟨f1, _⟩, ⟨u1, u2⟩⟩ := okK_true.1 (hg k (by omega))
    obtain ⟨q1, q2⟩ := (planB_in h).2 k (by omega)
    unfold lastS at q2
    unfold busyOne; omega
theorem daysTo_bd (hg : ∀ i, i < l.length → okK (nth l i) = true) : ∀ k, k ≤ l.length → 0 ≤ daysTo l k ∧ daysTo l k ≤ 30 * k
  | 0, _ => by simp [daysTo]
  | k + 1, hk => by
    have := daysTo_bd hg k (by omega)
    obtain ⟨_, ⟨d1, d2⟩, _⟩ := okK_true.1 (hg k (by omega))
    rw [daysTo]; omega
/-- The earliest end is no later than a plan's. -/
theorem end_le (hg : l.length ≤ 8 ∧ ∀ i, i < l.length → okK (nth l i) = true) (h : planB l p = true) : max 0 (eOf l (full l) - 1) ≤ lateTo l p l.length := by
  have h0 := lateTo_ge (l := l) (p := p) l.length
  have := (plan_has hg h (E := lateTo l p l.length + 1) (fun i hi => by have := lateTo_at (l := l) (p := p) hi; omega) (by omega)).2
  omega
/-! What the statement over plans asks. -/
theorem due_plan (h : (dueP l).2 = true) : goodK l = true ∧ planB l (dueP l).1 = true ∧ (dueP l).1.length = l.length := by
  unfold dueP at h ⊢
  by_cases h1 : (goodK l && planB l (byDue l)) = true
  · rw [if_pos h1]
    simp only [Bool.and_eq_true] at h1
    exact ⟨h1.1, h1.2, (planB_in h1.2).1⟩
  · rw [if_neg h1] at h; cases h
theorem hasP_of (hg : goodK l = true) (h : planB l p = true) : hasP l = (true, true) := by
  have hk := goodK_true hg
  have := (plan_has hk h (E := lateTo l p l.length + 1) (fun i hi => by have := lateTo_at (l := l) (p := p) hi; omega) (by have := lateTo_ge (l := l) (p := p) l.length; omega)).1
  rw [hasP, if_pos hg, this]
theorem endP_told : (endP l).2 = (hasP l).1 := by
  unfold endP hasP
  rcases hg : goodK l with _ | _ <;> rcases hh : has l with _ | _ <;> rfl
theorem hasP_told : (hasP l).2 = goodK l := by
  unfold hasP; split
  · next h => exact h.symm
  · next h => simpa using h
theorem endP_le (hg : goodK l = true) (h : planB l p = true) : (endP l).1 ≤ lateTo l p l.length := by
  have hh := hasP_of hg h
  rw [hasP, if_pos hg] at hh
  have hh' : has l = true := congrArg Prod.fst hh
  unfold endP
  rw [if_pos (by simp [hg, hh'])]
  exact end_le (goodK_true hg) h
theorem busy_plan (hg : goodK l = true) (h : planB l p = true) : busy l p 0 400 = (daysTo l l.length, true) := by
  rw [busy_yes (by simp [hg, h, inR]), busy_all (goodK_true hg).2 h l.length (Nat.le_refl _)]
end
end Go.Proofs.Ytokddcnkfeimkaa
