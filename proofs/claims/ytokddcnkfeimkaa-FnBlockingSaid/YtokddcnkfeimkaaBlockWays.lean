/- Which tasks block, and tasks with an added one, in plain lists; no conditions but that the tasks are valid. -/
import Derived.Test.YtokddcnkfeimkaaHas
import Derived.Test.YtokddcnkfeimkaaBlock
import Derived.Test.YtokddcnkfeimkaaAdd
import Derived.Test.YtokddcnkfeimkaaSlack
namespace Go.Proofs.Ytokddcnkfeimkaa
open Go.RowKit

section
variable {l : List Tsk} {p : List Int}
theorem nth_less {i j : Nat} (hi : i < l.length) (_hj : j < l.length - 1) : nth (less l i) j = if j < i then nth l j else nth l (j + 1) := by
  unfold nth less
  rw [List.getD_eq_getElem?_getD]
  by_cases h : j < i
  · rw [if_pos h, List.getElem?_append_left (by simp; omega), List.getElem?_take, if_pos h, List.getD_eq_getElem?_getD]
  · rw [if_neg h, List.getElem?_append_right (by simp; omega), List.getElem?_drop, List.length_take, show min i l.length = i by omega, show i + 1 + (j - i) = j + 1 by omega, List.getD_eq_getElem?_getD]
theorem good_lt (h : goodK l = true) {i j : Nat} (hij : i < j) (hj : j < l.length) : (nth l i).i < (nth l j).i := by
  have h1 := good_step h (i := i) (by omega)
  have h2 := good_mono h (i := i + 1) (j := j) hij hj
  omega
theorem good_make (hn : l.length ≤ 8) (ho : ∀ i, i < l.length → okK (nth l i) = true) (hs : ∀ i, i + 1 < l.length → (nth l i).i < (nth l (i + 1)).i) : goodK l = true := by
  simp only [goodK, Bool.and_eq_true, decide_eq_true_eq, allTo_true]
  refine ⟨fun i hi => ⟨ho i hi, ?_⟩, hn⟩
  simp only [prevK, Bool.or_eq_true, decide_eq_true_eq]
  rcases i with _ | i
  · exact .inl rfl
  · exact .inr (hs i hi)
/-- Without one of them tasks stay in order. -/
theorem less_good (h : goodK l = true) {i : Nat} (hi : i < l.length) : goodK (less l i) = true := by
  have hg := goodK_true h
  obtain ⟨g1, g2⟩ := less_ok hi hg
  refine good_make g1 g2 fun j hj => ?_
  rw [less_len hi] at hj
  rw [nth_less hi (by omega), nth_less hi hj]
  by_cases h1 : j + 1 < i
  · rw [if_pos (by omega), if_pos h1]; exact good_lt h (by omega) (by omega)
  · rw [if_neg h1]
    by_cases h2 : j < i
    · rw [if_pos h2]; exact good_lt h (by omega) (by omega)
    · rw [if_neg h2]; exact good_lt h (by omega) (by omega)
theorem mem_blkTo (h : goodK l = true) {i : Nat} (hi : i < l.length) : ∀ {k : Nat}, k ≤ l.length → ((nth l i).i ∈ blkTo l k ↔ i < k ∧ has (less l i) = true)
  | 0, _ => by simp [blkTo]
  | k + 1, hk => by
    have ih := mem_blkTo h hi (k := k) (by omega)
    have hne : i ≠ k → (nth l i).i ≠ (nth l k).i := fun hik => by
      rcases Nat.lt_or_gt_of_ne hik with h1 | h1
      · have := good_lt h h1 (by omega); omega
      · have := good_lt h h1 hi; omega
    rcases hb : has (less l k) with _ | _
    · rw [blkTo_no hb, ih]
      constructor
      · rintro ⟨a, b⟩; exact ⟨by omega, b⟩
      · rintro ⟨a, b⟩
        by_cases e : i = k
        · subst e; rw [hb] at b; cases b
        · exact ⟨by omega, b⟩
    · rw [blkTo_yes hb, List.mem_append, ih, List.mem_singleton]
      constructor
      · rintro (⟨a, b⟩ | e)
        · exact ⟨by omega, b⟩
        · by_cases e' : i = k
          · subst e'; exact ⟨by omega, hb⟩
          · exact absurd e (hne e')
      · rintro ⟨a, b⟩
        by_cases e : i = k
        · right; rw [e]
        · left; exact ⟨by omega, b⟩
/-- A task blocks just if without it there is a plan. -/
theorem block_has (h : (blockP l).2 = true) {i : Nat} (hi : i < l.length) : decide ((nth l i).i ∈ (blockP l).1) = has (less l i) ∧ goodK l = true := by
  unfold blockP at h ⊢
  by_cases h1 : (goodK l && !has l) = true
  · rw [if_pos h1]
    simp only [Bool.and_eq_true] at h1
    have hm := mem_blkTo h1.1 hi (Nat.le_refl l.length)
    refine ⟨?_, h1.1⟩
    rw [Bool.eq_iff_iff]
    simp only [decide_eq_true_eq]
    rw [hm]
    exact ⟨fun h => h.2, fun h => ⟨hi, h⟩⟩
  · rw [if_neg h1] at h; cases h
theorem blockP_len : (blockP l).1.length ≤ l.length := by
  unfold blockP; split
  · exact blkTo_len _
  · simp
theorem nth_ins {x : Tsk} : nth (ins l x) (scan l x) = x := by
  have := scan_le l x
  unfold nth ins
  rw [List.getD_eq_getElem?_getD, List.getElem?_append_right (by rw [List.length_take]; omega), List.length_take, show scan l x - min (scan l x) l.length = 0 by omega]
  rfl
/-- Tasks with an added one have a plan, and the added one has some slack. -/
theorem add_plan {x : Tsk} (h : (addP l x).2 = true) : (addP l x).1 = ins l x ∧ hasP (ins l x) = (true, true) ∧ ∃ s, slack (ins l x) x.i = (s, true) ∧ 0 ≤ s := by
  unfold addP at h ⊢
  by_cases h1 : (goodK l && goodK (ins l x) && has (ins l x)) = true
  · rw [if_pos h1]
    simp only [Bool.and_eq_true] at h1
    refine ⟨rfl, by rw [hasP, if_pos h1.1.2, h1.2], ?_⟩
    have hg := goodK_true h1.1.2
    have hsl := scan_le l x
    unfold slack
    rw [if_pos h1.1.2]
    rcases hf : firstOf (ins l x).length (hasId (ins l x) x.i) with _ | k
    · simp only [firstOf, List.find?_eq_none, List.mem_range] at hf
      have := hf (scan l x) (by rw [ins_len]; omega)
      rw [hasId, nth_ins] at this
      simp at this
    · have hk := firstOf_lt hf
      obtain ⟨_, _, _, ⟨u1, _⟩⟩ := okK_true.1 (hg.2 k hk)
      exact ⟨_, rfl, by unfold slackK; omega⟩
  · rw [if_neg h1] at h; cases h
theorem addP_none {x : Tsk} (h : (addP l x).2 = false) : (addP l x).1 = [] := by
  unfold addP at h ⊢
  by_cases h1 : (goodK l && goodK (ins l x) && has (ins l x)) = true
  · rw [if_pos h1] at h; cases h
  · rw [if_neg h1]
end
end Go.Proofs.Ytokddcnkfeimkaa
