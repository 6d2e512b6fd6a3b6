/- Plain laws on cabins: the list of a moved cabin, the cabins by their states; no conditions beyond those of each statement. -/
import Derived.Test.YteoajaichjojdaaDoorCbnWays
namespace Go.Proofs.YteoajaichjojdaaDoor

theorem move_law {l M : List Cbn} {x t : Int} {b : Bool} (h : moveC l x t = (M, b)) : M.length ≤ l.length ∧ M.length ≤ 12 ∧ ∀ i, i < M.length → (0 ≤ (nth l i).r ∧ (nth l i).r ≤ 99999) ∧ ((nth l i).t = 1 ∧ (nth M i).t = 0 ∧ (nth M i).r = (nth l i).r + 1 ∨ ¬ ((nth l i).t = 1 ∧ (nth M i).t = 0) ∧ (nth M i).r = (nth l i).r) := by
  unfold moveC at h
  split at h
  · next hc =>
    simp only [Prod.mk.injEq] at h
    obtain ⟨h1, _⟩ := h
    simp only [Bool.and_eq_true] at hc
    have hcm := hc.1
    unfold canMove at hcm
    simp only [Bool.and_eq_true, decide_eq_true_eq] at hcm
    have hg := hcm.1.1
    obtain ⟨g1, g2, _⟩ := goodC_true hg
    subst h1
    have hlen : (moveL l x t).length = l.length := by simp [moveL]
    refine ⟨by omega, by omega, fun i hi => ?_⟩
    have hi' : i < l.length := by omega
    obtain ⟨_, _, _, _, r1, r2⟩ := okC_true.1 (g2 i hi')
    refine ⟨⟨r1, r2⟩, ?_⟩
    unfold moveL
    rw [nth_setC hi']
    split
    · next e =>
      rw [e]
      simp only [movedC]
      by_cases hq : (nth l i).t = 1 ∧ t = 0
      · left; rw [if_pos hq]; exact ⟨hq.1, hq.2, rfl⟩
      · right; rw [if_neg hq]; exact ⟨hq, rfl⟩
    · right
      refine ⟨fun q => ?_, rfl⟩
      have := q.1.symm.trans q.2
      omega
  · simp only [Prod.mk.injEq] at h
    obtain ⟨h1, _⟩ := h
    subst h1
    simp
theorem cabsIn_told {l : List Cbn} {t : Int} {L : List Int} {b : Bool} (h : cabsIn l t = (L, b)) : L.length ≤ l.length ∧ (b = true → goodC l = true) := by
  unfold cabsIn at h
  split at h
  · next c =>
    simp only [Prod.mk.injEq] at h
    simp only [Bool.and_eq_true] at c
    rw [← h.1]
    exact ⟨stTo_len _, fun _ => c.1⟩
  · simp only [Prod.mk.injEq] at h
    rw [← h.1, ← h.2]
    exact ⟨by simp, fun e => by cases e⟩
/-- How many cabins are in the first states. -/
def partC (l : List Cbn) : Nat → Nat
  | 0 => 0
  | k + 1 => partC l k + (stTo l (k : Int) l.length).length
theorem part_all {l : List Cbn} (h : goodC l = true) : partC l 4 = l.length := by
  have g2 := (goodC_true h).2.1
  have key : ∀ m, m ≤ l.length → (stTo l 0 m).length + (stTo l 1 m).length + (stTo l 2 m).length + (stTo l 3 m).length = m := fun m => by
    induction m with
    | zero => intro _; rfl
    | succ m ih =>
      intro hm
      have h1 := ih (by omega)
      obtain ⟨_, _, _, ⟨t1, t2⟩, _⟩ := okC_true.1 (g2 m (by omega))
      simp only [stTo]
      have : (nth l m).t = 0 ∨ (nth l m).t = 1 ∨ (nth l m).t = 2 ∨ (nth l m).t = 3 := by omega
      rcases this with e | e | e | e <;> simp [e] <;> omega
  have := key l.length (Nat.le_refl _)
  simp only [partC]
  simpa using this
theorem part_bd {l : List Cbn} : ∀ k, partC l k ≤ k * l.length
  | 0 => by simp [partC]
  | k + 1 => by have := part_bd (l := l) k; have := stTo_len (l := l) (t := (k : Int)) l.length; simp only [partC]; rw [Nat.succ_mul]; omega
theorem cabsIn_at {l : List Cbn} (h : goodC l = true) {k : Nat} (hk : k < 4) : cabsIn l (k : Int) = (stTo l (k : Int) l.length, true) := by
  have : inR (k : Int) 0 3 = true := inR_true.2 (by omega)
  simp [cabsIn, h, this]
end Go.Proofs.YteoajaichjojdaaDoor
