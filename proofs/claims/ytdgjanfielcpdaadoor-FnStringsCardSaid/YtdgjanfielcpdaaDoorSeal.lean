/- Texts with a checksum, in plain lists of bytes: any byte that is changed is detected; no conditions beyond those of each statement. -/
import Derived.Test.YtdgjanfielcpdaaDoorRead
namespace Go.Proofs.YtdgjanfielcpdaaDoor

def stepH (h : Nat) (b : UInt8) : Nat := (41 * h + b.toNat + 1) % 999979
def hashFrom (h : Nat) (l : List UInt8) : Nat := l.foldl stepH h
def hashL (l : List UInt8) : Nat := hashFrom 7 l
theorem stepH_lt (h : Nat) (b : UInt8) : stepH h b < 999979 := Nat.mod_lt _ (by omega)
theorem hashFrom_lt : ∀ (l : List UInt8) (h : Nat), h < 999979 → hashFrom h l < 999979
  | [], _, hh => hh
  | b :: l, h, _ => hashFrom_lt l _ (stepH_lt h b)
theorem hashL_lt (l : List UInt8) : hashL l < 999979 := hashFrom_lt l 7 (by omega)
theorem stepH_inj {h h' : Nat} {b : UInt8} (h1 : h < 999979) (h2 : h' < 999979) (he : stepH h b = stepH h' b) : h = h' := by
  unfold stepH at he
  omega
theorem stepH_byte {h : Nat} {b b' : UInt8} (he : stepH h b = stepH h b') : b = b' := by
  unfold stepH at he
  have h1 := b.toNat_lt
  have h2 := b'.toNat_lt
  refine UInt8.toNat_inj.1 ?_
  omega
theorem hashFrom_inj : ∀ (l : List UInt8) {h h' : Nat}, h < 999979 → h' < 999979 → hashFrom h l = hashFrom h' l → h = h'
  | [], _, _, _, _, he => he
  | b :: l, h, h', h1, h2, he => stepH_inj h1 h2 (hashFrom_inj l (stepH_lt _ _) (stepH_lt _ _) he)
theorem hash_set : ∀ (l : List UInt8) (h k : Nat) (b : UInt8), h < 999979 → l[k]? ≠ some b → k < l.length → hashFrom h (l.set k b) ≠ hashFrom h l
  | [], _, _, _, _, _, hk => absurd hk (by simp)
  | x :: l, h, 0, b, hh, hb, _ => fun he => by
    have h1 : stepH h b = stepH h x := hashFrom_inj l (stepH_lt _ _) (stepH_lt _ _) he
    exact hb (by rw [stepH_byte h1]; rfl)
  | x :: l, h, k + 1, b, _, hb, hk => hash_set l (stepH h x) k b (stepH_lt _ _) (by simpa using hb) (by simpa using hk)
def sealL (x : List UInt8) : List UInt8 := x ++ 35 :: num (hashL x)
def cutL (s : List UInt8) : List UInt8 := s.takeWhile fun b => b != 35
theorem cut_at {x r : List UInt8} (h : (35 : UInt8) ∉ x) : cutL (x ++ 35 :: r) = x := by
  unfold cutL
  rw [List.takeWhile_append_of_pos (fun b hb => by
    have : b ≠ 35 := fun e => h (e ▸ hb)
    simpa using this)]
  simp
theorem cut_all {s : List UInt8} (h : (35 : UInt8) ∉ s) : cutL s = s := by
  unfold cutL
  have := List.takeWhile_append_of_pos (p := fun b : UInt8 => b != 35) (l₁ := s) (l₂ := []) (fun b hb => by
    have : b ≠ 35 := fun e => h (e ▸ hb)
    simpa using this)
  simpa using this
theorem cut_seal {x : List UInt8} (h : (35 : UInt8) ∉ x) : cutL (sealL x) = x := cut_at h
theorem num_no35 {n : Int} : (35 : UInt8) ∉ num n := fun h => by
  rcases num_byte h with h | h
  · exact absurd h (by decide)
  · simp at h
theorem set_left {x r : List UInt8} {k : Nat} {b : UInt8} (h : k < x.length) : (x ++ r).set k b = x.set k b ++ r := List.set_append_left _ _ h
theorem set_parts {x r : List UInt8} {k : Nat} {b : UInt8} (h : k < x.length) : (x ++ r).set k b = x.take k ++ b :: (x.drop (k + 1) ++ r) := by
  rw [set_left h, List.set_eq_take_append_cons_drop, if_pos h]
  simp
/-- A byte that is changed is detected. -/
theorem seal_found {x : List UInt8} {k : Nat} {b : UInt8} (hx : (35 : UInt8) ∉ x) (hk : k < (sealL x).length) (hb : (sealL x)[k]? ≠ some b) :
    sealL (cutL ((sealL x).set k b)) ≠ (sealL x).set k b := by
  rcases Nat.lt_or_ge k x.length with h | h
  · have hb' : x[k]? ≠ some b := by
      unfold sealL at hb
      rwa [List.getElem?_append_left h] at hb
    by_cases h35 : b = 35
    · subst h35
      have hp : (35 : UInt8) ∉ x.take k := fun hm => hx (List.mem_of_mem_take hm)
      unfold sealL at *
      rw [set_parts h, cut_at hp]
      intro e
      have e1 := List.append_cancel_left e
      simp only [List.cons.injEq, true_and] at e1
      have : (35 : UInt8) ∈ num (hashL (x.take k)) := by rw [e1]; simp
      exact num_no35 this
    · have hp : (35 : UInt8) ∉ x.set k b := fun hm => by
        rcases List.mem_or_eq_of_mem_set hm with hm | hm
        · exact hx hm
        · exact h35 hm.symm
      have e0 : (sealL x).set k b = x.set k b ++ 35 :: num (hashL x) := by unfold sealL; rw [set_left h]
      rw [e0, cut_at hp]
      intro e
      unfold sealL at e
      have e1 := List.append_cancel_left e
      simp only [List.cons.injEq, true_and] at e1
      have e2 := num_inj e1
      exact hash_set x 7 k b (by omega) hb' h (by unfold hashL at e2; omega)
  · rcases Nat.eq_or_lt_of_le h with h | h
    · subst h
      have hb' : b ≠ 35 := fun e => by subst e; exact hb (by unfold sealL; simp)
      have e0 : (sealL x).set x.length b = x ++ b :: num (hashL x) := by
        unfold sealL
        rw [List.set_append_right _ _ (Nat.le_refl _), Nat.sub_self]; rfl
      have hp : (35 : UInt8) ∉ x ++ b :: num (hashL x) := fun hm => by
        rcases List.mem_append.1 hm with hm | hm
        · exact hx hm
        · rcases List.mem_cons.1 hm with hm | hm
          · exact hb' hm.symm
          · exact num_no35 hm
      rw [e0, cut_all hp]
      intro e
      have := congrArg List.length e
      unfold sealL at this
      simp at this
    · obtain ⟨j, rfl⟩ : ∃ j, k = x.length + (j + 1) := ⟨k - x.length - 1, by omega⟩
      have e0 : (sealL x).set (x.length + (j + 1)) b = x ++ 35 :: (num (hashL x)).set j b := by
        unfold sealL
        rw [List.set_append_right _ _ (by omega), Nat.add_sub_cancel_left]; rfl
      have hj : j < (num (hashL x)).length := by unfold sealL at hk; simp at hk; omega
      rw [e0, cut_at hx]
      intro e
      unfold sealL at e
      have e1 := List.append_cancel_left e
      simp only [List.cons.injEq, true_and] at e1
      refine hb ?_
      unfold sealL
      rw [List.getElem?_append_right (by omega), Nat.add_sub_cancel_left, List.getElem?_cons_succ, e1]
      simp [hj]
end Go.Proofs.YtdgjanfielcpdaaDoor
