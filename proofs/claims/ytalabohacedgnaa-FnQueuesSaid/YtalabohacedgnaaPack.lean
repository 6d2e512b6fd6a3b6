/- Groups packed into cabins, in plain Lean: the search over free seats and the least numbers of all sets agree; no conditions beyond those of each statement. -/
import Derived.Test.YtalabohacedgnaaArr
namespace Go.Proofs.Ytalabohacedgnaa

/-- The sum of what a test picks among the first n. -/
def sumIf (z : Nat → Int) (p : Nat → Bool) : Nat → Int
  | 0 => 0
  | n + 1 => sumIf z p n + (if p n = true then z n else 0)
theorem sumIf_congr {z : Nat → Int} {p q : Nat → Bool} : ∀ {n : Nat}, (∀ i, i < n → p i = q i) → sumIf z p n = sumIf z q n
  | 0, _ => rfl
  | n + 1, h => by rw [sumIf, sumIf, sumIf_congr (n := n) fun i hi => h i (by omega), h n (by omega)]
theorem sumIf_mono {z : Nat → Int} (hz : ∀ i, 0 ≤ z i) {p q : Nat → Bool} : ∀ {n : Nat}, (∀ i, i < n → p i = true → q i = true) → sumIf z p n ≤ sumIf z q n
  | 0, _ => Int.le_refl _
  | n + 1, h => by
    have ih := sumIf_mono hz (n := n) fun i hi => h i (by omega)
    have h1 := h n (by omega)
    have h2 := hz n
    rw [sumIf, sumIf]
    by_cases hp : p n = true
    · rw [if_pos hp, if_pos (h1 hp)]; omega
    · rw [if_neg hp]; split <;> omega
theorem sumIf_none {z : Nat → Int} {p : Nat → Bool} : ∀ {n : Nat}, (∀ i, i < n → p i = false) → sumIf z p n = 0
  | 0, _ => rfl
  | n + 1, h => by rw [sumIf, sumIf_none (n := n) fun i hi => h i (by omega), h n (by omega)]; simp
theorem sumIf_nonneg {z : Nat → Int} (hz : ∀ i, 0 ≤ z i) (p : Nat → Bool) (n : Nat) : 0 ≤ sumIf z p n := by
  have := sumIf_mono hz (p := fun _ => false) (q := p) (n := n) fun i _ h => by cases h
  rwa [sumIf_none fun _ _ => rfl] at this
theorem sumIf_one {z : Nat → Int} (hz : ∀ i, 0 ≤ z i) {p : Nat → Bool} {k : Nat} : ∀ {n : Nat}, (∀ i, i < n → p i = true → i = k) → sumIf z p n ≤ z k
  | 0, _ => hz k
  | n + 1, h => by
    rw [sumIf]
    by_cases hp : p n = true
    · have e := h n (by omega) hp
      rw [if_pos hp, sumIf_none fun i hi => by
        rcases hpi : p i with _ | _
        · rfl
        · have := h i (by omega) hpi; omega]
      subst e; omega
    · rw [if_neg hp]
      have := sumIf_one hz (n := n) fun i hi => h i (by omega)
      omega
/-- Those whom P picks among the first n get into m cabins of s seats. -/
def PackP (z : Nat → Int) (n : Nat) (s : Int) (P : Nat → Bool) (m : Nat) : Prop := ∃ f : Nat → Nat, (∀ i, i < n → P i = true → f i < m) ∧ ∀ k, k < m → sumIf z (fun i => P i && decide (f i = k)) n ≤ s
section
variable {z : Nat → Int} {n m : Nat} {s : Int} {P Q : Nat → Bool}
theorem PackP.congr (h : PackP z n s P m) (e : ∀ i, i < n → P i = Q i) : PackP z n s Q m := by
  obtain ⟨f, h1, h2⟩ := h
  exact ⟨f, fun i hi hq => h1 i hi (by rw [e i hi]; exact hq), fun k hk => by rw [← sumIf_congr (p := fun i => P i && decide (f i = k)) fun i hi => by rw [e i hi]]; exact h2 k hk⟩
theorem PackP.all (hz : ∀ i, 0 ≤ z i) (hs : ∀ i, i < n → z i ≤ s) : PackP z n s P n :=
  ⟨fun i => i, fun i hi _ => hi, fun k hk => Int.le_trans (sumIf_one hz (k := k) fun i _ h => by simp at h; exact h.2) (hs k hk)⟩
theorem PackP.none (h : ∀ i, i < n → P i = false) : PackP z n s P 0 := ⟨fun _ => 0, (fun i hi hp => by rw [h i hi] at hp; cases hp), fun k hk => absurd hk (by omega)⟩
theorem PackP.zero (h : PackP z n s P 0) : ∀ i, i < n → P i = false := fun i hi => by
  obtain ⟨f, h1, _⟩ := h
  rcases hp : P i with _ | _
  · rfl
  · exact absurd (h1 i hi hp) (by omega)
theorem rest_of {a c : Bool} (h : (a && !(a && c)) = true) : a = true ∧ c = false := by cases a <;> cases c <;> simp_all
/-- One cabin is taken away. -/
theorem PackP.less (hz : ∀ i, 0 ≤ z i) (h : PackP z n s P (m + 1)) {i0 : Nat} (hi0 : i0 < n) (hp0 : P i0 = true) :
    ∃ Q : Nat → Bool, (∀ i, i < n → Q i = true → P i = true) ∧ Q i0 = true ∧ sumIf z Q n ≤ s ∧ PackP z n s (fun i => P i && !Q i) m := by
  obtain ⟨f, h1, h2⟩ := h
  have hb := h1 i0 hi0 hp0
  refine ⟨fun i => P i && decide (f i = f i0), fun i _ hq => by simp at hq; exact hq.1, by simp [hp0], h2 _ hb, fun i => if f i = m then f i0 else f i, fun i hi hp => ?_, fun k hk => ?_⟩
  · obtain ⟨hp1, hp2⟩ := rest_of hp
    have := h1 i hi hp1
    have hne := of_decide_eq_false hp2
    simp only
    split
    · next e => omega
    · omega
  · by_cases e : k = f i0
    · refine Int.le_trans (sumIf_mono hz (q := fun i => P i && decide (f i = m)) fun i hi h => ?_) (h2 m (by omega))
      simp only [Bool.and_eq_true, decide_eq_true_eq] at h ⊢
      obtain ⟨h34, h5⟩ := h
      obtain ⟨h3, h4⟩ := rest_of (by simpa using h34 : (P i && !(P i && decide (f i = f i0))) = true)
      have := of_decide_eq_false h4
      refine ⟨h3, ?_⟩
      by_cases e2 : f i = m
      · exact e2
      · rw [if_neg e2] at h5; omega
    · refine Int.le_trans (sumIf_mono hz (q := fun i => P i && decide (f i = k)) fun i hi h => ?_) (h2 k (by omega))
      simp only [Bool.and_eq_true, decide_eq_true_eq] at h ⊢
      obtain ⟨⟨h3, h4⟩, h5⟩ := h
      refine ⟨h3, ?_⟩
      by_cases e2 : f i = m
      · rw [if_pos e2] at h5; omega
      · rw [if_neg e2] at h5; exact h5
/-- One cabin more. -/
theorem PackP.more (hz : ∀ i, 0 ≤ z i) (hs : sumIf z Q n ≤ s) (h : PackP z n s (fun i => P i && !Q i) m) : PackP z n s P (m + 1) := by
  obtain ⟨f, h1, h2⟩ := h
  refine ⟨fun i => if Q i = true then m else f i, fun i hi hp => ?_, fun k hk => ?_⟩
  · simp only; split
    · omega
    · next hq => have := h1 i hi (by simp [hp, hq]); omega
  · by_cases e : k = m
    · refine Int.le_trans (sumIf_mono hz (q := Q) fun i hi h => ?_) hs
      simp at h
      by_cases hq : Q i = true
      · exact hq
      · rw [if_neg hq] at h
        have := h1 i hi (by simp [h.1, hq]); omega
    · refine Int.le_trans (sumIf_mono hz (q := fun i => (P i && !Q i) && decide (f i = k)) fun i hi h => ?_) (h2 k (by omega))
      simp only [Bool.and_eq_true, decide_eq_true_eq] at h ⊢
      by_cases hq : Q i = true
      · rw [if_pos hq] at h; omega
      · rw [if_neg hq] at h; exact ⟨⟨h.1, by simpa using hq⟩, h.2⟩
end
/-! Sets as numbers. -/
def Sub (q S : Nat) : Prop := ∀ i, q.testBit i = true → S.testBit i = true
theorem sub_half {q S : Nat} (h : Sub q S) : Sub (q / 2) (S / 2) ∧ (q % 2 = 1 → S % 2 = 1) := by
  refine ⟨fun i hi => ?_, fun hq => ?_⟩
  · have := h (i + 1)
    rw [Nat.testBit_succ, Nat.testBit_succ] at this
    exact this hi
  · have := h 0
    simp only [Nat.testBit_zero, decide_eq_true_eq] at this
    exact this hq
theorem sub_le : ∀ (m q S : Nat), S ≤ m → Sub q S → q ≤ S ∧ ∀ i, (S - q).testBit i = (S.testBit i && !q.testBit i)
  | 0, q, S, hm, h => by
    obtain rfl : S = 0 := by omega
    have hq : q = 0 := by
      rcases Nat.eq_zero_or_pos q with h0 | h0
      · exact h0
      · obtain ⟨i, hi⟩ := Nat.exists_testBit_of_ne_zero (by omega : q ≠ 0)
        have := h i hi; simp at this
    subst hq
    exact ⟨Nat.le_refl _, fun i => by simp⟩
  | m + 1, q, S, hm, h => by
    obtain ⟨h1, h2⟩ := sub_half h
    by_cases hS : S = 0
    · subst hS
      exact sub_le m q 0 (by omega) h
    obtain ⟨h3, h4⟩ := sub_le m (q / 2) (S / 2) (by omega) h1
    have hle : q ≤ S := by omega
    refine ⟨hle, fun i => ?_⟩
    cases i with
    | zero =>
      simp only [Nat.testBit_zero]
      rcases Nat.mod_two_eq_zero_or_one q with hq | hq <;> rcases Nat.mod_two_eq_zero_or_one S with hs | hs
      · have : (S - q) % 2 = 0 := by omega
        simp [hq, hs, this]
      · have : (S - q) % 2 = 1 := by omega
        simp [hq, hs, this]
      · have := h2 hq; omega
      · have : (S - q) % 2 = 0 := by omega
        simp [hq, hs, this]
    | succ i =>
      rw [Nat.testBit_succ, Nat.testBit_succ, Nat.testBit_succ, show (S - q) / 2 = S / 2 - q / 2 by omega]
      exact h4 i
theorem and_sub (a S : Nat) : Sub (a &&& S) S := fun i h => by
  rw [Nat.testBit_and] at h; simp at h; exact h.2
/-- The next set below part, among those in S. -/
theorem next_sub : ∀ (m q p S : Nat), S ≤ m → Sub q S → Sub p S → q < p → q ≤ (p - 1) &&& S
  | 0, q, p, S, hm, _, hp, hlt => by
    have := (sub_le S p S (Nat.le_refl _) hp).1
    omega
  | m + 1, q, p, S, hm, hq, hp, hlt => by
    obtain ⟨q1, q2⟩ := sub_half hq
    obtain ⟨p1, p2⟩ := sub_half hp
    have hpS := (sub_le S p S (Nat.le_refl _) hp).1
    have hand : ((p - 1) &&& S) / 2 = ((p - 1) / 2) &&& (S / 2) := by
      refine Nat.eq_of_testBit_eq fun i => ?_
      rw [← Nat.testBit_succ, Nat.testBit_and, Nat.testBit_and, Nat.testBit_succ, Nat.testBit_succ]
    have hand0 : ((p - 1) &&& S) % 2 = ((p - 1) % 2) * (S % 2) := by
      have h0 := Nat.testBit_and (p - 1) S 0
      rw [Nat.testBit_zero, Nat.testBit_zero, Nat.testBit_zero] at h0
      rcases Nat.mod_two_eq_zero_or_one (p - 1) with h1 | h1 <;> rcases Nat.mod_two_eq_zero_or_one S with h2 | h2 <;> rcases Nat.mod_two_eq_zero_or_one ((p - 1) &&& S) with h3 | h3 <;> rw [h1, h2, h3] at h0 <;> rw [h1, h2, h3] <;> first | rfl | (exfalso; revert h0; decide)
    rcases Nat.mod_two_eq_zero_or_one p with he | he
    · have ih := next_sub m (q / 2) (p / 2) (S / 2) (by omega) q1 p1 (by omega)
      have e1 : (p - 1) / 2 = p / 2 - 1 := by omega
      have e2 : (p - 1) % 2 = 1 := by omega
      rw [e1] at hand
      rw [e2, Nat.one_mul] at hand0
      have hq01 : q % 2 ≤ S % 2 := by
        rcases Nat.mod_two_eq_zero_or_one q with h | h
        · omega
        · have := q2 h; omega
      omega
    · have e1 : (p - 1) / 2 = p / 2 := by omega
      have e2 : (p / 2) &&& (S / 2) = p / 2 := by
        refine Nat.eq_of_testBit_eq fun i => ?_
        rw [Nat.testBit_and]
        rcases hb : (p / 2).testBit i with _ | _
        · rfl
        · rw [p1 i hb]; rfl
      rw [e1, e2] at hand
      omega
theorem next_lt {p S : Nat} (h : 0 < p) : ((p - 1) &&& S) < p := by
  have := @Nat.and_le_left (p - 1) S
  omega
theorem mask_of (Q : Nat → Bool) : ∀ n : Nat, ∃ q, q < 2 ^ n ∧ ∀ i, i < n → q.testBit i = Q i
  | 0 => ⟨0, by simp, fun i hi => absurd hi (by omega)⟩
  | n + 1 => by
    obtain ⟨q, h1, h2⟩ := mask_of Q n
    rw [Nat.pow_succ]
    rcases hQ : Q n with _ | _
    · refine ⟨q, by omega, fun i hi => ?_⟩
      by_cases e : i = n
      · subst e; rw [hQ]; exact Nat.testBit_lt_two_pow h1
      · exact h2 i (by omega)
    · refine ⟨2 ^ n + q, by omega, fun i hi => ?_⟩
      by_cases e : i = n
      · subst e; rw [Nat.testBit_two_pow_add_eq, Nat.testBit_lt_two_pow h1, hQ]; rfl
      · rw [Nat.testBit_two_pow_add_gt (by omega), h2 i (by omega)]
theorem bit_lt {q n i : Nat} (h : q < 2 ^ n) (hb : q.testBit i = true) : i < n := by
  have h1 := Nat.ge_two_pow_of_testBit hb
  rcases Nat.lt_or_ge i n with h2 | h2
  · exact h2
  · have := Nat.pow_le_pow_right (show 0 < 2 by omega) h2
    omega
/-- v is the least number of cabins for the set S. -/
def Opt (z : Nat → Int) (n : Nat) (s : Int) (S v : Nat) : Prop := PackP z n s (fun i => S.testBit i) v ∧ ∀ m, PackP z n s (fun i => S.testBit i) m → v ≤ m
def sizeB (z : Nat → Int) (n S : Nat) : Int := sumIf z (fun i => S.testBit i) n
theorem opt_zero {z : Nat → Int} {n : Nat} {s : Int} : Opt z n s 0 0 := ⟨PackP.none fun i _ => by simp, fun m _ => Nat.zero_le m⟩
/-- What the round of a set S leaves is the least number for it. -/
theorem opt_round {z : Nat → Int} {n S v : Nat} {s : Int} {L : Nat → Nat} (hz : ∀ i, 0 ≤ z i) (hs : ∀ i, i < n → z i ≤ s) (hS0 : 0 < S) (hSn : S < 2 ^ n)
    (hL : ∀ j, j < S → Opt z n s j (L j)) (hv : v = n ∨ ∃ q, Sub q S ∧ 0 < q ∧ sizeB z n q ≤ s ∧ v = L (S - q) + 1)
    (hall : ∀ q, Sub q S → 0 < q → sizeB z n q ≤ s → v ≤ L (S - q) + 1) (hvn : v ≤ n) : Opt z n s S v := by
  refine ⟨?_, fun m hm => ?_⟩
  · rcases hv with rfl | ⟨q, hq, hq0, hqs, rfl⟩
    · exact PackP.all hz hs
    · obtain ⟨hle, hb⟩ := sub_le S q S (Nat.le_refl _) hq
      refine PackP.more hz (Q := fun i => q.testBit i) hqs ?_
      exact (hL (S - q) (by omega)).1.congr fun i _ => hb i
  · obtain ⟨i0, hi0⟩ := Nat.exists_testBit_of_ne_zero (show S ≠ 0 by omega)
    have hi0n := bit_lt hSn hi0
    cases m with
    | zero => have := hm.zero i0 hi0n; rw [hi0] at this; cases this
    | succ m =>
      obtain ⟨Q, h1, h2, h3, h4⟩ := hm.less hz hi0n hi0
      obtain ⟨q, hq1, hq2⟩ := mask_of Q n
      have hqS : Sub q S := fun i hi => by
        have hin := bit_lt hq1 hi
        exact h1 i hin (by rw [← hq2 i hin]; exact hi)
      have hq0 : 0 < q := by
        rcases Nat.eq_zero_or_pos q with h | h
        · subst h; have := hq2 i0 hi0n; rw [h2] at this; simp at this
        · exact h
      obtain ⟨hle, hb⟩ := sub_le S q S (Nat.le_refl _) hqS
      have hsz : sizeB z n q ≤ s := by unfold sizeB; rw [sumIf_congr fun i hi => hq2 i hi]; exact h3
      have := (hL (S - q) (by omega)).2 m (h4.congr fun i hi => by rw [hb i, hq2 i hi])
      have := hall q hqS hq0 hsz
      omega
/-! The search over the free seats. -/
/-- The groups from i on, r of them, get into the free seats. -/
def packF (z : Nat → Int) : Nat → Nat → List Int → Bool
  | 0, _, _ => true
  | r + 1, i, free => anyTo free.length fun k => (decide (z i ≤ nth free k) && !decide (nth free k ∈ free.take k)) && packF z r (i + 1) (free.set k (nth free k - z i))
def PackR (z : Nat → Int) (r i : Nat) (free : List Int) : Prop := ∃ f : Nat → Nat, (∀ j, i ≤ j → j < i + r → f j < free.length) ∧ ∀ k, k < free.length → sumIf z (fun j => decide (i ≤ j) && decide (f j = k)) (i + r) ≤ nth free k
theorem sumIf_split {z : Nat → Int} {i : Nat} {p : Nat → Bool} : ∀ r : Nat, sumIf z (fun j => decide (i ≤ j) && p j) (i + (r + 1)) = (if p i = true then z i else 0) + sumIf z (fun j => decide (i + 1 ≤ j) && p j) (i + 1 + r)
  | 0 => by
    rw [show i + (0 + 1) = i + 1 from rfl, sumIf, sumIf_none fun j hj => by simp; omega, show i + 1 + 0 = i + 1 from rfl, sumIf_none (n := i + 1) fun j hj => by simp; omega]
    simp
  | r + 1 => by
    rw [show i + (r + 1 + 1) = (i + (r + 1)) + 1 from rfl, sumIf, sumIf_split r, show i + 1 + (r + 1) = (i + 1 + r) + 1 from rfl, sumIf]
    have e : i + (r + 1) = i + 1 + r := by omega
    rw [e]
    have h1 : decide (i ≤ i + 1 + r) = true := by simp; omega
    have h2 : decide (i + 1 ≤ i + 1 + r) = true := by simp
    rw [h1, h2]
    omega
theorem first_at {α : Type} [DecidableEq α] {l : List α} [Inhabited α] : ∀ {k : Nat}, k < l.length → ∃ j, j ≤ k ∧ nth l j = nth l k ∧ nth l j ∉ l.take j := fun {k} hk => by
  induction k using Nat.strongRecOn with
  | _ k ih =>
    by_cases h : nth l k ∈ l.take k
    · obtain ⟨j, hj, he⟩ := List.getElem_of_mem h
      have hj2 : j < k ∧ j < l.length := by simp at hj; omega
      have he2 : nth l j = nth l k := by rw [nth_eq hj2.2, ← he]; simp
      obtain ⟨q, h1, h2, h3⟩ := ih j hj2.1 hj2.2
      exact ⟨q, by omega, h2.trans he2, h3⟩
    · exact ⟨k, Nat.le_refl _, rfl, h⟩
theorem packF_iff {z : Nat → Int} (hz : ∀ i, 0 ≤ z i) : ∀ (r i : Nat) (free : List Int), (∀ k, k < free.length → 0 ≤ nth free k) → (packF z r i free = true ↔ PackR z r i free)
  | 0, i, free, h0 => by
    refine ⟨fun _ => ⟨fun _ => 0, fun j h1 h2 => absurd h1 (by omega), fun k hk => ?_⟩, fun _ => rfl⟩
    rw [Nat.add_zero, sumIf_none fun j hj => by simp; omega]
    exact h0 k hk
  | r + 1, i, free, h0 => by
    constructor
    · intro h
      have hex : ∃ k, k < free.length ∧ ((decide (z i ≤ nth free k) && !decide (nth free k ∈ free.take k)) && packF z r (i + 1) (free.set k (nth free k - z i))) = true := by
        rcases Classical.em (∃ k, k < free.length ∧ ((decide (z i ≤ nth free k) && !decide (nth free k ∈ free.take k)) && packF z r (i + 1) (free.set k (nth free k - z i))) = true) with h1 | h1
        · exact h1
        · rw [packF, anyTo_none fun k hk => by
            rcases hb : ((decide (z i ≤ nth free k) && !decide (nth free k ∈ free.take k)) && packF z r (i + 1) (free.set k (nth free k - z i))) with _ | _
            · rfl
            · exact absurd ⟨k, hk, hb⟩ h1] at h
          cases h
      obtain ⟨k, hk, hb⟩ := hex
      simp only [Bool.and_eq_true, decide_eq_true_eq] at hb
      obtain ⟨⟨hle, _⟩, hp⟩ := hb
      obtain ⟨f, f1, f2⟩ := (packF_iff hz r (i + 1) _ fun j hj => by
        rw [List.length_set] at hj
        rw [nth_setI hj]; split
        · omega
        · exact h0 j hj).1 hp
      simp only [List.length_set] at f1 f2
      refine ⟨fun j => if j = i then k else f j, fun j h1 h2 => ?_, fun q hq => ?_⟩
      · by_cases e : j = i
        · simp [e, hk]
        · simp only [if_neg e]; exact f1 j (by omega) (by omega)
      · have h3 := f2 q hq
        rw [nth_setI hq] at h3
        rw [sumIf_split]
        have h4 : sumIf z (fun j => decide (i + 1 ≤ j) && decide ((if j = i then k else f j) = q)) (i + 1 + r) = sumIf z (fun j => decide (i + 1 ≤ j) && decide (f j = q)) (i + 1 + r) := sumIf_congr fun j hj => by
          by_cases e : j = i
          · rw [decide_eq_false (show ¬ i + 1 ≤ j by omega), Bool.false_and, Bool.false_and]
          · rw [if_neg e]
        rw [h4]
        simp only [if_true, decide_eq_true_eq]
        by_cases e : k = q
        · rw [if_pos e] at h3 ⊢
          subst e; omega
        · rw [if_neg e] at h3 ⊢
          omega
    · rintro ⟨f, f1, f2⟩
      have hk0 := f1 i (Nat.le_refl _) (by omega)
      obtain ⟨k1, hk1, heq, hnin⟩ := first_at hk0
      -- the two cabins change their roles
      let g : Nat → Nat := fun j => if f j = f i then k1 else if f j = k1 then f i else f j
      have g1 : ∀ j, i ≤ j → j < i + (r + 1) → g j < free.length := fun j h1 h2 => by
        have := f1 j h1 h2
        simp only [g]; split
        · omega
        · split <;> omega
      have g2 : ∀ k, k < free.length → sumIf z (fun j => decide (i ≤ j) && decide (g j = k)) (i + (r + 1)) ≤ nth free k := fun k hk => by
        by_cases e1 : k = k1
        · subst e1
          refine Int.le_trans (sumIf_mono hz (q := fun j => decide (i ≤ j) && decide (f j = f i)) fun j _ h => ?_) (by rw [heq]; exact f2 (f i) hk0)
          simp only [Bool.and_eq_true, decide_eq_true_eq, g] at h ⊢
          refine ⟨h.1, ?_⟩
          by_cases e : f j = f i
          · exact e
          · have h2 := h.2
            rw [if_neg e] at h2
            split at h2
            · next e3 => omega
            · omega
        · by_cases e2 : k = f i
          · subst e2
            refine Int.le_trans (sumIf_mono hz (q := fun j => decide (i ≤ j) && decide (f j = k1)) fun j _ h => ?_) (by rw [← heq]; exact f2 k1 (by omega))
            simp only [Bool.and_eq_true, decide_eq_true_eq, g] at h ⊢
            refine ⟨h.1, ?_⟩
            have h2 := h.2
            by_cases e : f j = f i
            · rw [if_pos e] at h2; omega
            · rw [if_neg e] at h2
              split at h2
              · assumption
              · omega
          · refine Int.le_trans (sumIf_mono hz (q := fun j => decide (i ≤ j) && decide (f j = k)) fun j _ h => ?_) (f2 k hk)
            simp only [Bool.and_eq_true, decide_eq_true_eq, g] at h ⊢
            refine ⟨h.1, ?_⟩
            have h2 := h.2
            by_cases e : f j = f i
            · rw [if_pos e] at h2; omega
            · rw [if_neg e] at h2
              split at h2
              · omega
              · exact h2
      have gi : g i = k1 := by simp [g]
      have hk1l : k1 < free.length := by omega
      have hs := g2 k1 hk1l
      rw [sumIf_split, if_pos (by simp [gi])] at hs
      have hn0 := sumIf_nonneg hz (fun j => decide (i + 1 ≤ j) && decide (g j = k1)) (i + 1 + r)
      refine anyTo_yes hk1l ?_
      simp only [Bool.and_eq_true, decide_eq_true_eq, Bool.not_eq_true', decide_eq_false_iff_not]
      refine ⟨⟨by omega, hnin⟩, (packF_iff hz r (i + 1) _ fun j hj => by
        rw [List.length_set] at hj
        rw [nth_setI hj]; split
        · omega
        · exact h0 j hj).2 ⟨g, fun j h1 h2 => by rw [List.length_set]; exact g1 j (by omega) (by omega), fun k hk => ?_⟩⟩
      rw [List.length_set] at hk
      rw [nth_setI hk]
      split
      · next e => subst e; omega
      · next e =>
        have := g2 k hk
        rw [sumIf_split, if_neg (by simp [gi]; exact e)] at this
        omega
theorem nth_rep {n i : Nat} {x : Int} (hi : i < n) : nth (List.replicate n x) i = x := by rw [nth_eq (by simpa using hi), List.getElem_replicate]
theorem packF_all {z : Nat → Int} (hz : ∀ i, 0 ≤ z i) {n m : Nat} {s : Int} (hs : 0 ≤ s) : packF z n 0 (List.replicate m s) = true ↔ PackP z n s (fun _ => true) m := by
  rw [packF_iff hz n 0 _ fun k hk => by rw [List.length_replicate] at hk; rw [nth_rep hk]; exact hs]
  unfold PackR PackP
  simp only [List.length_replicate, Nat.zero_add]
  constructor
  · rintro ⟨f, h1, h2⟩
    refine ⟨f, fun i hi _ => h1 i (Nat.zero_le _) hi, fun k hk => ?_⟩
    have := h2 k hk
    rw [nth_rep hk] at this
    simpa using this
  · rintro ⟨f, h1, h2⟩
    refine ⟨f, fun i _ hi => h1 i hi trivial, fun k hk => ?_⟩
    rw [nth_rep hk]
    simpa using h2 k hk
/-- The first number from m on that a test likes. -/
def leastC (p : Nat → Bool) : Nat → Nat → Nat
  | 0, m => m
  | c + 1, m => if p m = true then m else leastC p c (m + 1)
theorem leastC_eq {p : Nat → Bool} {m : Nat} (hp : p m = true) : ∀ (c k : Nat), k ≤ m → m ≤ k + c → (∀ j, k ≤ j → j < m → p j = false) → leastC p c k = m
  | 0, k, h1, h2, _ => by rw [leastC]; omega
  | c + 1, k, h1, h2, h3 => by
    rw [leastC]
    by_cases e : k = m
    · subst e; rw [if_pos hp]
    · rw [if_neg (by rw [h3 k (Nat.le_refl _) (by omega)]; simp)]
      exact leastC_eq hp c (k + 1) (by omega) (by omega) fun j h4 h5 => h3 j (by omega) h5
/-- The least number of cabins. -/
def leastN (z : Nat → Int) (n : Nat) (s : Int) : Nat := leastC (fun m => packF z n 0 (List.replicate m s)) n 0
theorem full_bit {n i : Nat} (hi : i < n) : (2 ^ n - 1).testBit i = true := by
  rw [Nat.testBit_two_pow_sub_one]; simpa using hi
theorem opt_full {z : Nat → Int} (hz : ∀ i, 0 ≤ z i) {n v : Nat} {s : Int} (h0 : 0 ≤ s) (hs : ∀ i, i < n → z i ≤ s) (h : Opt z n s (2 ^ n - 1) v) : leastN z n s = v := by
  obtain ⟨h1, h2⟩ := h
  refine leastC_eq ((packF_all hz h0).2 (h1.congr fun i hi => full_bit hi)) n 0 (Nat.zero_le _) ?_ fun j _ hj => ?_
  · rw [Nat.zero_add]; exact h2 n (PackP.all hz hs)
  · rcases hb : packF z n 0 (List.replicate j s) with _ | _
    · rfl
    · have := h2 j (((packF_all hz h0).1 hb).congr fun i hi => (full_bit hi).symm)
      omega
end Go.Proofs.Ytalabohacedgnaa
