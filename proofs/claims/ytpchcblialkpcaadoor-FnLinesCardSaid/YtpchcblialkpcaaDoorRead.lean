/- Numerals read back, in plain lists of bytes; no conditions beyond those of each statement. -/
import Derived.Test.YtpchcblialkpcaaDoorText
import Derived.Lib.Atoi
namespace Go.Proofs.YtpchcblialkpcaaDoor

theorem dec_digit (u : Nat) : ∀ b ∈ Lib.decDigits u, 48 ≤ b.toNat ∧ b.toNat ≤ 57 := by
  induction u using Nat.strongRecOn with
  | ind u ih =>
    intro b hb
    by_cases h : u < 10
    · rw [Lib.decDigits, dif_pos h] at hb
      simp only [List.mem_cons, List.not_mem_nil, or_false] at hb
      subst hb
      simp; omega
    · rw [Lib.decDigits, dif_neg h, List.mem_append] at hb
      rcases hb with hb | hb
      · exact ih (u / 10) (by omega) b hb
      · simp only [List.mem_cons, List.not_mem_nil, or_false] at hb
        subst hb
        simp; omega
theorem dec_ne (u : Nat) : Lib.decDigits u ≠ [] := fun h => by
  have := Lib.decDigits_length u
  rw [h] at this
  have := Lib.nDigits_pos u
  simp at *; omega
theorem decFrom_app (a b : List UInt8) : ∀ acc, Lib.decFrom acc (a ++ b) = (Lib.decFrom acc a).bind fun m => Lib.decFrom m b := by
  induction a with
  | nil => intro acc; simp [Lib.decFrom]
  | cons x a ih =>
    intro acc
    simp only [List.cons_append, Lib.decFrom]
    cases Lib.digitVal x with
    | none => rfl
    | some d => exact ih _
theorem digit_val {d : Nat} (h : d < 10) : Lib.digitVal (UInt8.ofNat (48 + d)) = some d := by
  have h1 : (UInt8.ofNat (48 + d)).toNat = 48 + d := by simp; omega
  unfold Lib.digitVal
  rw [h1, if_pos (by omega)]
  simp
theorem decFrom_dec (u : Nat) : Lib.decFrom 0 (Lib.decDigits u) = some u := by
  induction u using Nat.strongRecOn with
  | ind u ih =>
    by_cases h : u < 10
    · rw [Lib.decDigits, dif_pos h]
      simp only [Lib.decFrom, digit_val h]
      simp
    · rw [Lib.decDigits, dif_neg h, decFrom_app, ih (u / 10) (by omega)]
      simp only [Option.bind_some, Lib.decFrom, digit_val (show u % 10 < 10 by omega)]
      simp; omega
theorem num_atoi (n : Int) : Lib.atoi (num n) = some n := by
  unfold num Lib.itoa
  split
  · next h =>
    unfold Lib.atoi
    simp only [beq_self_eq_true, if_true, Lib.decNat]
    rw [if_neg (by simpa using dec_ne _), decFrom_dec]
    simp; omega
  · next h =>
    have h1 := dec_digit n.toNat
    have h2 := decFrom_dec n.toNat
    rcases hd : Lib.decDigits n.toNat with _ | ⟨b, r⟩
    · exact absurd hd (dec_ne _)
    · rw [hd] at h1 h2
      have hb := h1 b List.mem_cons_self
      have e1 : (b == 45) = false := by
        rw [beq_eq_false_iff_ne]; intro e; subst e; simp at hb
      have e2 : (b == 43) = false := by
        rw [beq_eq_false_iff_ne]; intro e; subst e; simp at hb
      unfold Lib.atoi
      simp only [e1, e2, Bool.false_eq_true, if_false, Lib.decNat, List.isEmpty_cons, h2]
      simp; omega
theorem num_inj {m n : Int} (h : num m = num n) : m = n := by
  have := num_atoi m
  rw [h, num_atoi] at this
  simpa using this.symm
theorem num_byte {n : Int} {b : UInt8} (h : b ∈ num n) : b = 45 ∨ (48 ≤ b.toNat ∧ b.toNat ≤ 57) := by
  unfold num Lib.itoa at h
  split at h
  · rcases List.mem_cons.1 h with h | h
    · exact .inl h
    · exact .inr (dec_digit _ b h)
  · exact .inr (dec_digit _ b h)
theorem num_ne (n : Int) : num n ≠ [] := by
  unfold num Lib.itoa
  split
  · simp
  · exact dec_ne _
theorem nDigits_le6 {u : Nat} (h : u ≤ 999999) : Lib.nDigits u ≤ 6 := by
  have step : ∀ (u k : Nat), (u / 10 < 10 ^ k → Lib.nDigits (u / 10) ≤ k) → 1 ≤ k → u < 10 ^ (k + 1) → Lib.nDigits u ≤ k + 1 := fun u k ih h1 hu => by
    by_cases h : u < 10
    · rw [Lib.nDigits_small h]; omega
    · rw [Lib.nDigits_big h]
      rw [Nat.pow_succ] at hu
      have := ih (by omega)
      omega
  have h1 : ∀ u, u < 10 ^ 1 → Lib.nDigits u ≤ 1 := fun u hu => by rw [Lib.nDigits_small (by simpa using hu)]; exact Nat.le_refl _
  have h2 : ∀ u, u < 10 ^ 2 → Lib.nDigits u ≤ 2 := fun u hu => step u 1 (h1 _) (by omega) hu
  have h3 : ∀ u, u < 10 ^ 3 → Lib.nDigits u ≤ 3 := fun u hu => step u 2 (h2 _) (by omega) hu
  have h4 : ∀ u, u < 10 ^ 4 → Lib.nDigits u ≤ 4 := fun u hu => step u 3 (h3 _) (by omega) hu
  have h5 : ∀ u, u < 10 ^ 5 → Lib.nDigits u ≤ 5 := fun u hu => step u 4 (h4 _) (by omega) hu
  exact step u 5 (h5 _) (by omega) (by omega)
theorem dec_len6 {u : Nat} (h : u ≤ 999999) : (Lib.decDigits u).length ≤ 6 := by rw [Lib.decDigits_length]; exact nDigits_le6 h
theorem num_len7 {n : Int} (h1 : -999999 ≤ n) (h2 : n ≤ 999999) : (num n).length ≤ 7 := by
  unfold num Lib.itoa
  split
  · have := dec_len6 (u := n.natAbs) (by omega)
    simp only [List.length_cons]; omega
  · have := dec_len6 (u := n.toNat) (by omega)
    omega
/-- The number whose numeral these bytes are. -/
def readI (s : List UInt8) : Option Int := match Lib.atoi s with
  | some n => if -999999 ≤ n ∧ n ≤ 999999 ∧ num n = s then some n else none
  | none => none
theorem readI_some {s : List UInt8} {n : Int} : readI s = some n ↔ -999999 ≤ n ∧ n ≤ 999999 ∧ num n = s := by
  unfold readI
  constructor
  · intro h
    rcases ha : Lib.atoi s with _ | m
    · rw [ha] at h; cases h
    · rw [ha] at h
      simp only at h
      split at h
      · next c =>
        simp only [Option.some.injEq] at h
        subst h; exact c
      · cases h
  · rintro ⟨h1, h2, rfl⟩
    rw [num_atoi]
    show (if -999999 ≤ n ∧ n ≤ 999999 ∧ num n = num n then some n else none) = some n
    rw [if_pos ⟨h1, h2, rfl⟩]
theorem readI_num {n : Int} (h1 : -999999 ≤ n) (h2 : n ≤ 999999) : readI (num n) = some n := readI_some.2 ⟨h1, h2, rfl⟩
theorem readI_none {s : List UInt8} (h : ∀ n, -999999 ≤ n → n ≤ 999999 → num n ≠ s) : readI s = none := by
  rcases hr : readI s with _ | n
  · rfl
  · obtain ⟨h1, h2, h3⟩ := readI_some.1 hr
    exact absurd h3 (h n h1 h2)
theorem readI_long {s : List UInt8} (h : 7 < s.length) : readI s = none := readI_none fun n h1 h2 e => by
  have := num_len7 h1 h2
  rw [e] at this; omega
theorem readI_atoi {s : List UInt8} (h : Lib.atoi s = none) : readI s = none := by unfold readI; rw [h]
theorem readI_of {s : List UInt8} {n : Int} (h : Lib.atoi s = some n) : readI s = if -999999 ≤ n ∧ n ≤ 999999 ∧ num n = s then some n else none := by unfold readI; rw [h]
end Go.Proofs.YtpchcblialkpcaaDoor
