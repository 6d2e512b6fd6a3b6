/- Tasks done one behind the other: the earliest end by the last task and by the first one; no conditions beyond those of each statement. -/
import Derived.Below
namespace Go.Proofs.Ytokddcnkfeimkaa
/-- The least of n numbers that are not negative, -1 if there is none. -/
def bestTo (g : Nat → Int) : Nat → Int
  | 0 => -1
  | k + 1 => if 0 ≤ g k ∧ (bestTo g k < 0 ∨ g k < bestTo g k) then g k else bestTo g k
def Least (P : Int → Prop) (r : Int) : Prop := (r = -1 ∧ ∀ e, ¬ P e) ∨ (0 ≤ r ∧ P r ∧ ∀ e, P e → r ≤ e)
theorem bestTo_least (g : Nat → Int) : ∀ n, Least (fun e => 0 ≤ e ∧ ∃ i, i < n ∧ g i = e) (bestTo g n)
  | 0 => .inl ⟨rfl, fun e ⟨_, i, h, _⟩ => by omega⟩
  | n + 1 => by
    rcases bestTo_least g n with ⟨h, hn⟩ | ⟨h0, ⟨_, i, hi, he⟩, hl⟩
    · by_cases hg : 0 ≤ g n
      · refine .inr ?_
        rw [bestTo, if_pos ⟨hg, .inl (by omega)⟩]
        refine ⟨hg, ⟨hg, n, by omega, rfl⟩, fun e ⟨h0, i, hi, he⟩ => ?_⟩
        by_cases hin : i = n
        · subst hin; omega
        · exact absurd ⟨h0, i, by omega, he⟩ (hn e)
      · refine .inl ?_
        rw [bestTo, if_neg (fun hh => hg hh.1)]
        refine ⟨h, fun e ⟨h0, i, hi, he⟩ => ?_⟩
        by_cases hin : i = n
        · subst hin; omega
        · exact hn e ⟨h0, i, by omega, he⟩
    · refine .inr ?_
      by_cases hg : 0 ≤ g n ∧ g n < bestTo g n
      · rw [bestTo, if_pos ⟨hg.1, .inr hg.2⟩]
        refine ⟨hg.1, ⟨hg.1, n, by omega, rfl⟩, fun e ⟨h0', j, hj, he'⟩ => ?_⟩
        by_cases hin : j = n
        · subst hin; omega
        · have := hl e ⟨h0', j, by omega, he'⟩; omega
      · rw [bestTo, if_neg (by omega)]
        refine ⟨h0, ⟨h0, i, by omega, he⟩, fun e ⟨h0', j, hj, he'⟩ => ?_⟩
        by_cases hin : j = n
        · subst hin; omega
        · exact hl e ⟨h0', j, by omega, he'⟩
theorem Least.congr {P Q : Int → Prop} {r : Int} (h : Least P r) (hpq : ∀ e, P e ↔ Q e) : Least Q r := by
  have : P = Q := funext fun e => propext (hpq e)
  rwa [← this]
def runL (st : Nat → Int → Option Int) : Int → List Nat → Option Int
  | t, [] => some t
  | t, i :: s => match st i t with | some t' => runL st t' s | none => none
theorem runL_snoc {st : Nat → Int → Option Int} : ∀ (s : List Nat) (t : Int) (i : Nat), runL st t (s ++ [i]) = match runL st t s with | some t' => st i t' | none => none
  | [], t, i => by simp only [List.nil_append, runL]; rcases st i t with _ | _ <;> rfl
  | j :: s, t, i => by
    simp only [List.cons_append, runL]
    rcases st j t with _ | t'
    · rfl
    · exact runL_snoc s t' i
/-- An order of the set S of the first n. -/
def Ord (n S : Nat) (s : List Nat) : Prop := s.Nodup ∧ ∀ i, i ∈ s ↔ (i < n ∧ S.testBit i = true)
theorem clear_fin : ∀ S : Fin 256, ∀ i : Fin 8, ∀ j : Fin 8, S.val.testBit i.val = true → (S.val - 2 ^ i.val).testBit j.val = (S.val.testBit j.val && decide (j.val ≠ i.val)) := by decide +kernel
theorem clear_bit {S i j : Nat} (hS : S < 256) (hi : i < 8) (hj : j < 8) (h : S.testBit i = true) : (S - 2 ^ i).testBit j = (S.testBit j && decide (j ≠ i)) := clear_fin ⟨S, hS⟩ ⟨i, hi⟩ ⟨j, hj⟩ h
theorem bit_fin : ∀ S : Fin 256, S.val ≠ 0 → ∃ i : Fin 8, S.val.testBit i.val = true := by decide +kernel
theorem Ord.cons {n S i : Nat} {s : List Nat} (hn : n ≤ 8) (hS : S < 256) : Ord n S (i :: s) ↔ (i < n ∧ S.testBit i = true) ∧ Ord n (S - 2 ^ i) s := by
  constructor
  · rintro ⟨hnd, hm⟩
    have hi := (hm i).1 List.mem_cons_self
    rw [List.nodup_cons] at hnd
    refine ⟨hi, hnd.2, fun j => ⟨fun hj => ?_, fun hj => ?_⟩⟩
    · have h1 := (hm j).1 (List.mem_cons_of_mem _ hj)
      refine ⟨h1.1, ?_⟩
      rw [clear_bit hS (by omega) (by omega) hi.2, h1.2]
      have : j ≠ i := fun e => hnd.1 (e ▸ hj)
      simp [this]
    · rw [clear_bit hS (by omega) (by omega) hi.2] at hj
      simp only [Bool.and_eq_true, decide_eq_true_eq] at hj
      rcases List.mem_cons.1 ((hm j).2 ⟨hj.1, hj.2.1⟩) with h | h
      · exact absurd h hj.2.2
      · exact h
  · rintro ⟨hi, hnd, hm⟩
    refine ⟨List.nodup_cons.2 ⟨fun h => ?_, hnd⟩, fun j => ⟨fun hj => ?_, fun hj => ?_⟩⟩
    · have := ((hm i).1 h).2
      rw [clear_bit hS (by omega) (by omega) hi.2] at this
      simp at this
    · rcases List.mem_cons.1 hj with rfl | h
      · exact hi
      · have h1 := (hm j).1 h
        rw [clear_bit hS (by omega) (by omega) hi.2] at h1
        simp only [Bool.and_eq_true] at h1
        exact ⟨h1.1, h1.2.1⟩
    · by_cases e : j = i
      · exact e ▸ List.mem_cons_self
      · refine List.mem_cons_of_mem _ ((hm j).2 ⟨hj.1, ?_⟩)
        rw [clear_bit hS (by omega) (by omega) hi.2]
        simp [hj.2, e]
theorem Ord.snoc {n S i : Nat} {s : List Nat} (hn : n ≤ 8) (hS : S < 256) : Ord n S (s ++ [i]) ↔ (i < n ∧ S.testBit i = true) ∧ Ord n (S - 2 ^ i) s := by
  rw [← Ord.cons hn hS]
  have hp : (s ++ [i]).Perm (i :: s) := List.perm_append_singleton i s
  exact ⟨fun ⟨h1, h2⟩ => ⟨hp.nodup_iff.1 h1, fun j => by rw [← h2 j]; exact hp.mem_iff.symm⟩, fun ⟨h1, h2⟩ => ⟨hp.nodup_iff.2 h1, fun j => by rw [← h2 j]; exact hp.mem_iff⟩⟩
theorem Ord.zero {n : Nat} {s : List Nat} : Ord n 0 s ↔ s = [] := by
  constructor
  · rintro ⟨_, hm⟩
    apply List.eq_nil_iff_forall_not_mem.2
    intro i hi
    have := ((hm i).1 hi).2
    simp at this
  · rintro rfl
    exact ⟨List.nodup_nil, fun i => by simp⟩
theorem Ord.ne_nil {n S : Nat} (h0 : S ≠ 0) (hS : S < 256) (hn : S < 2 ^ n) (h : Ord n S []) : False := by
  obtain ⟨i, hi⟩ := bit_fin ⟨S, hS⟩ h0
  by_cases hin : i.val < n
  · have := (h.2 i.val).2 ⟨hin, hi⟩; simp at this
  · have h1 := Nat.ge_two_pow_of_testBit hi
    have h2 : 2 ^ n ≤ 2 ^ i.val := Nat.pow_le_pow_right (by omega) (by omega)
    simp at h1; omega
/-- Tasks: from when, until when, how long. -/
structure Job where
  f : Int
  u : Int
  d : Int
def stepJ (J : Nat → Job) (i : Nat) (t : Int) : Option Int := if max t (J i).f + (J i).d - 1 ≤ (J i).u then some (max t (J i).f + (J i).d) else none
def stp (J : Nat → Job) (i : Nat) (t : Int) : Int := if max t (J i).f + (J i).d - 1 ≤ (J i).u then max t (J i).f + (J i).d else -1
/-- By the last one. -/
def endE (J : Nat → Job) (n : Nat) : Nat → Nat → Int
  | 0, _ => 0
  | m + 1, S => if S = 0 then 0 else bestTo (fun i => if S.testBit i = true then (if endE J n m (S - 2 ^ i) < 0 then -1 else stp J i (endE J n m (S - 2 ^ i))) else -1) n
/-- By the first one. -/
def endR (J : Nat → Job) (n : Nat) : Nat → Nat → Int → Int
  | 0, _, t => max 0 (t - 1)
  | m + 1, S, t => if S = 0 then max 0 (t - 1) else bestTo (fun i => if S.testBit i = true then (if stp J i t < 0 then -1 else endR J n m (S - 2 ^ i) (stp J i t)) else -1) n
section
variable {J : Nat → Job} {n : Nat}
theorem two_pos (i : Nat) : 0 < 2 ^ i := Nat.two_pow_pos i
theorem bestTo_congr {g h : Nat → Int} : ∀ {n : Nat}, (∀ i, i < n → g i = h i) → bestTo g n = bestTo h n
  | 0, _ => rfl
  | k + 1, e => by
    have ih := bestTo_congr (n := k) fun i hi => e i (by omega)
    rw [bestTo, bestTo, ih, e k (by omega)]
theorem endE_fuel : ∀ (m m' S : Nat), S ≤ m → S ≤ m' → endE J n m S = endE J n m' S
  | 0, m', S, h, _ => by
    obtain rfl : S = 0 := by omega
    cases m' <;> simp [endE]
  | m + 1, 0, S, _, h => by
    obtain rfl : S = 0 := by omega
    simp [endE]
  | m + 1, m' + 1, S, h, h' => by
    by_cases h0 : S = 0
    · simp [endE, h0]
    · rw [endE, endE, if_neg h0, if_neg h0]
      refine bestTo_congr fun i _ => ?_
      have := two_pos i
      rw [endE_fuel m m' (S - 2 ^ i) (by omega) (by omega)]
theorem endR_fuel : ∀ (m m' S : Nat) (t : Int), S ≤ m → S ≤ m' → endR J n m S t = endR J n m' S t
  | 0, m', S, t, h, _ => by
    obtain rfl : S = 0 := by omega
    cases m' <;> simp [endR]
  | m + 1, 0, S, t, _, h => by
    obtain rfl : S = 0 := by omega
    simp [endR]
  | m + 1, m' + 1, S, t, h, h' => by
    by_cases h0 : S = 0
    · simp [endR, h0]
    · rw [endR, endR, if_neg h0, if_neg h0]
      refine bestTo_congr fun i _ => ?_
      have := two_pos i
      rw [endR_fuel m m' (S - 2 ^ i) _ (by omega) (by omega)]
theorem stepJ_some {i : Nat} {t e : Int} (h : stepJ J i t = some e) : stp J i t = e := by
  unfold stepJ at h; unfold stp
  split at h
  · next c => rw [if_pos c]; exact Option.some.inj h
  · cases h
theorem stp_some {i : Nat} {t : Int} (h : 0 ≤ stp J i t) : stepJ J i t = some (stp J i t) := by
  unfold stp at h ⊢; unfold stepJ
  split
  · rfl
  · next c => rw [if_neg c] at h; omega
theorem stp_mono {i : Nat} {t t' e : Int} (ht : t ≤ t') (h : stepJ J i t' = some e) (hd : 0 ≤ (J i).f ∧ 1 ≤ (J i).d) : 0 ≤ stp J i t ∧ stp J i t ≤ e := by
  unfold stepJ at h; unfold stp
  split at h
  · have := Option.some.inj h
    rw [if_pos (by omega)]; omega
  · cases h
theorem stp_pos {i : Nat} {t e : Int} (h : stepJ J i t = some e) (hd : 0 ≤ (J i).f ∧ 1 ≤ (J i).d) : 0 ≤ e := by
  unfold stepJ at h
  split at h
  · have := Option.some.inj h; omega
  · cases h
theorem endE_least (hn : n ≤ 8) (hd : ∀ i, i < n → 0 ≤ (J i).f ∧ 1 ≤ (J i).d) : ∀ (m S : Nat), S ≤ m → S < 2 ^ n → Least (fun e => ∃ s, Ord n S s ∧ runL (stepJ J) 0 s = some e) (endE J n m S)
  | 0, S, h, _ => by
    obtain rfl : S = 0 := by omega
    refine .inr ⟨Int.le_refl _, ⟨[], Ord.zero.2 rfl, rfl⟩, fun e ⟨s, hs, he⟩ => ?_⟩
    rw [Ord.zero.1 hs] at he
    have := Option.some.inj he
    simp only [endE]; omega
  | m + 1, S, h, hS => by
    by_cases h0 : S = 0
    · subst h0
      refine .inr ⟨by simp [endE], ⟨[], Ord.zero.2 rfl, by simp [endE, runL]⟩, fun e ⟨s, hs, he⟩ => ?_⟩
      rw [Ord.zero.1 hs] at he
      have := Option.some.inj he
      simp only [endE, if_true]; omega
    have h8 : 2 ^ n ≤ 2 ^ 8 := Nat.pow_le_pow_right (by omega) hn
    have hS8 : S < 256 := by omega
    rw [endE, if_neg h0]
    generalize hg : (fun i => if S.testBit i = true then (if endE J n m (S - 2 ^ i) < 0 then -1 else stp J i (endE J n m (S - 2 ^ i))) else (-1 : Int)) = g
    have ih : ∀ i, i < n → Least (fun e => ∃ s, Ord n (S - 2 ^ i) s ∧ runL (stepJ J) 0 s = some e) (endE J n m (S - 2 ^ i)) := fun i hi => by
      have := two_pos i
      exact endE_least hn hd m (S - 2 ^ i) (by omega) (by omega)
    have low : ∀ s e, Ord n S s → runL (stepJ J) 0 s = some e → ∃ j, j < n ∧ 0 ≤ g j ∧ g j ≤ e := fun s e hs he => by
      rcases List.eq_nil_or_concat s with rfl | ⟨s', j, rfl⟩
      · exact (Ord.ne_nil h0 hS8 hS hs).elim
      · rw [List.concat_eq_append] at hs he
        obtain ⟨⟨hj, hb⟩, hs'⟩ := (Ord.snoc hn hS8).1 hs
        rw [runL_snoc] at he
        rcases hr : runL (stepJ J) 0 s' with _ | t'
        · rw [hr] at he; cases he
        · rw [hr] at he
          rcases ih j hj with ⟨_, hno⟩ | ⟨h1, _, hl⟩
          · exact (hno t' ⟨s', hs', hr⟩).elim
          · have h2 := hl t' ⟨s', hs', hr⟩
            have h3 := stp_mono h2 he (hd j hj)
            refine ⟨j, hj, ?_⟩
            rw [← hg]
            simp only [hb, if_true]
            rw [if_neg (by omega)]
            exact h3
    rcases bestTo_least g n with ⟨hr, hno⟩ | ⟨hr, ⟨_, i, hi, he⟩, hl⟩
    · refine .inl ⟨hr, fun e ⟨s, hs, he⟩ => ?_⟩
      obtain ⟨j, hj, h1, h2⟩ := low s e hs he
      exact hno (g j) ⟨h1, j, hj, rfl⟩
    · refine .inr ⟨hr, ?_, fun e ⟨s, hs, he⟩ => ?_⟩
      · rw [← he] at hr ⊢
        rw [← hg] at hr ⊢
        simp only at hr ⊢
        by_cases hb : S.testBit i = true
        · rw [if_pos hb] at hr ⊢
          by_cases hneg : endE J n m (S - 2 ^ i) < 0
          · rw [if_pos hneg] at hr; omega
          · rw [if_neg hneg] at hr ⊢
            rcases ih i hi with ⟨h1, _⟩ | ⟨h1, ⟨s', hs', hr'⟩, _⟩
            · omega
            · refine ⟨s' ++ [i], (Ord.snoc hn hS8).2 ⟨⟨hi, hb⟩, hs'⟩, ?_⟩
              rw [runL_snoc, hr']
              exact stp_some hr
        · rw [if_neg hb] at hr; omega
      · obtain ⟨j, hj, h1, h2⟩ := low s e hs he
        have := hl (g j) ⟨h1, j, hj, rfl⟩
        omega
theorem endR_least (hn : n ≤ 8) (hd : ∀ i, i < n → 0 ≤ (J i).f ∧ 1 ≤ (J i).d) : ∀ (m S : Nat) (t : Int), 0 ≤ t → S ≤ m → S < 2 ^ n → Least (fun r => ∃ s e, Ord n S s ∧ runL (stepJ J) t s = some e ∧ r = max 0 (e - 1)) (endR J n m S t)
  | 0, S, t, ht, h, _ => by
    obtain rfl : S = 0 := by omega
    refine .inr ⟨by simp only [endR]; omega, ⟨[], t, Ord.zero.2 rfl, rfl, rfl⟩, fun r ⟨s, e, hs, he, hr⟩ => ?_⟩
    rw [Ord.zero.1 hs] at he
    have := Option.some.inj he
    simp only [endR]; omega
  | m + 1, S, t, ht, h, hS => by
    by_cases h0 : S = 0
    · subst h0
      refine .inr ⟨by simp only [endR, if_true]; omega, ⟨[], t, Ord.zero.2 rfl, rfl, by simp [endR]⟩, fun r ⟨s, e, hs, he, hr⟩ => ?_⟩
      rw [Ord.zero.1 hs] at he
      have := Option.some.inj he
      simp only [endR, if_true]; omega
    have h8 : 2 ^ n ≤ 2 ^ 8 := Nat.pow_le_pow_right (by omega) hn
    have hS8 : S < 256 := by omega
    rw [endR, if_neg h0]
    generalize hg : (fun i => if S.testBit i = true then (if stp J i t < 0 then -1 else endR J n m (S - 2 ^ i) (stp J i t)) else (-1 : Int)) = g
    have ih : ∀ i t', i < n → 0 ≤ t' → Least (fun r => ∃ s e, Ord n (S - 2 ^ i) s ∧ runL (stepJ J) t' s = some e ∧ r = max 0 (e - 1)) (endR J n m (S - 2 ^ i) t') := fun i t' hi ht' => by
      have := two_pos i
      exact endR_least hn hd m (S - 2 ^ i) t' ht' (by omega) (by omega)
    have low : ∀ s e, Ord n S s → runL (stepJ J) t s = some e → ∃ j, j < n ∧ 0 ≤ g j ∧ g j ≤ max 0 (e - 1) := fun s e hs he => by
      rcases s with _ | ⟨j, s'⟩
      · exact (Ord.ne_nil h0 hS8 hS hs).elim
      · obtain ⟨⟨hj, hb⟩, hs'⟩ := (Ord.cons hn hS8).1 hs
        rw [runL] at he
        rcases hr : stepJ J j t with _ | t'
        · rw [hr] at he; cases he
        · rw [hr] at he
          have hp := stp_pos hr (hd j hj)
          have hst := stepJ_some hr
          refine ⟨j, hj, ?_⟩
          rw [← hg]
          simp only [hb, if_true, hst]
          rw [if_neg (by omega)]
          rcases ih j t' hj hp with ⟨_, hno⟩ | ⟨h1, _, hl⟩
          · exact (hno _ ⟨s', e, hs', he, rfl⟩).elim
          · exact ⟨h1, hl _ ⟨s', e, hs', he, rfl⟩⟩
    rcases bestTo_least g n with ⟨hr, hno⟩ | ⟨hr, ⟨_, i, hi, he⟩, hl⟩
    · refine .inl ⟨hr, fun r ⟨s, e, hs, he, _⟩ => ?_⟩
      obtain ⟨j, hj, h1, h2⟩ := low s e hs he
      exact hno (g j) ⟨h1, j, hj, rfl⟩
    · refine .inr ⟨hr, ?_, fun r ⟨s, e, hs, he, hr⟩ => ?_⟩
      · rw [← he] at hr ⊢
        rw [← hg] at hr ⊢
        simp only at hr ⊢
        by_cases hb : S.testBit i = true
        · rw [if_pos hb] at hr ⊢
          by_cases hneg : stp J i t < 0
          · rw [if_pos hneg] at hr; omega
          · rw [if_neg hneg] at hr ⊢
            rcases ih i (stp J i t) hi (by omega) with ⟨h1, _⟩ | ⟨h1, ⟨s', e', hs', hr', hm⟩, _⟩
            · omega
            · refine ⟨i :: s', e', (Ord.cons hn hS8).2 ⟨⟨hi, hb⟩, hs'⟩, ?_, hm⟩
              rw [runL, stp_some (by omega)]
              exact hr'
        · rw [if_neg hb] at hr; omega
      · obtain ⟨j, hj, h1, h2⟩ := low s e hs he
        have := hl (g j) ⟨h1, j, hj, rfl⟩
        omega
/-- Both ways come to one end. -/
theorem endR_endE (hn : n ≤ 8) (hd : ∀ i, i < n → 0 ≤ (J i).f ∧ 1 ≤ (J i).d) {m S : Nat} (h : S ≤ m) (hS : S < 2 ^ n) : endR J n m S 0 = if endE J n m S < 0 then -1 else max 0 (endE J n m S - 1) := by
  rcases endE_least hn hd m S h hS with ⟨h1, hno⟩ | ⟨h1, ⟨s, hs, hr⟩, hl⟩
  · rw [if_pos (by omega)]
    rcases endR_least hn hd m S 0 (Int.le_refl _) h hS with ⟨h2, _⟩ | ⟨_, ⟨s, e, hs, he, _⟩, _⟩
    · exact h2
    · exact (hno e ⟨s, hs, he⟩).elim
  · rw [if_neg (by omega)]
    rcases endR_least hn hd m S 0 (Int.le_refl _) h hS with ⟨_, hno⟩ | ⟨h2, ⟨s', e', hs', he', hm⟩, hl2⟩
    · exact (hno _ ⟨s, _, hs, hr, rfl⟩).elim
    · have a := hl e' ⟨s', hs', he'⟩
      have b := hl2 _ ⟨s, _, hs, hr, rfl⟩
      omega
end
end Go.Proofs.Ytokddcnkfeimkaa
