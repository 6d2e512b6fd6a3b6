/- What the cabins of a queue hold, and what a split queue keeps: plain lists, no program in sight; no conditions beyond those of each statement. -/
import Derived.Test.YtalabohacedgnaaNeeded
import Derived.Test.YtalabohacedgnaaCabinOf
import Derived.Test.YtalabohacedgnaaPeople
import Derived.Test.YtalabohacedgnaaSplit
import Derived.Test.YtalabohacedgnaaPackSpec
namespace Go.Proofs.Ytalabohacedgnaa
open Go.RowKit

theorem nodup_inj {t : List Int} (hd : t.Nodup) {i j : Nat} (hi : i < t.length) (hj : j < t.length) (h : nth t i = nth t j) : i = j := by
  rw [nth_eq hi, nth_eq hj] at h
  rw [List.Nodup, List.pairwise_iff_getElem] at hd
  rcases Nat.lt_trichotomy i j with hlt | e | hlt
  · exact absurd h (hd i j hi hj hlt)
  · exact e
  · exact absurd h.symm (hd j i hj hi hlt)
theorem hasI_snoc {u : List Int} {x y : Int} : hasI (u ++ [x]) y = (hasI u y || decide (y = x)) := by
  unfold hasI; rw [Bool.eq_iff_iff]; simp
theorem hasI_congr {u v : List Int} (h : ∀ z, z ∈ u ↔ z ∈ v) (x : Int) : hasI u x = hasI v x := by
  unfold hasI; rw [Bool.eq_iff_iff]; simp [h x]
theorem hasI_iff {u : List Int} {x : Int} : hasI u x = true ↔ x ∈ u := by unfold hasI; simp
theorem inTo_congr {l : List Gro} {u v : List Int} (h : ∀ z, z ∈ u ↔ z ∈ v) : ∀ n, inTo l u n = inTo l v n
  | 0 => rfl
  | n + 1 => by rw [inTo, inTo, hasI_congr h, inTo_congr h n]
theorem restTo_congr {l : List Gro} {u v : List Int} (h : ∀ z, z ∈ u ↔ z ∈ v) : ∀ n, restTo l u n = restTo l v n
  | 0 => rfl
  | n + 1 => by rw [restTo, restTo, hasI_congr h, restTo_congr h n]
theorem inTo_past {l : List Gro} {u : List Int} {k : Nat} : ∀ n, n ≤ k → inTo l (u ++ [(k : Int)]) n = inTo l u n
  | 0, _ => rfl
  | n + 1, h => by
    rw [inTo, inTo, inTo_past n (by omega), hasI_snoc, show decide ((n : Int) = (k : Int)) = false from decide_eq_false (by omega), Bool.or_false]
theorem inTo_add {l : List Gro} {u : List Int} {k : Nat} (hf : (k : Int) ∉ u) : ∀ n, k < n → inTo l (u ++ [(k : Int)]) n = inTo l u n + (nth l k).s
  | 0, h => absurd h (by omega)
  | n + 1, h => by
    rw [inTo, inTo, hasI_snoc]
    by_cases e : n = k
    · subst e
      rw [inTo_past n (Nat.le_refl _)]
      have : hasI u n = false := by
        rcases hb : hasI u n with _ | _
        · rfl
        · exact absurd (hasI_iff.1 hb) hf
      rw [this]; simp
    · rw [inTo_add hf n (by omega), show decide ((n : Int) = (k : Int)) = false from decide_eq_false (by omega), Bool.or_false]
      split <;> omega
theorem restTo_past {l : List Gro} {u : List Int} {k : Nat} : ∀ n, n ≤ k → restTo l (u ++ [(k : Int)]) n = restTo l u n
  | 0, _ => rfl
  | n + 1, h => by
    rw [restTo, restTo, restTo_past n (by omega), hasI_snoc, show decide ((n : Int) = (k : Int)) = false from decide_eq_false (by omega), Bool.or_false]
theorem restTo_add {l : List Gro} {u : List Int} {k : Nat} (hf : (k : Int) ∉ u) : ∀ n, k < n → (restTo l (u ++ [(k : Int)]) n).length + 1 = (restTo l u n).length
  | 0, h => absurd h (by omega)
  | n + 1, h => by
    rw [restTo, restTo, hasI_snoc]
    by_cases e : n = k
    · subst e
      rw [restTo_past n (Nat.le_refl _)]
      have : hasI u n = false := by
        rcases hb : hasI u n with _ | _
        · rfl
        · exact absurd (hasI_iff.1 hb) hf
      rw [this]; simp
    · have ih := restTo_add (l := l) hf n (by omega)
      rw [show decide ((n : Int) = (k : Int)) = false from decide_eq_false (by omega), Bool.or_false]
      split
      · exact ih
      · simp only [List.length_append, List.length_singleton]; omega
theorem restTo_nil {l : List Gro} : ∀ n, (restTo l [] n).length = n ∧ inTo l [] n = 0
  | 0 => ⟨rfl, rfl⟩
  | n + 1 => by
    have := restTo_nil (l := l) n
    rw [restTo, inTo, if_neg (by simp [hasI]), if_neg (by simp [hasI])]
    simp; omega
/-- A lane's seats: what is taken and what is left are all. -/
theorem lane_sum {l : List Gro} {q : Bool} {s : Int} {st : List Int × Int} (hg : ∀ i, i < l.length → 1 ≤ (nth l i).s) (h : Way l q s 0 st) : ∀ k, k ≤ l.length →
    inTo l (laneTo l q st k).1 l.length + (laneTo l q st k).2 = inTo l st.1 l.length + st.2 ∧ (laneTo l q st k).1.length + (restTo l (laneTo l q st k).1 l.length).length = st.1.length + (restTo l st.1 l.length).length
  | 0, _ => ⟨rfl, rfl⟩
  | k + 1, hk => by
    obtain ⟨i1, i2⟩ := lane_sum hg h k (by omega)
    by_cases c : (nth l k).q = q ∧ (nth l k).s ≤ (laneTo l q st k).2
    · have hw := way_to hg h k (by omega)
      have hf := way_fresh hw c.1
      rw [laneTo_yes c.1 c.2]
      have a := inTo_add (l := l) hf l.length (by omega)
      have b := restTo_add (l := l) hf l.length (by omega)
      refine ⟨by simp only; omega, by simp only [List.length_append, List.length_singleton]; omega⟩
    · rw [laneTo_no c]; exact ⟨i1, i2⟩
/-- Who gets in fills no more than the seats, and everybody is in or stays behind. -/
theorem fill_sum {l : List Gro} {s : Int} (hs : 0 ≤ s) (hg : ∀ i, i < l.length → 1 ≤ (nth l i).s) : inTo l (fillL l s) l.length ≤ s ∧ (fillL l s).length + (restTo l (fillL l s) l.length).length = l.length := by
  have h1 := lane_sum hg (way_0 (l := l) hs) l.length (Nat.le_refl _)
  have h2 := lane_sum hg (way_1 (l := l) hs hg) l.length (Nat.le_refl _)
  have hw := way_to hg (way_1 (l := l) hs hg) l.length (Nat.le_refl _)
  have e1 : lanes l s 1 = laneTo l true (lanes l s 0) l.length := rfl
  have e2 : lanes l s 2 = laneTo l false (lanes l s 1) l.length := rfl
  rw [← e1] at h1
  rw [← e2] at h2 hw
  have z := restTo_nil (l := l) l.length
  have e0 : lanes l s 0 = ([], s) := rfl
  rw [e0] at h1
  have hm : ∀ y, y ∈ fillL l s ↔ y ∈ (lanes l s 2).1 := fun y => isort_mem
  rw [inTo_congr hm, restTo_congr hm, show (fillL l s).length = (lanes l s 2).1.length from isort_len _]
  have := hw.left
  simp only at h1
  exact ⟨by omega, by simp only [List.length_nil] at h1; omega⟩
theorem inTo_pos {l : List Gro} {u : List Int} (hg : ∀ i, i < l.length → 1 ≤ (nth l i).s) {j : Nat} (hj : hasI u j = true) : ∀ n, n ≤ l.length → 0 ≤ inTo l u n ∧ (j < n → 1 ≤ inTo l u n)
  | 0, _ => ⟨Int.le_refl _, fun h => absurd h (by omega)⟩
  | n + 1, hn => by
    obtain ⟨a, b⟩ := inTo_pos hg hj n (by omega)
    have h1 := hg n (by omega)
    rw [inTo]
    by_cases e : j = n
    · subst e; rw [if_pos hj]; exact ⟨by omega, fun _ => by omega⟩
    · split
      · exact ⟨by omega, fun h => by have := b (by omega); omega⟩
      · exact ⟨a, fun h => b (by omega)⟩

/-! The count of cabins hangs on the groups that wait, and on nothing else. -/
def cntG (s : Int) : Nat → List Gro → Nat
  | 0, _ => 0
  | m + 1, g => if g.length = 0 then 0 else 1 + cntG s m (restTo g (fillL g s) g.length)
theorem cabsG_cnt {l : List Gro} {s : Int} : ∀ m t c out, (cabsG l s m t c out).2 = c + (cntG s m (pickG l t) : Nat)
  | 0, _, _, _ => by simp [cabsG, cntG]
  | m + 1, t, c, out => by
    rw [cabsG, cntG, pick_len]
    split
    · simp
    · rw [cabsG_cnt m, rest_pick _ (Nat.le_refl _)]
      omega
theorem rest_less {g : List Gro} {s : Int} (hs : 0 ≤ s) (hg : ∀ i, i < g.length → 1 ≤ (nth g i).s ∧ (nth g i).s ≤ s) (h0 : 0 < g.length) : (restTo g (fillL g s) g.length).length < g.length := by
  obtain ⟨_, h2⟩ := fill_sum (l := g) hs fun i hi => (hg i hi).1
  obtain ⟨k, hk, hh⟩ := fill_some h0 hs hg
  have : 0 < (fillL g s).length := List.length_pos_of_mem (hasI_iff.1 hh)
  omega
theorem restTo_mem {g : List Gro} {u : List Int} {x : Gro} : ∀ n, n ≤ g.length → x ∈ restTo g u n → x ∈ g
  | 0, _, h => by cases h
  | n + 1, hn, h => by
    rw [restTo] at h
    split at h
    · exact restTo_mem n (by omega) h
    · rcases List.mem_append.1 h with h | h
      · exact restTo_mem n (by omega) h
      · rw [List.mem_singleton.1 h]; exact nth_mem (by omega)
theorem all_nth {α : Type} [Inhabited α] {g : List α} {P : α → Prop} : (∀ i, i < g.length → P (nth g i)) ↔ ∀ x, x ∈ g → P x :=
  ⟨fun h x hx => by obtain ⟨i, hi, rfl⟩ := List.getElem_of_mem hx; have := h i hi; rwa [nth_eq hi] at this, fun h i hi => h _ (nth_mem hi)⟩
theorem rest_ok {g : List Gro} {u : List Int} {P : Gro → Prop} (hg : ∀ i, i < g.length → P (nth g i)) : ∀ i, i < (restTo g u g.length).length → P (nth (restTo g u g.length) i) :=
  all_nth.2 fun x hx => all_nth.1 hg x (restTo_mem _ (Nat.le_refl _) hx)
theorem cnt_fuel {s : Int} (hs : 0 ≤ s) : ∀ m m' g, g.length < m → g.length < m' → (∀ i, i < g.length → 1 ≤ (nth g i).s ∧ (nth g i).s ≤ s) → cntG s m g = cntG s m' g
  | 0, _, _, h, _, _ => absurd h (by omega)
  | _ + 1, 0, _, _, h, _ => absurd h (by omega)
  | m + 1, m' + 1, g, h1, h2, hg => by
    rw [cntG, cntG]
    split
    · rfl
    · next h0 =>
      have hl := rest_less hs hg (by omega)
      rw [cnt_fuel hs m m' _ (by omega) (by omega) (rest_ok (P := fun x => 1 ≤ x.s ∧ x.s ≤ s) hg)]
theorem cabs_cnt {l : List Gro} {s : Int} : (cabs l s).2 = (cntG s (l.length + 1) l : Nat) := by
  rw [cabs, cabsG_cnt, pick_up]; omega
theorem fit_make {l : List Gro} {s : Int} (hn : l.length ≤ 12) (hg : ∀ i, i < l.length → 1 ≤ (nth l i).s ∧ (nth l i).s ≤ 8) (hs : 1 ≤ s ∧ s ≤ 10) (hf : ∀ i, i < l.length → (nth l i).s ≤ s) : fitG l s = true := by
  simp only [fitG, goodG, Bool.and_eq_true, decide_eq_true_eq, allTo_true, okG, inR_true]
  exact ⟨⟨⟨hg, hn⟩, hs⟩, hf⟩
/-- Behind a cabin one cabin less is needed. -/
theorem need_rest {l : List Gro} {s : Int} (h : fitG l s = true) (h0 : 0 < l.length) :
    fitG (restTo l (fillL l s) l.length) s = true ∧ (cabs l s).2 = (cabs (restTo l (fillL l s) l.length) s).2 + 1 := by
  obtain ⟨⟨hn, hg⟩, hs, hf⟩ := fitG_true h
  have hb : ∀ i, i < l.length → 1 ≤ (nth l i).s ∧ (nth l i).s ≤ s := fun i hi => ⟨(hg i hi).1, hf i hi⟩
  have hl := rest_less (g := l) (by omega) hb h0
  refine ⟨fit_make (by omega) (rest_ok (P := fun x => 1 ≤ x.s ∧ x.s ≤ 8) hg) hs (rest_ok (P := fun x => x.s ≤ s) hf), ?_⟩
  rw [cabs_cnt, cabs_cnt, cntG, if_neg (by omega), cnt_fuel (by omega) l.length ((restTo l (fillL l s) l.length).length + 1) _ (by omega) (by omega) (rest_ok (P := fun x => 1 ≤ x.s ∧ x.s ≤ s) hb)]
  omega

/-! Every cabin holds somebody, and no more than its seats. -/
theorem sumIf_or {z : Nat → Int} {p : Nat → Bool} {x : Nat} (hx : p x = false) : ∀ n, x < n → sumIf z (fun i => p i || decide (i = x)) n = sumIf z p n + z x
  | 0, h => absurd h (by omega)
  | n + 1, h => by
    rw [sumIf, sumIf]
    by_cases e : x = n
    · subst e
      rw [sumIf_congr (q := p) fun i hi => by rw [show decide (i = x) = false from decide_eq_false (by omega), Bool.or_false], hx]
      simp
    · rw [sumIf_or hx n (by omega), show decide (n = x) = false from decide_eq_false (by omega), Bool.or_false]
      omega
/-- What a cabin takes, by places and by groups. -/
theorem sum_places {l : List Gro} {t u : List Int} {n : Nat} (hn : n = l.length) (hw : ∀ z ∈ t, 0 ≤ z ∧ z < n) (hd : t.Nodup) : ∀ m, m ≤ t.length →
    sumIf (zOf l) (fun i => decide (∃ j, j < m ∧ hasI u j = true ∧ nth t j = (i : Int))) n = inTo (pickG l t) u m
  | 0, _ => by rw [sumIf_none fun i _ => by simp]; rfl
  | m + 1, hm => by
    have ih := sum_places (u := u) hn hw hd m (by omega)
    have hz := hw _ (nth_mem (show m < t.length by omega))
    rw [inTo]
    rcases hu : hasI u m with _ | _
    · rw [if_neg (by simp), ← ih]
      refine sumIf_congr fun i _ => ?_
      rw [decide_eq_decide]
      constructor
      · rintro ⟨j, hj, h1, h2⟩
        by_cases e : j = m
        · subst e; rw [hu] at h1; cases h1
        · exact ⟨j, by omega, h1, h2⟩
      · rintro ⟨j, hj, h1, h2⟩; exact ⟨j, by omega, h1, h2⟩
    · rw [if_pos rfl, ← ih, nth_pick (by omega)]
      have hx : decide (∃ j, j < m ∧ hasI u j = true ∧ nth t j = (((nth t m).toNat : Nat) : Int)) = false := by
        rw [decide_eq_false_iff_not]
        rintro ⟨j, hj, _, h2⟩
        rw [Int.toNat_of_nonneg hz.1] at h2
        have := nodup_inj hd (by omega) (by omega) h2
        omega
      have := sumIf_or (z := zOf l) (p := fun i => decide (∃ j, j < m ∧ hasI u j = true ∧ nth t j = (i : Int))) hx n (by omega)
      rw [zOf_at (by omega)] at this
      rw [← this]
      refine sumIf_congr fun i _ => ?_
      rw [Bool.eq_iff_iff]
      simp only [Bool.or_eq_true, decide_eq_true_eq]
      constructor
      · rintro ⟨j, hj, h1, h2⟩
        by_cases e : j = m
        · subst e; right; omega
        · exact .inl ⟨j, by omega, h1, h2⟩
      · rintro (⟨j, hj, h1, h2⟩ | e)
        · exact ⟨j, by omega, h1, h2⟩
        · exact ⟨m, by omega, hu, by omega⟩
theorem leftTo_iff {t u : List Int} (hd : t.Nodup) {z : Int} : ∀ m, m ≤ t.length → (z ∈ leftTo t u m ↔ ∃ j, j < m ∧ hasI u j = false ∧ nth t j = z)
  | 0, _ => by simp [leftTo]
  | m + 1, hm => by
    have ih := leftTo_iff (u := u) hd (z := z) m (by omega)
    rw [leftTo]
    rcases hu : hasI u m with _ | _
    · rw [if_neg (by simp), List.mem_append, ih, List.mem_singleton]
      constructor
      · rintro (⟨j, hj, h1, h2⟩ | e)
        · exact ⟨j, by omega, h1, h2⟩
        · exact ⟨m, by omega, hu, e.symm⟩
      · rintro ⟨j, hj, h1, h2⟩
        by_cases e : j = m
        · subst e; exact .inr h2.symm
        · exact .inl ⟨j, by omega, h1, h2⟩
    · rw [if_pos rfl, ih]
      constructor
      · rintro ⟨j, hj, h1, h2⟩; exact ⟨j, by omega, h1, h2⟩
      · rintro ⟨j, hj, h1, h2⟩
        by_cases e : j = m
        · subst e; rw [hu] at h1; cases h1
        · exact ⟨j, by omega, h1, h2⟩
theorem leftTo_sub {t u : List Int} : ∀ m, m ≤ t.length → (leftTo t u m).Sublist (t.take m)
  | 0, _ => by simp [leftTo]
  | m + 1, hm => by
    have ih := leftTo_sub (t := t) (u := u) m (by omega)
    rw [leftTo, List.take_succ_eq_append_getElem (show m < t.length by omega)]
    split
    · exact ih.trans (List.sublist_append_left _ _)
    · rw [nth_eq (l := t) (by omega)]; exact ih.append (List.Sublist.refl _)
theorem left_nodup {t u : List Int} (hd : t.Nodup) : (leftTo t u t.length).Nodup := by
  have := leftTo_sub (t := t) (u := u) t.length (Nat.le_refl _)
  rw [List.take_length] at this
  exact this.nodup hd
theorem outTo_same {out : List Int} {c : Int} {t u : List Int} {i : Nat} (hi : i < out.length) : ∀ m, m ≤ t.length → (∀ j, j < m → hasI u j = true → (nth t j).toNat ≠ i) → nth (outTo out c t u m) i = nth out i
  | 0, _, _ => rfl
  | m + 1, hm, h => by
    rw [outTo]
    have ih := outTo_same (c := c) hi m (by omega) fun j hj => h j (by omega)
    split
    · next hu =>
      rw [nth_set' (by rw [outTo_len]; exact hi), if_neg (h m (by omega) hu)]; exact ih
    · exact ih
/-- What holds of the cabins that went: whoever does not wait any more is in one of them, and each holds somebody and no more than its seats. -/
structure Went (l : List Gro) (s : Int) (t : List Int) (c : Int) (out : List Int) : Prop where
  len : out.length = l.length
  wait : ∀ z ∈ t, 0 ≤ z ∧ z < l.length
  tl : t.length ≤ l.length
  nodup : t.Nodup
  c0 : 0 ≤ c
  some : ∀ i : Nat, i < l.length → (i : Int) ∉ t → 0 ≤ nth out i ∧ nth out i < c
  sums : ∀ k : Int, 0 ≤ k → k < c → 1 ≤ sumIf (zOf l) (fun i => decide ((i : Int) ∉ t ∧ nth out i = k)) l.length ∧ sumIf (zOf l) (fun i => decide ((i : Int) ∉ t ∧ nth out i = k)) l.length ≤ s
theorem went_next {l : List Gro} {s : Int} {t out : List Int} {c : Int} (h : Went l s t c out) (hs : 0 ≤ s) (hg : ∀ i, i < l.length → 1 ≤ (nth l i).s ∧ (nth l i).s ≤ s) (h0 : 0 < t.length) :
    Went l s (leftTo t (fillL (pickG l t) s) t.length) (c + 1) (outTo out c t (fillL (pickG l t) s) t.length) := by
  obtain ⟨u, hu⟩ : ∃ u, fillL (pickG l t) s = u := ⟨_, rfl⟩
  have hpk : ∀ i, i < (pickG l t).length → 1 ≤ (nth (pickG l t) i).s ∧ (nth (pickG l t) i).s ≤ s := fun i hi => by
    rw [pick_len] at hi
    rw [nth_pick hi]
    have := h.wait _ (nth_mem hi)
    exact hg _ (by omega)
  obtain ⟨f1, _⟩ := fill_sum (l := pickG l t) hs fun i hi => (hpk i hi).1
  obtain ⟨k0, hk0, hh0⟩ := fill_some (l := pickG l t) (by rwa [pick_len]) hs hpk
  have f2 := (inTo_pos (l := pickG l t) (fun i hi => (hpk i hi).1) hh0 (pickG l t).length (Nat.le_refl _)).2 hk0
  rw [hu, pick_len] at f1 f2
  rw [hu]
  have hleft := fun z => leftTo_iff (t := t) (u := u) h.nodup (z := z) t.length (Nat.le_refl _)
  have hin : ∀ i : Nat, (i : Int) ∈ t → ∃ j, j < t.length ∧ nth t j = (i : Int) := fun i hi => by
    obtain ⟨j, hj, e⟩ := List.getElem_of_mem hi
    exact ⟨j, hj, by rw [nth_eq hj, e]⟩
  have huniq : ∀ j j', j < t.length → j' < t.length → nth t j = nth t j' → j = j' := fun j j' hj hj' e => by
    exact nodup_inj h.nodup hj hj' e
  -- who waits no more: who waited no more, or who got in
  have hgone : ∀ i : Nat, ((i : Int) ∉ leftTo t u t.length) ↔ ((i : Int) ∉ t ∨ ∃ j, j < t.length ∧ hasI u j = true ∧ nth t j = (i : Int)) := fun i => by
    rw [hleft]
    constructor
    · intro hn
      by_cases hi : (i : Int) ∈ t
      · obtain ⟨j, hj, e⟩ := hin i hi
        rcases hb : hasI u j with _ | _
        · exact absurd ⟨j, hj, hb, e⟩ hn
        · exact .inr ⟨j, hj, hb, e⟩
      · exact .inl hi
    · rintro (hi | ⟨j, hj, hb, e⟩) ⟨j', hj', hb', e'⟩
      · exact hi (e' ▸ nth_mem hj')
      · have := huniq j j' hj hj' (e.trans e'.symm)
        subst this; rw [hb] at hb'; cases hb'
  have hold : ∀ i : Nat, i < l.length → (i : Int) ∉ t → nth (outTo out c t u t.length) i = nth out i := fun i hi hn =>
    outTo_same (by rw [h.len]; exact hi) t.length (Nat.le_refl _) fun j hj _ e => hn (by
      have := h.wait _ (nth_mem hj)
      rw [show (i : Int) = nth t j by omega]; exact nth_mem hj)
  have hnew : ∀ i : Nat, i < l.length → (∃ j, j < t.length ∧ hasI u j = true ∧ nth t j = (i : Int)) → nth (outTo out c t u t.length) i = c := fun i hi ⟨j, hj, hb, e⟩ => by
    have := outTo_at (out := out) (c := c) (t := t) hb (by rw [e, h.len]; omega) t.length hj
    rw [e] at this; exact this
  have hc0 := h.c0
  refine ⟨by rw [outTo_len]; exact h.len, fun z hz => h.wait z (leftTo_mem _ (Nat.le_refl _) hz), Nat.le_trans (leftTo_len _) h.tl, left_nodup h.nodup, by omega, fun i hi hn => ?_, fun k hk0 hk => ?_⟩
  · rcases (hgone i).1 hn with h1 | h1
    · rw [hold i hi h1]; have := h.some i hi h1; omega
    · rw [hnew i hi h1]; omega
  · by_cases hkc : k = c
    · subst hkc
      have e : sumIf (zOf l) (fun i => decide ((i : Int) ∉ leftTo t u t.length ∧ nth (outTo out k t u t.length) i = k)) l.length = inTo (pickG l t) u t.length := by
        rw [← sum_places (l := l) (t := t) (u := u) rfl h.wait h.nodup t.length (Nat.le_refl _)]
        refine sumIf_congr fun i hi => ?_
        rw [decide_eq_decide]
        constructor
        · rintro ⟨a, b⟩
          rcases (hgone i).1 a with h1 | h1
          · rw [hold i hi h1] at b; have := h.some i hi h1; omega
          · exact h1
        · intro h1
          exact ⟨(hgone i).2 (.inr h1), hnew i hi h1⟩
      rw [e]; exact ⟨f2, f1⟩
    · have e : sumIf (zOf l) (fun i => decide ((i : Int) ∉ leftTo t u t.length ∧ nth (outTo out c t u t.length) i = k)) l.length = sumIf (zOf l) (fun i => decide ((i : Int) ∉ t ∧ nth out i = k)) l.length := by
        refine sumIf_congr fun i hi => ?_
        rw [decide_eq_decide]
        constructor
        · rintro ⟨a, b⟩
          rcases (hgone i).1 a with h1 | h1
          · rw [hold i hi h1] at b; exact ⟨h1, b⟩
          · rw [hnew i hi h1] at b; exact absurd b.symm hkc
        · rintro ⟨a, b⟩
          exact ⟨(hgone i).2 (.inl a), by rw [hold i hi a]; exact b⟩
      rw [e]; exact h.sums k hk0 (by omega)
theorem cabsG_went {l : List Gro} {s : Int} (hs : 0 ≤ s) (hg : ∀ i, i < l.length → 1 ≤ (nth l i).s ∧ (nth l i).s ≤ s) : ∀ m t c out, t.length < m → Went l s t c out → Went l s [] (cabsG l s m t c out).2 (cabsG l s m t c out).1
  | 0, _, _, _, h, _ => absurd h (by omega)
  | m + 1, t, c, out, h, hw => by
    rw [cabsG]
    split
    · next e =>
      have : t = [] := List.length_eq_zero_iff.1 e
      subst this; exact hw
    · next e =>
      have hl := left_less (l := l) (t := t) (s := s) ⟨hw.tl, hw.wait⟩ hs hg (by omega)
      exact cabsG_went hs hg m _ _ _ (by omega) (went_next hw hs hg (by omega))
theorem upN_nodup : ∀ n, (upN n).Nodup
  | 0 => List.nodup_nil
  | n + 1 => by
    rw [upN, List.nodup_append]
    refine ⟨upN_nodup n, by simp, fun a ha b hb => ?_⟩
    obtain ⟨i, rfl, hi⟩ := upN_mem n a ha
    rw [List.mem_singleton.1 hb]; omega
/-- Every group is in one cabin, and every cabin holds somebody and no more than its seats. -/
theorem cabs_went {l : List Gro} {s : Int} (hs : 0 ≤ s) (hg : ∀ i, i < l.length → 1 ≤ (nth l i).s ∧ (nth l i).s ≤ s) : Went l s [] (cabs l s).2 (cabs l s).1 := by
  refine cabsG_went hs hg (l.length + 1) (upN l.length) 0 (List.replicate l.length 0) (by rw [upN_len]; omega) ⟨by simp, fun z hz => ?_, by rw [upN_len]; exact Nat.le_refl _, upN_nodup _, Int.le_refl _, fun i hi hn => absurd ?_ hn, fun k h0 h1 => by omega⟩
  · obtain ⟨i, rfl, hi⟩ := upN_mem _ z hz; omega
  · have := nth_mem (l := upN l.length) (i := i) (by rw [upN_len]; exact hi)
    rwa [upN_nth _ _ hi] at this
/-- How many people the first i groups put into cabin k. -/
def fullTo (l : List Gro) (out : List Int) (k : Int) (i : Nat) : Int := sumIf (zOf l) (fun j => decide (nth out j = k)) i
theorem cabs_full {l : List Gro} {s : Int} (hs : 0 ≤ s) (hg : ∀ i, i < l.length → 1 ≤ (nth l i).s ∧ (nth l i).s ≤ s) :
    (∀ i, i < l.length → 0 ≤ nth (cabs l s).1 i ∧ nth (cabs l s).1 i < (cabs l s).2) ∧ ∀ k : Int, 0 ≤ k → k < (cabs l s).2 → 1 ≤ fullTo l (cabs l s).1 k l.length ∧ fullTo l (cabs l s).1 k l.length ≤ s := by
  have h := cabs_went hs hg
  refine ⟨fun i hi => h.some i hi (by simp), fun k h0 h1 => ?_⟩
  have := h.sums k h0 h1
  simpa [fullTo] using this

/-! The least number of cabins. -/
theorem exists_least {p : Nat → Bool} : ∀ n, p n = true → ∃ m, m ≤ n ∧ p m = true ∧ ∀ j, j < m → p j = false
  | 0, h => ⟨0, Nat.le_refl _, h, fun j hj => absurd hj (by omega)⟩
  | n + 1, h => by
    by_cases hex : ∃ k, k ≤ n ∧ p k = true
    · obtain ⟨k, hk, hp⟩ := hex
      obtain ⟨m, hm, h1, h2⟩ := exists_least k hp
      exact ⟨m, by omega, h1, h2⟩
    · refine ⟨n + 1, Nat.le_refl _, h, fun j hj => ?_⟩
      rcases hb : p j with _ | _
      · rfl
      · exact absurd ⟨j, by omega, hb⟩ hex
termination_by n => n
theorem least_is {z : Nat → Int} {n m : Nat} {s : Int} (hz : ∀ i, 0 ≤ z i) (hs0 : 0 ≤ s) (hs : ∀ i, i < n → z i ≤ s) (h : PackP z n s (fun _ => true) m) : leastN z n s ≤ m ∧ PackP z n s (fun _ => true) (leastN z n s) := by
  have hn := (packF_all hz hs0).2 (PackP.all (n := n) (P := fun _ => true) hz hs)
  have hm := (packF_all hz hs0).2 h
  obtain ⟨a, ha, h1, h2⟩ := exists_least (p := fun m => packF z n 0 (List.replicate m s)) n hn
  have e : leastN z n s = a := leastC_eq h1 n 0 (Nat.zero_le _) (by omega) fun j _ hj => h2 j hj
  rw [e]
  refine ⟨?_, (packF_all hz hs0).1 h1⟩
  by_cases hle : a ≤ m
  · exact hle
  · have := h2 m (by omega)
    rw [hm] at this; cases this
theorem sumIf_split2 {z : Nat → Int} {p q r : Nat → Bool} : ∀ n, (∀ i, i < n → p i = (q i || r i) ∧ ¬ (q i = true ∧ r i = true)) → sumIf z p n = sumIf z q n + sumIf z r n
  | 0, _ => rfl
  | n + 1, h => by
    obtain ⟨h1, h2⟩ := h n (by omega)
    rw [sumIf, sumIf, sumIf, sumIf_split2 n fun i hi => h i (by omega), h1]
    cases hq : q n <;> cases hr : r n <;> simp_all <;> omega
theorem pack_sum {z : Nat → Int} {n : Nat} {s : Int} {f : Nat → Nat} : ∀ m, (∀ k, k < m → sumIf z (fun i => decide (f i = k)) n ≤ s) → sumIf z (fun i => decide (f i < m)) n ≤ m * s
  | 0, _ => by rw [sumIf_none fun i _ => by simp]; simp
  | m + 1, h => by
    have ih := pack_sum m fun k hk => h k (by omega)
    have h1 := h m (by omega)
    rw [sumIf_split2 (q := fun i => decide (f i < m)) (r := fun i => decide (f i = m)) n fun i _ => ⟨by rw [Bool.eq_iff_iff]; simp; omega, by simp; omega⟩]
    have : ((m + 1 : Nat) : Int) * s = m * s + s := by rw [Int.natCast_add, Int.add_mul]; simp
    omega
theorem people_sum {l : List Gro} : ∀ n, n ≤ l.length → sumIf (zOf l) (fun _ => true) n = peopleTo l n
  | 0, _ => rfl
  | n + 1, h => by rw [sumIf, peopleTo, people_sum n (by omega), if_pos rfl, zOf_at (by omega)]
theorem zOf_le {l : List Gro} {s : Int} (hf : ∀ i, i < l.length → (nth l i).s ≤ s) : ∀ i, i < l.length → zOf l i ≤ s := fun i hi => by rw [zOf_at hi]; exact hf i hi
/-- The least number of cabins has room for all, and nobody needs fewer. -/
theorem least_room {l : List Gro} {s : Int} (h : fitG l s = true) : peopleTo l l.length ≤ leastN (zOf l) l.length s * s ∧ (leastN (zOf l) l.length s : Int) ≤ (cabs l s).2 := by
  obtain ⟨⟨hn, hg⟩, hs, hf⟩ := fitG_true h
  have hz := zOf_ge hg
  have hzs := zOf_le hf
  have hb : ∀ i, i < l.length → 1 ≤ (nth l i).s ∧ (nth l i).s ≤ s := fun i hi => ⟨(hg i hi).1, hf i hi⟩
  constructor
  · obtain ⟨_, f, h1, h2⟩ := least_is hz (by omega) hzs (PackP.all (n := l.length) (P := fun _ => true) hz hzs)
    have := pack_sum (z := zOf l) (n := l.length) (s := s) (f := f) (leastN (zOf l) l.length s) fun k hk => by simpa using h2 k hk
    rw [sumIf_congr (q := fun _ => true) fun i hi => by simpa using h1 i hi rfl, people_sum _ (Nat.le_refl _)] at this
    exact this
  · obtain ⟨w1, w2⟩ := cabs_full (l := l) (by omega) hb
    have hc0 := (cabs_went (l := l) (by omega) hb).c0
    have hp : PackP (zOf l) l.length s (fun _ => true) (cabs l s).2.toNat := by
      refine ⟨fun i => (nth (cabs l s).1 i).toNat, fun i hi _ => by have := w1 i hi; show (nth (cabs l s).1 i).toNat < _; omega, fun k hk => ?_⟩
      have := (w2 k (by omega) (by omega)).2
      rw [fullTo] at this
      rw [sumIf_congr (q := fun j => decide (nth (cabs l s).1 j = (k : Int))) fun i hi => by
        have := w1 i hi
        rw [Bool.true_and, decide_eq_decide]; show (nth (cabs l s).1 i).toNat = k ↔ _; omega]
      exact this
    have := (least_is hz (by omega) hzs hp).1
    omega

/-! Splitting loses nobody. -/
def sumS : List Gro → Int
  | [] => 0
  | x :: g => x.s + sumS g
def sumQ : List Gro → Int
  | [] => 0
  | x :: g => (if x.q = true then x.s else 0) + sumQ g
theorem sumS_app : ∀ a b : List Gro, sumS (a ++ b) = sumS a + sumS b ∧ sumQ (a ++ b) = sumQ a + sumQ b
  | [], b => by simp [sumS, sumQ]
  | x :: a, b => by
    obtain ⟨h1, h2⟩ := sumS_app a b
    simp only [List.cons_append, sumS, sumQ, h1, h2]
    exact ⟨by omega, by omega⟩
theorem people_take {l : List Gro} : ∀ k, k ≤ l.length → peopleTo l k = sumS (l.take k) ∧ quickTo l k = sumQ (l.take k)
  | 0, _ => ⟨rfl, rfl⟩
  | k + 1, hk => by
    obtain ⟨h1, h2⟩ := people_take (l := l) k (by omega)
    rw [List.take_succ_eq_append_getElem (by omega), (sumS_app _ _).1, (sumS_app _ _).2, peopleTo, quickTo, h1, h2, nth_eq (by omega)]
    simp only [sumS, sumQ]
    refine ⟨by omega, ?_⟩
    split <;> omega
theorem parts_sum {s : Int} {q : Bool} (hs : 1 ≤ s) : ∀ (m : Nat) (n : Int), 0 ≤ n → n ≤ m → sumS (parts s q m n) = n ∧ sumQ (parts s q m n) = (if q = true then n else 0)
  | 0, n, h0, h1 => by
    obtain rfl : n = 0 := by omega
    simp [parts, sumS, sumQ]
  | m + 1, n, h0, h1 => by
    by_cases hn : n ≤ 0
    · obtain rfl : n = 0 := by omega
      rw [parts_done (Int.le_refl _)]; simp [sumS, sumQ]
    · by_cases hlt : s < n
      · obtain ⟨a, b⟩ := parts_sum hs (q := q) m (n - s) (by omega) (by omega)
        rw [parts_more hlt hs]
        simp only [sumS, sumQ, a, b]
        refine ⟨by omega, ?_⟩
        split <;> omega
      · rw [parts_last (by omega) (by omega)]
        simp [sumS, sumQ]
theorem split_sum {l : List Gro} {s : Int} (hs : 1 ≤ s) (hg : ∀ i, i < l.length → 1 ≤ (nth l i).s ∧ (nth l i).s ≤ 8) : ∀ k, k ≤ l.length → sumS (splitTo l s k) = sumS (l.take k) ∧ sumQ (splitTo l s k) = sumQ (l.take k)
  | 0, _ => ⟨rfl, rfl⟩
  | k + 1, hk => by
    obtain ⟨h1, h2⟩ := split_sum hs hg k (by omega)
    have hb := hg k (by omega)
    obtain ⟨a, b⟩ := parts_sum hs (q := (nth l k).q) 8 (nth l k).s (by omega) (by omega)
    rw [splitTo, (sumS_app _ _).1, (sumS_app _ _).2, a, b, h1, h2, List.take_succ_eq_append_getElem (by omega), (sumS_app _ _).1, (sumS_app _ _).2, nth_eq (by omega)]
    simp [sumS, sumQ]
theorem parts_fit {s : Int} {q : Bool} (hs : 1 ≤ s) : ∀ (m : Nat) (n : Int), ∀ x, x ∈ parts s q m n → 1 ≤ x.s ∧ x.s ≤ s
  | 0, _, x, hx => by cases hx
  | m + 1, n, x, hx => by
    by_cases hn : n ≤ 0
    · rw [parts_done hn] at hx; cases hx
    · by_cases hlt : s < n
      · rw [parts_more hlt hs] at hx
        rcases List.mem_cons.1 hx with rfl | hx
        · exact ⟨hs, Int.le_refl _⟩
        · exact parts_fit hs m (n - s) x hx
      · rw [parts_last (by omega) (by omega)] at hx
        rw [List.mem_singleton.1 hx]
        exact ⟨by simp only; omega, by simp only; omega⟩
theorem split_fit {l : List Gro} {s : Int} (hs : 1 ≤ s) : ∀ k, ∀ x, x ∈ splitTo l s k → 1 ≤ x.s ∧ x.s ≤ s
  | 0, x, hx => by cases hx
  | k + 1, x, hx => by
    rw [splitTo] at hx
    rcases List.mem_append.1 hx with hx | hx
    · exact split_fit hs k x hx
    · exact parts_fit hs 8 _ x hx
theorem split_one {g : List Gro} {s : Int} (hg : ∀ i, i < g.length → 1 ≤ (nth g i).s ∧ (nth g i).s ≤ s) : ∀ k, k ≤ g.length → splitTo g s k = g.take k
  | 0, _ => rfl
  | k + 1, hk => by
    have hb := hg k (by omega)
    rw [splitTo, split_one hg k (by omega), parts_last hb.2 (by omega), List.take_succ_eq_append_getElem (by omega), nth_eq (by omega)]
/-- What splitting gives: all the people, in groups that fit, and splitting them again changes nothing. -/
theorem split_all {l : List Gro} {s : Int} (h : (split l s).2 = true) : fitG (split l s).1 s = true ∧ goodG l = true ∧ peopleTo (split l s).1 (split l s).1.length = peopleTo l l.length ∧ quickTo (split l s).1 (split l s).1.length = quickTo l l.length ∧ split (split l s).1 s = ((split l s).1, true) := by
  by_cases h1 : (goodG l && inR s 1 10 && decide ((splitTo l s l.length).length ≤ 12)) = true
  case neg => rw [split, if_neg h1] at h; cases h
  have e : split l s = (splitTo l s l.length, true) := by rw [split, if_pos h1]
  rw [e]
  simp only [Bool.and_eq_true, decide_eq_true_eq, inR_true] at h1
  obtain ⟨⟨hgood, hs⟩, hlen⟩ := h1
  obtain ⟨hn, hg⟩ := goodG_true hgood
  have hfit : ∀ i, i < (splitTo l s l.length).length → 1 ≤ (nth (splitTo l s l.length) i).s ∧ (nth (splitTo l s l.length) i).s ≤ s := fun i hi => split_fit hs.1 _ _ (nth_mem hi)
  have hsm : ∀ i, i < (splitTo l s l.length).length → 1 ≤ (nth (splitTo l s l.length) i).s ∧ (nth (splitTo l s l.length) i).s ≤ 8 := fun i hi => by
    have := splitTo_small (l := l) hs.1 hg l.length (Nat.le_refl _) i hi
    rw [okG, inR_true] at this; exact this
  have hf := fit_make hlen hsm hs fun i hi => (hfit i hi).2
  obtain ⟨a1, a2⟩ := people_take (l := splitTo l s l.length) _ (Nat.le_refl _)
  obtain ⟨b1, b2⟩ := people_take (l := l) _ (Nat.le_refl _)
  obtain ⟨c1, c2⟩ := split_sum hs.1 hg l.length (Nat.le_refl _)
  rw [List.take_length] at a1 a2
  refine ⟨hf, hgood, by simp only; rw [a1, b1, c1], by simp only; rw [a2, b2, c2], ?_⟩
  have e2 := split_one (g := splitTo l s l.length) (s := s) hfit _ (Nat.le_refl _)
  rw [List.take_length] at e2
  have hgood2 : goodG (splitTo l s l.length) = true := by
    simp only [fitG, Bool.and_eq_true] at hf; exact hf.1.1
  simp only
  unfold split
  rw [if_pos (by rw [e2]; simp [hgood2, inR, hs, hlen]), e2]
end Go.Proofs.Ytalabohacedgnaa
