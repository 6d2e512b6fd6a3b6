/- The cabins of a queue: what is left after a cabin, and who rides in which; plain lists, no program in sight. -/
import Derived.Test.YtalabohacedgnaaAfterCab
namespace Go.Proofs.Ytalabohacedgnaa
open Go.RowKit

def pickG (l : List Gro) (t : List Int) : List Gro := t.map fun i => nth l i.toNat
def outTo (out : List Int) (c : Int) (t u : List Int) : Nat → List Int
  | 0 => out
  | k + 1 => if hasI u k then (outTo out c t u k).set (nth t k).toNat c else outTo out c t u k
def leftTo (t u : List Int) : Nat → List Int
  | 0 => []
  | k + 1 => if hasI u k then leftTo t u k else leftTo t u k ++ [nth t k]
def cabsG (l : List Gro) (s : Int) : Nat → List Int → Int → List Int → List Int × Int
  | 0, _, c, out => (out, c)
  | m + 1, t, c, out => if t.length = 0 then (out, c) else cabsG l s m (leftTo t (fillL (pickG l t) s) t.length) (c + 1) (outTo out c t (fillL (pickG l t) s) t.length)
def upN : Nat → List Int
  | 0 => []
  | k + 1 => upN k ++ [(k : Int)]
def cabs (l : List Gro) (s : Int) : List Int × Int := cabsG l s (l.length + 1) (upN l.length) 0 (List.replicate l.length 0)
theorem upN_len : ∀ n, (upN n).length = n
  | 0 => rfl
  | k + 1 => by rw [upN, List.length_append, upN_len k]; rfl
theorem upN_mem : ∀ n, ∀ z ∈ upN n, ∃ i : Nat, z = i ∧ i < n
  | 0, z, hz => by cases hz
  | k + 1, z, hz => by
    rw [upN] at hz
    rcases List.mem_append.1 hz with hz | hz
    · obtain ⟨i, he, hi⟩ := upN_mem k z hz; exact ⟨i, he, by omega⟩
    · exact ⟨k, by simpa using hz, by omega⟩
theorem nth_app {α : Type} [Inhabited α] (a b : List α) (i : Nat) (h : i < a.length) : nth (a ++ b) i = nth a i := by rw [nth_append, if_pos h]
theorem nth_app_last {α : Type} [Inhabited α] (a : List α) (b : α) : nth (a ++ [b]) a.length = b := by rw [nth_append, if_neg (by omega)]; simp [nth]
theorem upN_nth : ∀ n, ∀ k, k < n → nth (upN n) k = k
  | 0, k, hk => absurd hk (by omega)
  | n + 1, k, hk => by
    rw [upN]
    by_cases h : k < n
    · rw [nth_app _ _ _ (by rw [upN_len]; exact h), upN_nth n k h]
    · obtain rfl : k = n := by omega
      have := nth_app_last (upN k) (k : Int)
      rwa [upN_len] at this
theorem list_nth {α : Type} [Inhabited α] : ∀ {a b : List α}, a.length = b.length → (∀ i, i < a.length → nth a i = nth b i) → a = b := fun {a b} hl h => by
  refine List.ext_getElem hl fun i h1 h2 => ?_
  have := h i h1
  rwa [nth_eq h1, nth_eq h2] at this
theorem nth_pick {l : List Gro} {t : List Int} {k : Nat} (hk : k < t.length) : nth (pickG l t) k = nth l (nth t k).toNat := by
  rw [nth_eq (by simpa [pickG] using hk), nth_eq hk]; simp [pickG]
theorem pick_len {l : List Gro} {t : List Int} : (pickG l t).length = t.length := by simp [pickG]
theorem pick_up {l : List Gro} : pickG l (upN l.length) = l := by
  refine list_nth (by rw [pick_len, upN_len]) fun i hi => ?_
  rw [pick_len] at hi
  rw [nth_pick hi, upN_nth _ _ (by rwa [upN_len] at hi)]; simp
theorem pick_snoc {l : List Gro} {t : List Int} {z : Int} : pickG l (t ++ [z]) = pickG l t ++ [nth l z.toNat] := by simp [pickG]
theorem rest_pick {l : List Gro} {t u : List Int} : ∀ k, k ≤ t.length → restTo (pickG l t) u k = pickG l (leftTo t u k)
  | 0, _ => rfl
  | k + 1, hk => by
    rw [restTo, leftTo, rest_pick k (by omega)]
    split
    · rfl
    · rw [pick_snoc, nth_pick (by omega)]
theorem leftTo_len {t u : List Int} : ∀ k, (leftTo t u k).length ≤ k
  | 0 => Nat.le_refl _
  | k + 1 => by have := leftTo_len (t := t) (u := u) k; rw [leftTo]; split <;> simp <;> omega
theorem leftTo_less {t u : List Int} {j : Nat} (hj : hasI u j = true) : ∀ k, j < k → (leftTo t u k).length < k
  | 0, h => absurd h (by omega)
  | k + 1, h => by
    rw [leftTo]
    by_cases e : j = k
    · subst e
      have := leftTo_len (t := t) (u := u) j
      rw [if_pos hj]; omega
    · have := leftTo_less (t := t) hj k (by omega)
      split
      · omega
      · simp; omega
theorem leftTo_mem {t u : List Int} {z : Int} : ∀ k, k ≤ t.length → z ∈ leftTo t u k → z ∈ t
  | 0, _, h => by cases h
  | k + 1, hk, h => by
    rw [leftTo] at h
    split at h
    · exact leftTo_mem k (by omega) h
    · rcases List.mem_append.1 h with h | h
      · exact leftTo_mem k (by omega) h
      · rw [List.mem_singleton.1 h]; exact nth_mem (by omega)
theorem outTo_len {out : List Int} {c : Int} {t u : List Int} : ∀ k, (outTo out c t u k).length = out.length
  | 0 => rfl
  | k + 1 => by rw [outTo]; split <;> simp [outTo_len k]
theorem fill_mem {l : List Gro} {s : Int} (hs : 0 ≤ s) (hg : ∀ i, i < l.length → 1 ≤ (nth l i).s) {z : Int} (hz : z ∈ fillL l s) : ∃ i : Nat, z = i ∧ i < l.length := by
  have hw := way_to hg (way_lane (s := s) hs hg 1 (by omega)) l.length (Nat.le_refl _)
  obtain ⟨i, he, hi, _⟩ := hw.mem z (isort_mem.1 hz)
  exact ⟨i, he, hi⟩
theorem lane_none {l : List Gro} {q : Bool} {st : List Int × Int} : ∀ k, (laneTo l q st k).1 = [] → st.1 = [] ∧ laneTo l q st k = st ∧ ∀ i, i < k → ¬ ((nth l i).q = q ∧ (nth l i).s ≤ st.2)
  | 0, h => ⟨h, rfl, fun i hi => absurd hi (by omega)⟩
  | k + 1, h => by
    by_cases c : (nth l k).q = q ∧ (nth l k).s ≤ (laneTo l q st k).2
    · rw [laneTo_yes c.1 c.2] at h; simp at h
    · rw [laneTo_no c] at h
      obtain ⟨h1, h2, h3⟩ := lane_none k h
      refine ⟨h1, by rw [laneTo_no c, h2], fun i hi => ?_⟩
      by_cases e : i = k
      · rw [e, ← h2]; rw [h2] at c ⊢; exact c
      · exact h3 i (by omega)
theorem fill_some {l : List Gro} {s : Int} (h0 : 0 < l.length) (hs : 0 ≤ s) (hg : ∀ i, i < l.length → 1 ≤ (nth l i).s ∧ (nth l i).s ≤ s) : ∃ k, k < l.length ∧ hasI (fillL l s) k = true := by
  rcases hf : fillL l s with _ | ⟨z, r⟩
  · have h2 : (lanes l s 2).1 = [] := List.length_eq_zero_iff.1 (by rw [← isort_len, show isort (lanes l s 2).1 = fillL l s from rfl, hf]; rfl)
    have e2 : lanes l s 2 = laneTo l false (lanes l s 1) l.length := rfl
    have e1 : lanes l s 1 = laneTo l true ([], s) l.length := rfl
    rw [e2] at h2
    obtain ⟨a1, _, a3⟩ := lane_none _ h2
    rw [e1] at a1
    obtain ⟨_, b2, b3⟩ := lane_none _ a1
    have hs1 : (lanes l s 1).2 = s := by rw [e1, b2]
    have := (hg 0 h0).2
    rcases hq : (nth l 0).q with _ | _
    · exact absurd ⟨hq, by rw [hs1]; exact this⟩ (a3 0 h0)
    · exact absurd ⟨hq, this⟩ (b3 0 h0)
  · obtain ⟨i, he, hi⟩ := fill_mem (z := z) hs (fun i hi => (hg i hi).1) (by rw [hf]; exact List.mem_cons_self ..)
    exact ⟨i, hi, by rw [hasI, ← he]; simp⟩
/-- What holds of the groups that still wait. -/
def Waits (n : Nat) (t : List Int) : Prop := t.length ≤ n ∧ ∀ z ∈ t, 0 ≤ z ∧ z < n
theorem waits_nth {n : Nat} {t : List Int} (h : Waits n t) {k : Nat} (hk : k < t.length) : 0 ≤ nth t k ∧ nth t k < n := h.2 _ (nth_mem hk)
theorem waits_up (n : Nat) : Waits n (upN n) := ⟨by rw [upN_len]; exact Nat.le_refl _, fun z hz => by obtain ⟨i, rfl, hi⟩ := upN_mem n z hz; omega⟩
theorem waits_left {n : Nat} {t u : List Int} (h : Waits n t) : Waits n (leftTo t u t.length) := ⟨Nat.le_trans (leftTo_len _) h.1, fun z hz => h.2 z (leftTo_mem _ (Nat.le_refl _) hz)⟩
theorem pick_ok {l : List Gro} {t : List Int} {s : Int} (h : Waits l.length t) (hg : ∀ i, i < l.length → 1 ≤ (nth l i).s ∧ (nth l i).s ≤ s) : ∀ i, i < (pickG l t).length → 1 ≤ (nth (pickG l t) i).s ∧ (nth (pickG l t) i).s ≤ s := fun i hi => by
  rw [pick_len] at hi
  rw [nth_pick hi]
  have := waits_nth h hi
  exact hg _ (by omega)
theorem left_less {l : List Gro} {t : List Int} {s : Int} (h : Waits l.length t) (hs : 0 ≤ s) (hg : ∀ i, i < l.length → 1 ≤ (nth l i).s ∧ (nth l i).s ≤ s) (h0 : 0 < t.length) : (leftTo t (fillL (pickG l t) s) t.length).length < t.length := by
  obtain ⟨k, hk, hh⟩ := fill_some (l := pickG l t) (by rwa [pick_len]) hs (pick_ok h hg)
  exact leftTo_less hh _ (by rwa [pick_len] at hk)
/-- Every cabin below the count is at least reached by its highest number. -/
def Top (c : Int) (out : List Int) : Prop := 0 ≤ c ∧ (∀ i, i < out.length → 0 ≤ nth out i ∧ nth out i + 1 ≤ max c 1) ∧ (0 < c → ∃ i, i < out.length ∧ nth out i + 1 = c)
theorem nth_set' {a : List Int} {i j : Nat} {v : Int} (hj : j < a.length) : nth (a.set i v) j = if i = j then v else nth a j := by
  rw [nth_eq (by simpa using hj), List.getElem_set]
  split
  · rfl
  · rw [nth_eq hj]
theorem outTo_bd {out : List Int} {c : Int} {t u : List Int} (h0 : 0 ≤ c) (h : ∀ i, i < out.length → 0 ≤ nth out i ∧ nth out i + 1 ≤ c + 1) : ∀ k, ∀ i, i < out.length → 0 ≤ nth (outTo out c t u k) i ∧ nth (outTo out c t u k) i + 1 ≤ c + 1
  | 0, i, hi => h i hi
  | k + 1, i, hi => by
    have ih := outTo_bd (t := t) (u := u) h0 h k i hi
    rw [outTo]
    split
    · rw [nth_set' (by rw [outTo_len]; exact hi)]
      split
      · omega
      · exact ih
    · exact ih
theorem outTo_at {out : List Int} {c : Int} {t u : List Int} {j : Nat} (hj : hasI u j = true) (hin : (nth t j).toNat < out.length) : ∀ k, j < k → nth (outTo out c t u k) (nth t j).toNat = c
  | 0, h => absurd h (by omega)
  | k + 1, h => by
    rw [outTo]
    by_cases e : j = k
    · subst e
      rw [if_pos hj, nth_set' (by rw [outTo_len]; exact hin), if_pos rfl]
    · have ih := outTo_at (c := c) (t := t) hj hin k (by omega)
      split
      · rw [nth_set' (by rw [outTo_len]; exact hin)]
        split
        · rfl
        · exact ih
      · exact ih
theorem top_next {l : List Gro} {t out : List Int} {s c : Int} (hT : Top c out) (ho : out.length = l.length) (h : Waits l.length t) (hs : 0 ≤ s) (hg : ∀ i, i < l.length → 1 ≤ (nth l i).s ∧ (nth l i).s ≤ s) (h0 : 0 < t.length) : Top (c + 1) (outTo out c t (fillL (pickG l t) s) t.length) := by
  obtain ⟨a, b, _⟩ := hT
  obtain ⟨k, hk, hh⟩ := fill_some (l := pickG l t) (by rwa [pick_len]) hs (pick_ok h hg)
  rw [pick_len] at hk
  have := waits_nth h hk
  refine ⟨by omega, fun i hi => ?_, fun _ => ⟨(nth t k).toNat, by rw [outTo_len]; omega, by rw [outTo_at hh (by omega) _ hk]⟩⟩
  rw [outTo_len] at hi
  have := outTo_bd (t := t) (u := fillL (pickG l t) s) a (fun i hi => by have := b i hi; omega) t.length i hi
  omega
theorem cabsG_spec {l : List Gro} {s : Int} (hs : 0 ≤ s) (hg : ∀ i, i < l.length → 1 ≤ (nth l i).s ∧ (nth l i).s ≤ s) : ∀ m t c out, t.length < m → Waits l.length t → out.length = l.length → Top c out → Top (cabsG l s m t c out).2 (cabsG l s m t c out).1 ∧ (cabsG l s m t c out).1.length = l.length ∧ (0 < t.length → 0 < (cabsG l s m t c out).2) ∧ (cabsG l s m t c out).2 ≤ c + m
  | 0, _, _, _, h, _, _, _ => absurd h (by omega)
  | m + 1, t, c, out, h, hw, ho, hT => by
    rw [cabsG]
    split
    · next e => exact ⟨hT, ho, fun h => absurd h (by omega), by simp only; omega⟩
    · next e =>
      have hl := left_less hw hs hg (by omega)
      have hN := top_next hT ho hw hs hg (by omega)
      obtain ⟨a, b, d, f⟩ := cabsG_spec hs hg m (leftTo t (fillL (pickG l t) s) t.length) (c + 1) (outTo out c t (fillL (pickG l t) s) t.length) (by omega) (waits_left hw) (by rw [outTo_len]; exact ho) hN
      refine ⟨a, b, fun _ => ?_, by omega⟩
      have := hT.1
      by_cases h0 : (leftTo t (fillL (pickG l t) s) t.length).length = 0
      · cases m with
        | zero => exact absurd h (by omega)
        | succ m => rw [cabsG, if_pos h0]; simp only; omega
      · exact d (by omega)
theorem top_0 (n : Nat) : Top 0 (List.replicate n 0) := ⟨Int.le_refl _, fun i hi => by rw [nth_eq hi]; simp; omega, fun h => absurd h (by omega)⟩
theorem cabs_spec {l : List Gro} {s : Int} (hs : 0 ≤ s) (hg : ∀ i, i < l.length → 1 ≤ (nth l i).s ∧ (nth l i).s ≤ s) : Top (cabs l s).2 (cabs l s).1 ∧ (cabs l s).1.length = l.length ∧ (0 < l.length → 0 < (cabs l s).2) ∧ (cabs l s).2 ≤ l.length + 1 := by
  have h := cabsG_spec hs hg (l.length + 1) (upN l.length) 0 (List.replicate l.length 0) (by rw [upN_len]; omega) (waits_up _) (by simp) (top_0 _)
  rw [upN_len] at h
  refine ⟨h.1, h.2.1, h.2.2.1, ?_⟩
  have := h.2.2.2
  unfold cabs; omega
/-- The reference counts the cabins by the highest number. -/
def mostTo (out : List Int) : Nat → Int
  | 0 => 0
  | k + 1 => max (mostTo out k) (nth out k + 1)
theorem most_bd {out : List Int} {c : Int} (h0 : 0 ≤ c) (h : ∀ i, i < out.length → nth out i + 1 ≤ c) : ∀ k, k ≤ out.length → 0 ≤ mostTo out k ∧ mostTo out k ≤ c
  | 0, _ => ⟨Int.le_refl _, h0⟩
  | k + 1, hk => by have := most_bd h0 h k (by omega); have := h k (by omega); rw [mostTo]; omega
theorem most_at {out : List Int} {i : Nat} : ∀ k, i < k → nth out i + 1 ≤ mostTo out k
  | 0, h => absurd h (by omega)
  | k + 1, h => by
    rw [mostTo]
    by_cases e : i = k
    · subst e; omega
    · have := most_at (out := out) k (show i < k by omega); omega
theorem most_eq {l : List Gro} {s : Int} (hs : 0 ≤ s) (hg : ∀ i, i < l.length → 1 ≤ (nth l i).s ∧ (nth l i).s ≤ s) : mostTo (cabs l s).1 (cabs l s).1.length = (cabs l s).2 := by
  obtain ⟨⟨a, b, d⟩, e, f, _⟩ := cabs_spec (l := l) hs hg
  by_cases h0 : 0 < l.length
  · have hc := f h0
    obtain ⟨i, hi, hj⟩ := d hc
    have h1 := most_at (out := (cabs l s).1) _ hi
    have h2 := (most_bd (c := (cabs l s).2) a (fun i hi => by have := b i hi; omega) (cabs l s).1.length (Nat.le_refl _)).2
    omega
  · have hl : l = [] := List.length_eq_zero_iff.1 (by omega)
    subst hl
    simp [cabs, cabsG, upN, mostTo]
end Go.Proofs.Ytalabohacedgnaa
