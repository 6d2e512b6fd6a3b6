/- Rings of cabins in plain lists: the gaps, the greatest one, a cabin more, a cabin less, even distances; no conditions beyond those of each statement. -/
import Derived.Test.YtifmeloljkgcjaaRise
import Derived.Lib.Slices
namespace Go.Proofs.Ytifmeloljkgcjaa

def risesB (l : List Int) (lo hi : Int) : Bool := allTo l.length fun i => inR (nth l i) lo hi && (decide (i = 0) || decide (nth l (i - 1) < nth l i))
def goodC (L s : Int) (l : List Int) : Bool := inR L 10 4000 && (inR s 1 100 && (risesB l 0 (L - 1) && decide (l.length ≤ 12)))
structure WellC (L s : Int) (l : List Int) : Prop where
  len : 10 ≤ L ∧ L ≤ 4000
  sp : 1 ≤ s ∧ s ≤ 100
  few : l.length ≤ 12
  inside : ∀ i, i < l.length → 0 ≤ nth l i ∧ nth l i ≤ L - 1
  rise : ∀ i, i + 1 < l.length → nth l i < nth l (i + 1)
theorem goodC_iff {L s : Int} {l : List Int} : goodC L s l = true ↔ WellC L s l := by
  constructor
  · intro h
    simp only [goodC, Bool.and_eq_true, decide_eq_true_eq, inR_true] at h
    obtain ⟨h1, h2, h3, h4⟩ := h
    have h3 := allTo_true.1 h3
    refine ⟨h1, h2, h4, fun i hi => ?_, fun i hi => ?_⟩
    · have := h3 i hi
      simp only [Bool.and_eq_true, inR_true] at this
      exact this.1
    · have := h3 (i + 1) hi
      simp only [Bool.and_eq_true, Bool.or_eq_true, decide_eq_true_eq] at this
      rcases this.2 with h | h
      · omega
      · simpa using h
  · rintro ⟨h1, h2, h3, h4, h5⟩
    simp only [goodC, Bool.and_eq_true, decide_eq_true_eq, inR_true]
    refine ⟨h1, h2, allTo_true.2 fun i hi => ?_, h3⟩
    simp only [Bool.and_eq_true, Bool.or_eq_true, decide_eq_true_eq, inR_true]
    refine ⟨h4 i hi, ?_⟩
    rcases i with _ | i
    · exact .inl rfl
    · exact .inr (by simpa using h5 i hi)
theorem goodC_of {L s : Int} {l : List Int} (h : goodC L s l = true) : WellC L s l := goodC_iff.1 h
section
variable {L s : Int} {l : List Int}
theorem WellC.lt (h : WellC L s l) {i : Nat} : ∀ {j : Nat}, i < j → j < l.length → nth l i < nth l j
  | 0, hij, _ => absurd hij (by omega)
  | j + 1, hij, hj => by
    have h1 := h.rise j hj
    by_cases e : i = j
    · subst e; exact h1
    · have := h.lt (i := i) (j := j) (by omega) (by omega)
      omega
/-- The gap behind a cabin. -/
def gapAt (L : Int) (l : List Int) (i : Nat) : Int := if i + 1 < l.length then nth l (i + 1) - nth l i else L - nth l i + nth l 0
def gapsL (L : Int) (l : List Int) : List Int := (List.range l.length).map (gapAt L l)
theorem gapsL_len : (gapsL L l).length = l.length := by simp [gapsL]
theorem gapsL_nth {i : Nat} (hi : i < l.length) : nth (gapsL L l) i = gapAt L l i := by simp [nth, gapsL, hi]
theorem gap_pos (h : WellC L s l) {i : Nat} (hi : i < l.length) : 1 ≤ gapAt L l i ∧ gapAt L l i ≤ L := by
  have h0 := h.inside 0 (by omega)
  have h1 := h.inside i hi
  unfold gapAt
  split
  · next c => have := h.rise i c; have := h.inside (i + 1) c; omega
  · next c =>
    have hle : nth l 0 ≤ nth l i := by
      rcases i with _ | i
      · exact Int.le_refl _
      · exact Int.le_of_lt (h.lt (by omega) hi)
    omega
/-- The program's way. -/
theorem gap_impl (h : WellC L s l) {i : Nat} (hi : i < l.length) : (let d := nth l ((i + 1) % l.length) - nth l i; if d ≤ 0 then d + L else d) = gapAt L l i := by
  unfold gapAt
  by_cases c : i + 1 < l.length
  · have h1 := h.rise i c
    simp only [Nat.mod_eq_of_lt c]
    rw [if_neg (by omega), if_pos c]
  · have e : i + 1 = l.length := by omega
    have h1 : nth l 0 ≤ nth l i := by
      rcases i with _ | i
      · exact Int.le_refl _
      · exact Int.le_of_lt (h.lt (by omega) hi)
    simp only [e, Nat.mod_self]
    rw [if_pos (by omega), if_neg (by omega)]
    omega
def sumTo (f : Nat → Int) : Nat → Int
  | 0 => 0
  | k + 1 => sumTo f k + f k
theorem gaps_sum (h : WellC L s l) (h0 : 0 < l.length) : sumTo (gapAt L l) l.length = L := by
  have h1 : ∀ k, k < l.length → sumTo (gapAt L l) k = nth l k - nth l 0 := fun k => by
    induction k with
    | zero => intro _; simp [sumTo]
    | succ k ih =>
      intro hk
      rw [sumTo, ih (by omega), gapAt, if_pos hk]
      omega
  obtain ⟨n, hn⟩ : ∃ n, l.length = n + 1 := ⟨l.length - 1, by omega⟩
  rw [hn, sumTo, h1 n (by omega), gapAt, if_neg (by omega)]
  omega
/-- The first of the greatest. -/
def bestTo (g : Nat → Int) : Nat → Nat
  | 0 => 0
  | k + 1 => if g (bestTo g k) < g k then k else bestTo g k
theorem bestTo_lt (g : Nat → Int) (k : Nat) : 0 < k → bestTo g k < k := by
  induction k with
  | zero => intro h; omega
  | succ k ih =>
    intro _
    rw [bestTo]
    split
    · omega
    · rcases Nat.eq_zero_or_pos k with rfl | hk
      · simp [bestTo]
      · have := ih hk; omega
theorem bestTo_ge (g : Nat → Int) : ∀ k i, i < k → g i ≤ g (bestTo g k)
  | 0, i, h => absurd h (by omega)
  | k + 1, i, h => by
    rw [bestTo]
    split
    · next c =>
      by_cases e : i = k
      · subst e; exact Int.le_refl _
      · have := bestTo_ge g k i (by omega); omega
    · next c =>
      by_cases e : i = k
      · subst e; omega
      · exact bestTo_ge g k i (by omega)
def bestC (L : Int) (l : List Int) : Nat := bestTo (gapAt L l) l.length
def placeTo (L : Int) (l : List Int) (k : Nat) : Int := if k = 0 then 0 else (nth l (bestTo (gapAt L l) k) + gapAt L l (bestTo (gapAt L l) k) / 2) % L
def mostTo (L : Int) (l : List Int) (k : Nat) : Int := if k = 0 then 0 else gapAt L l (bestTo (gapAt L l) k)
/-- One round of the program's. -/
theorem place_step (h : WellC L s l) {k : Nat} (hk : k < l.length) : (mostTo L l k < gapAt L l k → placeTo L l (k + 1) = (nth l k + gapAt L l k / 2) % L ∧ mostTo L l (k + 1) = gapAt L l k) ∧
    (¬ mostTo L l k < gapAt L l k → placeTo L l (k + 1) = placeTo L l k ∧ mostTo L l (k + 1) = mostTo L l k) := by
  have hp := gap_pos h hk
  unfold mostTo placeTo
  rcases k with _ | k
  · simp only [if_pos, Nat.zero_add, if_neg (show ¬ (1 : Nat) = 0 by omega)]
    have e : bestTo (gapAt L l) 1 = 0 := by simp [bestTo]
    rw [e]
    exact ⟨fun _ => ⟨rfl, rfl⟩, fun c => absurd hp.1 (by omega)⟩
  · simp only [if_neg (show ¬ k + 1 = 0 by omega), if_neg (show ¬ k + 1 + 1 = 0 by omega)]
    have e : bestTo (gapAt L l) (k + 1 + 1) = if gapAt L l (bestTo (gapAt L l) (k + 1)) < gapAt L l (k + 1) then k + 1 else bestTo (gapAt L l) (k + 1) := rfl
    rw [e]
    constructor
    · intro c; rw [if_pos c]; exact ⟨rfl, rfl⟩
    · intro c; rw [if_neg c]; exact ⟨rfl, rfl⟩
def placeC (L : Int) (l : List Int) : Int := placeTo L l l.length
theorem place_new (h : WellC L s l) (h0 : l.length = 0 ∨ 2 ≤ gapAt L l (bestC L l)) : placeC L l ∉ l ∧ 0 ≤ placeC L l ∧ placeC L l ≤ L - 1 := by
  have hL := h.len
  rcases Nat.eq_zero_or_pos l.length with he | he
  · have : l = [] := List.eq_nil_of_length_eq_zero he
    subst this
    simp [placeC, placeTo]; omega
  have hb : bestC L l < l.length := bestTo_lt _ _ he
  have hg : 2 ≤ gapAt L l (bestC L l) := by omega
  have hp := gap_pos h hb
  have h1 := h.inside _ hb
  have h2 := h.inside 0 he
  rw [show placeC L l = (nth l (bestC L l) + gapAt L l (bestC L l) / 2) % L by unfold placeC placeTo; rw [if_neg (by omega)]; rfl]
  generalize bestC L l = b at hb hg hp h1 ⊢
  have hm1 := Int.emod_nonneg (nth l b + gapAt L l b / 2) (show L ≠ 0 by omega)
  have hm2 := Int.emod_lt_of_pos (nth l b + gapAt L l b / 2) (show 0 < L by omega)
  refine ⟨fun hm => ?_, hm1, by omega⟩
  obtain ⟨j, hj, he⟩ := List.getElem_of_mem hm
  rw [← nth_eq hj] at he
  have hlo : j ≤ b → nth l j ≤ nth l b := fun hjb => by
    by_cases e : j = b
    · subst e; exact Int.le_refl _
    · exact Int.le_of_lt (h.lt (by omega) hb)
  have hin := h.inside j hj
  have h0j : nth l 0 ≤ nth l j := by
    rcases j with _ | j
    · exact Int.le_refl _
    · exact Int.le_of_lt (h.lt (by omega) hj)
  unfold gapAt at hg hp he hm1 hm2
  by_cases c : b + 1 < l.length
  · rw [if_pos c] at hg hp he
    have h3 := h.inside _ c
    have h4 := h.rise b c
    rw [Int.emod_eq_of_lt (by omega) (by omega)] at he
    by_cases hjb : j ≤ b
    · have := hlo hjb; omega
    · have : nth l (b + 1) ≤ nth l j := by
        by_cases e : j = b + 1
        · subst e; exact Int.le_refl _
        · exact Int.le_of_lt (h.lt (by omega) hj)
      omega
  · rw [if_neg c] at hg hp he
    have := hlo (by omega)
    by_cases hx : nth l b + (L - nth l b + nth l 0) / 2 < L
    · rw [Int.emod_eq_of_lt (by omega) hx] at he
      omega
    · have e : (nth l b + (L - nth l b + nth l 0) / 2) % L = nth l b + (L - nth l b + nth l 0) / 2 - L := by
        rw [← Int.sub_emod_right, Int.emod_eq_of_lt (by omega) (by omega)]
      rw [e] at he
      omega
theorem place_old (h : WellC L s l) (h0 : 0 < l.length) (h1 : gapAt L l (bestC L l) < 2) : placeC L l ∈ l := by
  have hb : bestC L l < l.length := bestTo_lt _ _ h0
  have hp := gap_pos h hb
  have hi := h.inside _ hb
  rw [show placeC L l = (nth l (bestC L l) + gapAt L l (bestC L l) / 2) % L by unfold placeC placeTo; rw [if_neg (by omega)]; rfl]
  rw [show gapAt L l (bestC L l) / 2 = 0 by omega, Int.add_zero, Int.emod_eq_of_lt hi.1 (by omega)]
  exact nth_mem hb
end

theorem insQ_perm (x : Int) : ∀ q : List Int, (insQ x q).Perm (x :: q)
  | [] => List.Perm.refl _
  | y :: q => by
    rw [insQ]; split
    · exact ((insQ_perm x q).cons y).trans (List.Perm.swap x y q)
    · exact List.Perm.refl _
theorem isQ_perm (o : List Int) : (isQ o).Perm o := by
  have h : ∀ (o q : List Int), (o.foldl (fun q x => insQ x q) q).Perm (o ++ q) := fun o => by
    induction o with
    | nil => intro q; exact List.Perm.refl _
    | cons x o ih =>
      intro q
      rw [List.foldl_cons, List.cons_append]
      refine (ih _).trans ?_
      exact ((insQ_perm x q).append_left o).trans List.perm_middle
  have := h o []
  simpa [isQ] using this
theorem isort_perm (o : List Int) : (isort o).Perm o := (List.reverse_perm _).trans (isQ_perm o)
theorem well_pair {L s : Int} {l : List Int} (h : WellC L s l) : l.Pairwise (· < ·) := by
  rw [List.pairwise_iff_getElem]
  intro i j hi hj hij
  have := h.lt hij hj
  rwa [nth_eq hi, nth_eq hj] at this
theorem well_nodup {L s : Int} {l : List Int} (h : WellC L s l) : l.Nodup := (well_pair h).imp fun hab => by omega
theorem isQ_rising : ∀ {l : List Int}, l.Pairwise (· < ·) → isQ l = l.reverse := fun {l} h => by
  have hq : ∀ (r : List Int), r.Pairwise (fun a b => b < a) → isQ r.reverse = r := fun r => by
    induction r with
    | nil => intro _; rfl
    | cons x r ih =>
      intro hr
      obtain ⟨h1, h2⟩ := List.pairwise_cons.1 hr
      rw [List.reverse_cons, isQ_snoc, ih h2]
      cases r with
      | nil => rfl
      | cons y r =>
        have := h1 y List.mem_cons_self
        rw [insQ, if_neg (by omega)]
  have := hq l.reverse (by rw [List.pairwise_reverse]; exact h)
  rwa [List.reverse_reverse] at this
theorem isort_put {L s : Int} {l : List Int} (h : WellC L s l) {x : Int} (hx : x ∉ l) : ∃ k, Places l x k ∧ isort (l ++ [x]) = l.take k ++ [x] ++ l.drop k := by
  have hf : Falling l.reverse := by unfold Falling; rw [List.pairwise_reverse]; exact well_pair h
  obtain ⟨k, hk, he⟩ := places hf (x := x) (by simpa using hx)
  rw [List.reverse_reverse] at hk he
  refine ⟨k, hk, ?_⟩
  rw [isort, isQ_snoc, isQ_rising (well_pair h), he]
theorem isort_dup {L s : Int} {l : List Int} {x : Int} (hx : x ∈ l) : goodC L s (isort (l ++ [x])) = false := by
  rcases h : goodC L s (isort (l ++ [x])) with _ | _
  · rfl
  · have h1 := (isort_perm (l ++ [x])).nodup_iff.1 (well_nodup (goodC_of h))
    rw [List.nodup_append] at h1
    exact absurd rfl (h1.2.2 x hx x List.mem_cons_self)

/-- A cabin more. -/
def addL (L : Int) (l : List Int) : List Int := isort (l ++ [placeC L l])
def addC (L s : Int) (l : List Int) (gap : Int) : Bool := goodC L s l && inR gap 1 4000 && (goodC L s (addL L l) && decide (gap ≤ Lib.minOf (gapsL L (addL L l))))
theorem addL_len {L : Int} {l : List Int} : (addL L l).length = l.length + 1 := by rw [addL, isort_len]; simp
/-- A cabin less. -/
def remL (l : List Int) (k : Nat) : List Int := l.take k ++ l.drop (k + 1)
def remC (L s : Int) (l : List Int) (k : Int) : Bool := goodC L s l && inR k 0 (l.length - 1)
theorem add_back {L s gap : Int} {l : List Int} (h : addC L s l gap = true) : ∃ k, k < (addL L l).length ∧ remL (addL L l) k = l ∧ remC L s (addL L l) k = true := by
  simp only [addC, Bool.and_eq_true] at h
  obtain ⟨⟨h1, _⟩, h2, _⟩ := h
  have hw := goodC_of h1
  have hx : placeC L l ∉ l := fun hm => by
    have := isort_dup (L := L) (s := s) hm
    rw [addL] at h2
    rw [this] at h2; cases h2
  obtain ⟨k, ⟨hk, _, _⟩, he⟩ := isort_put hw hx
  refine ⟨k, by rw [addL_len]; omega, ?_, ?_⟩
  · rw [addL, he, remL, List.append_assoc]
    rw [List.take_append_of_le_length (by simp; omega), List.drop_append, List.take_of_length_le (by simp; omega), List.drop_eq_nil_of_le (by simp; omega)]
    have e : (l.take k).length = k := by simp; omega
    simp [e]
  · have hlen := addL_len (L := L) (l := l)
    simp only [remC, h2, Bool.true_and, inR_true]
    omega

/-- Even distances. -/
def evenL (L : Int) (n : Nat) : List Int := (List.range n).map fun k : Nat => ((k : Int) * L) / n
theorem evenL_len {L : Int} {n : Nat} : (evenL L n).length = n := by simp [evenL]
theorem evenL_nth {L : Int} {n i : Nat} (hi : i < n) : nth (evenL L n) i = ((i : Int) * L) / n := by simp [nth, evenL, hi]
theorem minOf_le : ∀ {zs : List Int} {z : Int}, z ∈ zs → Lib.minOf zs ≤ z := fun {zs z} hz => by
  have h : ∀ (l : List Int) (a : Int), l.foldl min a ≤ a ∧ ∀ z ∈ l, l.foldl min a ≤ z := fun l => by
    induction l with
    | nil => intro a; exact ⟨Int.le_refl _, fun z hz => by simp at hz⟩
    | cons x l ih =>
      intro a
      obtain ⟨h1, h2⟩ := ih (min a x)
      rw [List.foldl_cons]
      refine ⟨by omega, fun z hz => ?_⟩
      rcases List.mem_cons.1 hz with rfl | hz
      · omega
      · exact h2 z hz
  exact (h zs _).2 z hz
theorem le_minOf {zs : List Int} {m : Int} (h0 : zs ≠ []) (h : ∀ z ∈ zs, m ≤ z) : m ≤ Lib.minOf zs := by
  have h1 : ∀ (l : List Int) (a : Int), m ≤ a → (∀ z ∈ l, m ≤ z) → m ≤ l.foldl min a := fun l => by
    induction l with
    | nil => intro a ha _; exact ha
    | cons x l ih =>
      intro a ha hl
      rw [List.foldl_cons]
      have := hl x List.mem_cons_self
      exact ih _ (by omega) fun z hz => hl z (List.mem_cons_of_mem _ hz)
  unfold Lib.minOf
  refine h1 zs _ ?_ h
  cases zs with
  | nil => exact absurd rfl h0
  | cons z zs => exact h z List.mem_cons_self
theorem div_add_le {a b n : Int} (hn : 0 < n) : a / n + b / n ≤ (a + b) / n := by
  refine Int.le_ediv_of_mul_le hn ?_
  rw [Int.add_mul]
  have h1 := Int.ediv_mul_le a (show n ≠ 0 by omega)
  have h2 := Int.ediv_mul_le b (show n ≠ 0 by omega)
  omega
theorem even_least {L s : Int} {n : Nat} (hn : 0 < n) (h : WellC L s (evenL L n)) : Lib.minOf (gapsL L (evenL L n)) = L / n := by
  have hL := h.len
  have hn' : (0 : Int) < n := by omega
  have hg : ∀ i, i < n → L / n ≤ gapAt L (evenL L n) i := fun i hi => by
    unfold gapAt
    rw [evenL_len]
    split
    · next c =>
      rw [evenL_nth c, evenL_nth hi]
      have := div_add_le (a := (i : Int) * L) (b := L) hn'
      rw [show ((i : Int) * L + L) = ((i + 1 : Nat) : Int) * L by rw [Int.natCast_add, Int.add_mul]; simp] at this
      omega
    · next c =>
      have e : i + 1 = n := by omega
      rw [evenL_nth hi, evenL_nth hn]
      have := div_add_le (a := (i : Int) * L) (b := L) hn'
      rw [show ((i : Int) * L + L) = L * (n : Int) by rw [← e, Int.natCast_add, Int.mul_add, Int.mul_comm L]; simp, Int.mul_ediv_cancel _ (by omega)] at this
      have e0 : ((0 : Nat) : Int) * L / n = 0 := by simp
      rw [e0]
      omega
  refine Int.le_antisymm ?_ ?_
  · have h0 : nth (gapsL L (evenL L n)) 0 ∈ gapsL L (evenL L n) := nth_mem (by rw [gapsL_len, evenL_len]; exact hn)
    have := minOf_le h0
    refine Int.le_trans this ?_
    rw [gapsL_nth (by rw [evenL_len]; exact hn)]
    unfold gapAt
    rw [evenL_len]
    have e0 : nth (evenL L n) 0 = 0 := by rw [evenL_nth hn]; simp
    split
    · next c =>
      rw [evenL_nth c, e0]
      simp
    · next c =>
      obtain rfl : n = 1 := by omega
      rw [e0]
      simp
  · refine le_minOf (fun e => ?_) fun z hz => ?_
    · have : (gapsL L (evenL L n)).length = n := by rw [gapsL_len, evenL_len]
      rw [e] at this; simp at this; omega
    · simp only [gapsL, List.mem_map, List.mem_range] at hz
      obtain ⟨i, hi, rfl⟩ := hz
      rw [evenL_len] at hi
      exact hg i hi
end Go.Proofs.Ytifmeloljkgcjaa
