/- What the program and the reference compute of a list of cabins, and what the statements ask of it: plain lists, no program in sight; no conditions beyond those of each statement. -/
import Derived.Test.YteoajaichjojdaaDoorCbn
import Derived.Test.YteoajaichjojdaaDoorHasI
import Derived.Test.YteoajaichjojdaaDoorRise
namespace Go.Proofs.YteoajaichjojdaaDoor
open Go.RowKit

/-! Seats on the line, the next one out, the cabins in a state. -/
def onTo (l : List Cbn) : Nat → Int
  | 0 => 0
  | k + 1 => if (nth l k).t = 1 then onTo l k + (nth l k).s else onTo l k
def seatsOn (l : List Cbn) : Int × Bool := if goodC l then (onTo l l.length, true) else (0, false)
def bestTo (l : List Cbn) (m : Int) : Nat → Int
  | 0 => -1
  | k + 1 => if (nth l k).t = 0 ∧ m ≤ (nth l k).s ∧ (bestTo l m k < 0 ∨ (nth l k).r < (nth l (bestTo l m k).toNat).r) then (k : Int) else bestTo l m k
def nextOut (l : List Cbn) (m : Int) : Int × Bool := if goodC l && inR m 1 16 && decide (0 ≤ bestTo l m l.length) then ((nth l (bestTo l m l.length).toNat).n, true) else (0, false)
def stTo (l : List Cbn) (t : Int) : Nat → List Int
  | 0 => []
  | k + 1 => if (nth l k).t = t then stTo l t k ++ [(nth l k).n] else stTo l t k
def cabsIn (l : List Cbn) (t : Int) : List Int × Bool := if goodC l && inR t 0 3 then (stTo l t l.length, true) else ([], false)
def loadC (x : Cbn) (p : Int) : Int × Bool := if okC x && inR p 0 x.s then (x.e + 80 * p, true) else (0, false)
theorem stTo_len {l : List Cbn} {t : Int} : ∀ k, (stTo l t k).length ≤ k
  | 0 => Nat.le_refl _
  | k + 1 => by have := stTo_len (l := l) (t := t) k; rw [stTo]; split <;> simp <;> omega
theorem stTo_mem {l : List Cbn} {t : Int} : ∀ {k i : Nat}, i < k → (nth l i).t = t → (nth l i).n ∈ stTo l t k
  | k + 1, i, h, ht => by
    rw [stTo]
    by_cases e : i = k
    · subst e; rw [if_pos ht]; simp
    · have := stTo_mem (l := l) (t := t) (k := k) (i := i) (by omega) ht
      split
      · simp [this]
      · exact this
theorem onTo_bd {l : List Cbn} (h : ∀ i, i < l.length → okC (nth l i) = true) : ∀ k, k ≤ l.length → 0 ≤ onTo l k ∧ onTo l k ≤ k * 16
  | 0, _ => by simp [onTo]
  | k + 1, hk => by
    have h1 := onTo_bd h k (by omega)
    have a := (okC_true.1 (h k (by omega))).2.1
    rw [onTo]; split <;> omega
theorem bestTo_bd {l : List Cbn} {m : Int} : ∀ k, bestTo l m k = -1 ∨ (0 ≤ bestTo l m k ∧ bestTo l m k < k ∧ (nth l (bestTo l m k).toNat).t = 0 ∧ m ≤ (nth l (bestTo l m k).toNat).s)
  | 0 => .inl rfl
  | k + 1 => by
    rw [bestTo]
    split
    · next h => exact .inr ⟨by omega, by omega, by simpa using h.1, by simpa using h.2.1⟩
    · rcases bestTo_bd (l := l) (m := m) k with h | ⟨h1, h2, h3, h4⟩
      · exact .inl h
      · exact .inr ⟨h1, by omega, h3, h4⟩

/-! A cabin moves. -/
def atTo (l : List Cbn) (x : Int) : Nat → Int
  | 0 => -1
  | k + 1 => if atTo l x k < 0 ∧ (nth l k).n = x then (k : Int) else atTo l x k
def mayC (a b : Int) : Bool :=
  if b = 0 then decide (a = 1) || decide (a = 2) else if b = 1 then decide (a = 0) else if b = 2 then decide (a = 0) || decide (a = 3) else if b = 3 then !decide (a = 3) else false
def movedC (x : Cbn) (t : Int) : Cbn := ⟨x.n, x.s, x.e, t, if x.t = 1 ∧ t = 0 then x.r + 1 else x.r⟩
def moveL (l : List Cbn) (x t : Int) : List Cbn := l.set (atTo l x l.length).toNat (movedC (nth l (atTo l x l.length).toNat) t)
def canMove (l : List Cbn) (x t : Int) : Bool := goodC l && decide (0 ≤ atTo l x l.length) && mayC (nth l (atTo l x l.length).toNat).t t
def moveC (l : List Cbn) (x t : Int) : List Cbn × Bool := if canMove l x t && goodC (moveL l x t) then (moveL l x t, true) else ([], false)
theorem rising {l : List Cbn} (h : ∀ i, i + 1 < l.length → (nth l i).n < (nth l (i + 1)).n) : ∀ {i j : Nat}, i < j → j < l.length → (nth l i).n < (nth l j).n
  | i, j + 1, hij, hj => by
    by_cases e : i = j
    · subst e; exact h i hj
    · have := rising h (i := i) (j := j) (by omega) (by omega)
      have := h j hj
      omega
theorem atTo_bd {l : List Cbn} {x : Int} : ∀ k, (atTo l x k = -1 ∧ ∀ j, j < k → (nth l j).n ≠ x) ∨ (0 ≤ atTo l x k ∧ atTo l x k < k ∧ (nth l (atTo l x k).toNat).n = x)
  | 0 => .inl ⟨rfl, fun j hj => absurd hj (by omega)⟩
  | k + 1 => by
    rw [atTo]
    rcases atTo_bd (l := l) (x := x) k with ⟨h, hall⟩ | ⟨h1, h2, h3⟩
    · by_cases c : (nth l k).n = x
      · rw [if_pos ⟨by omega, c⟩]; exact .inr ⟨by omega, by omega, by simpa using c⟩
      · rw [if_neg (by intro q; exact c q.2)]; exact .inl ⟨h, below_add hall c⟩
    · rw [if_neg (by omega)]; exact .inr ⟨h1, by omega, h3⟩
theorem atTo_none {l : List Cbn} {x : Int} : ∀ {k : Nat}, (∀ j, j < k → (nth l j).n ≠ x) → atTo l x k = -1
  | 0, _ => rfl
  | k + 1, h => by rw [atTo, if_neg (fun q => h k (by omega) q.2)]; exact atTo_none fun j hj => h j (by omega)
theorem atTo_hit {l : List Cbn} {x : Int} {k : Nat} (h : ∀ j, j < k → (nth l j).n ≠ x) (hk : (nth l k).n = x) : ∀ {m : Nat}, k < m → atTo l x m = k
  | m + 1, hm => by
    rw [atTo]
    by_cases e : m = k
    · subst e; rw [if_pos ⟨by rw [atTo_none h]; omega, hk⟩]
    · rw [atTo_hit h hk (by omega), if_neg (by omega)]
/-- In a good list the place of a number is the place that bears it. -/
theorem atTo_at {l : List Cbn} (h : ∀ i, i + 1 < l.length → (nth l i).n < (nth l (i + 1)).n) {i : Nat} (hi : i < l.length) : atTo l (nth l i).n l.length = i := by
  rcases atTo_bd (l := l) (x := (nth l i).n) l.length with ⟨_, hall⟩ | ⟨h1, h2, h3⟩
  · exact absurd rfl (hall i hi)
  · obtain ⟨j, hj⟩ : ∃ j : Nat, atTo l (nth l i).n l.length = j := ⟨_, (Int.toNat_of_nonneg h1).symm⟩
    rw [hj] at h2 h3 ⊢
    rw [Int.toNat_natCast] at h3
    rcases Nat.lt_trichotomy i j with hlt | e | hlt
    · have := rising h hlt (by omega); omega
    · rw [e]
    · have := rising h hlt hi; omega
theorem nth_setC {l : List Cbn} {i j : Nat} {x : Cbn} (hj : j < l.length) : nth (l.set i x) j = if i = j then x else nth l j := by
  rw [nth_eq (by simpa using hj), nth_eq hj, List.getElem_set]
theorem nth_setC' {l : List Cbn} {i j : Nat} {x : Cbn} (hi : i < l.length) : nth (l.set i x) j = if i = j then x else nth l j := by
  by_cases hj : j < l.length
  · exact nth_setC hj
  · rw [if_neg (by omega)]
    simp [nth, show ¬ i = j by omega]
/-- A list in which one cabin has been given other words than its number stays good if that cabin is. -/
theorem goodC_set {l : List Cbn} (hg : goodC l = true) {i : Nat} (hi : i < l.length) {x : Cbn} (hn : x.n = (nth l i).n) : goodC (l.set i x) = okC x := by
  obtain ⟨g1, g2, g3⟩ := goodC_true hg
  have hpr : ∀ j, j < l.length → prevC (l.set i x) j = true := fun j hj => by
    unfold prevC
    rcases j with _ | j
    · simp
    · have := g3 j hj
      simp only [Nat.add_sub_cancel, Bool.or_eq_true, decide_eq_true_eq]
      right
      rw [nth_setC hj, nth_setC (show j < l.length by omega)]
      split <;> split <;> subst_vars <;> omega
  rcases hx : okC x with _ | _
  · exact goodC_no (k := i) (by simpa using hi) (by rw [nth_setC hi, if_pos rfl, hx]; rfl)
  · rw [goodC_all fun j hj => by
      have hj' : j < l.length := by simpa using hj
      rw [hpr j hj', Bool.and_true, nth_setC hj']
      split
      · exact hx
      · exact g2 j hj']
    simpa using g1
theorem onTo_past {l : List Cbn} {i : Nat} {x : Cbn} (hi : i < l.length) : ∀ k, k ≤ i → onTo (l.set i x) k = onTo l k
  | 0, _ => rfl
  | k + 1, hk => by
    rw [onTo, onTo, onTo_past hi k (by omega), nth_setC' hi, if_neg (show ¬ i = k by omega)]
theorem onTo_set {l : List Cbn} {i : Nat} {x : Cbn} (hi : i < l.length) (ht : (nth l i).t = 0) (hx : x.t = 1) : ∀ k, i < k → onTo (l.set i x) k = onTo l k + x.s
  | k + 1, hk => by
    rw [onTo, onTo]
    by_cases e : i = k
    · subst e
      rw [onTo_past hi i (Nat.le_refl _), nth_setC' hi, if_pos rfl, if_pos hx, if_neg (by omega)]
    · rw [onTo_set hi ht hx k (by omega), nth_setC' hi, if_neg e]
      split <;> omega
/-- The next one out is ready, can be moved, and adds its seats. -/
theorem next_law {l : List Cbn} {m v : Int} (h : nextOut l m = (v, true)) :
    goodC l = true ∧ (cabsIn l 0).2 = true ∧ hasI (cabsIn l 0).1 v = true ∧ (moveC l v 1).2 = true ∧ (seatsOn l).2 = true ∧ (seatsOn (moveC l v 1).1).2 = true ∧ (seatsOn l).1 + m ≤ (seatsOn (moveC l v 1).1).1 ∧ (moveC l v 1).1.length = l.length := by
  unfold nextOut at h
  split at h
  case isFalse => cases h
  next hc =>
  simp only [Bool.and_eq_true, decide_eq_true_eq] at hc
  obtain ⟨⟨hg, hm⟩, hb⟩ := hc
  obtain ⟨g1, g2, g3⟩ := goodC_true hg
  rcases bestTo_bd (l := l) (m := m) l.length with hb' | ⟨_, b2, b3, b4⟩
  · omega
  obtain ⟨i, hi⟩ : ∃ i : Nat, bestTo l m l.length = i := ⟨_, (Int.toNat_of_nonneg hb).symm⟩
  rw [hi] at h b2 b3 b4
  rw [Int.toNat_natCast] at h b3 b4
  have hil : i < l.length := by omega
  have hv : (nth l i).n = v := by injection h
  have hat : atTo l v l.length = i := by rw [← hv]; exact atTo_at g3 hil
  have ho := okC_true.1 (g2 i hil)
  have hmv : movedC (nth l i) 1 = ⟨(nth l i).n, (nth l i).s, (nth l i).e, 1, (nth l i).r⟩ := by simp [movedC]
  have hcan : canMove l v 1 = true := by simp [canMove, hg, hat, b3, mayC]
  have hml : moveL l v 1 = l.set i (movedC (nth l i) 1) := by simp [moveL, hat]
  have hgm : goodC (moveL l v 1) = true := by
    rw [hml, goodC_set hg hil (by simp [movedC]), hmv]
    exact okC_true.2 ⟨ho.1, ho.2.1, ho.2.2.1, (show (0 : Int) ≤ 1 ∧ (1 : Int) ≤ 3 by omega), ho.2.2.2.2⟩
  have hmo : moveC l v 1 = (moveL l v 1, true) := by simp [moveC, hcan, hgm]
  have hci : cabsIn l 0 = (stTo l 0 l.length, true) := by simp [cabsIn, hg, inR]
  refine ⟨hg, by rw [hci], ?_, by rw [hmo], by simp [seatsOn, hg], by rw [hmo]; simp [seatsOn, hgm], ?_, by rw [hmo]; simp [moveL]⟩
  · rw [hci, ← hv]; exact decide_eq_true (stTo_mem hil b3)
  · rw [hmo]
    simp only [seatsOn, hg, hgm, if_true]
    rw [hml, List.length_set, onTo_set hil b3 (by rw [hmv]) l.length hil, hmv]
    simp only; omega

/-! The stable order, greatest first. -/
def insC (key : Cbn → Int) (x : Cbn) : List Cbn → List Cbn
  | [] => [x]
  | y :: q => if key y < key x then y :: insC key x q else x :: y :: q
def isC (key : Cbn → Int) (o : List Cbn) : List Cbn := o.foldl (fun q x => insC key x q) []
def ordC (key : Cbn → Int) (o : List Cbn) : List Cbn := (isC key o).reverse
section
variable {key : Cbn → Int}
def UpC (key : Cbn → Int) (q : List Cbn) : Prop := q.Pairwise (fun a b => key a ≤ key b)
theorem insC_perm (x : Cbn) : ∀ q : List Cbn, (insC key x q).Perm (x :: q)
  | [] => .refl _
  | y :: q => by
    rw [insC]; split
    · exact ((insC_perm x q).cons y).trans (List.Perm.swap x y q)
    · exact .refl _
theorem insC_len (x : Cbn) (q : List Cbn) : (insC key x q).length = q.length + 1 := by rw [(insC_perm x q).length_eq]; rfl
theorem isC_fold (o q : List Cbn) : (o.foldl (fun q x => insC key x q) q).Perm (o ++ q) := by
  induction o generalizing q with
  | nil => exact .refl _
  | cons x o ih => exact (ih _).trans (((insC_perm x q).append_left o).trans List.perm_middle)
theorem isC_perm (o : List Cbn) : (isC key o).Perm o := by have := isC_fold (key := key) o []; simpa [isC] using this
theorem ordC_perm (o : List Cbn) : (ordC key o).Perm o := (List.reverse_perm _).trans (isC_perm o)
theorem isC_len (o : List Cbn) : (isC key o).length = o.length := (isC_perm o).length_eq
theorem ordC_len (o : List Cbn) : (ordC key o).length = o.length := (ordC_perm o).length_eq
theorem isC_snoc (o : List Cbn) (x : Cbn) : isC key (o ++ [x]) = insC key x (isC key o) := by simp [isC]
theorem insC_up {x : Cbn} : ∀ {q : List Cbn}, UpC key q → UpC key (insC key x q)
  | [], _ => by simp [insC, UpC]
  | y :: q, h => by
    obtain ⟨h1, h2⟩ := List.pairwise_cons.1 h
    rw [insC]; split
    · next c =>
      refine List.pairwise_cons.2 ⟨fun z hz => ?_, insC_up h2⟩
      rcases List.mem_cons.1 ((insC_perm x q).mem_iff.1 hz) with rfl | hz
      · omega
      · exact h1 z hz
    · next c =>
      refine List.pairwise_cons.2 ⟨fun z hz => ?_, h⟩
      rcases List.mem_cons.1 hz with rfl | hz
      · omega
      · have := h1 z hz; omega
theorem isC_up (o : List Cbn) : UpC key (isC key o) := by
  have h : ∀ (o q : List Cbn), UpC key q → UpC key (o.foldl (fun q x => insC key x q) q) := fun o => by
    induction o with
    | nil => exact fun q h => h
    | cons x o ih => exact fun q h => ih _ (insC_up h)
  exact h o [] List.Pairwise.nil
theorem insC_low {x : Cbn} {q : List Cbn} (h : ∀ z ∈ q, key x ≤ key z) : insC key x q = x :: q := by
  rcases q with _ | ⟨y, q⟩
  · rfl
  · rw [insC, if_neg (by have := h y List.mem_cons_self; omega)]
theorem insC_filter (p : Cbn → Bool) {x : Cbn} : ∀ {q : List Cbn}, UpC key q → (insC key x q).filter p = if p x then insC key x (q.filter p) else q.filter p
  | [], _ => by simp only [insC, List.filter_cons, List.filter_nil]
  | y :: q, h => by
    obtain ⟨h1, h2⟩ := List.pairwise_cons.1 h
    rw [insC]
    split
    · next c =>
      rw [List.filter_cons, insC_filter p h2, List.filter_cons]
      rcases hy : p y with _ | _
      · simp
      · rcases hx : p x with _ | _
        · simp
        · simp [insC, c]
    · next c =>
      rw [List.filter_cons]
      rcases hx : p x with _ | _
      · simp
      · simp only [if_true]
        rw [insC_low fun z hz => ?_]
        rcases List.mem_cons.1 (List.mem_filter.1 hz).1 with rfl | hz
        · omega
        · have := h1 z hz; omega
theorem isC_filter (p : Cbn → Bool) (o : List Cbn) : (isC key o).filter p = isC key (o.filter p) := by
  have h : ∀ (o q : List Cbn), UpC key q → (o.foldl (fun q x => insC key x q) q).filter p = (o.filter p).foldl (fun q x => insC key x q) (q.filter p) := fun o => by
    induction o with
    | nil => exact fun q _ => rfl
    | cons x o ih =>
      intro q hq
      rw [List.foldl_cons, ih _ (insC_up hq), insC_filter p hq, List.filter_cons]
      rcases hx : p x with _ | _
      · simp
      · simp
  exact h o [] List.Pairwise.nil
theorem ordC_filter (p : Cbn → Bool) (o : List Cbn) : ordC key (o.filter p) = (ordC key o).filter p := by
  rw [ordC, ordC, ← isC_filter, List.filter_reverse]
/-- Greatest first. -/
theorem ordC_down (o : List Cbn) : (ordC key o).Pairwise (fun a b => key b ≤ key a) := List.pairwise_reverse.2 (isC_up o)
end
def wornC (l : List Cbn) (m : Int) : List Int × Bool := if goodC l && inR m 1 99999 then (((ordC Cbn.r l).filter fun c => !decide (c.t = 3) && decide (m ≤ c.r)).map Cbn.n, true) else ([], false)

/-! The fewest cabins. -/
def stepC (st : List Int × Int) (c : Cbn) : List Int × Int := if 0 < st.2 ∧ c.t = 0 then (st.1 ++ [c.n], st.2 - c.s) else st
def pickC (o : List Cbn) (p : Int) : List Int × Int := o.foldl stepC ([], p)
def fewest (l : List Cbn) (p : Int) : List Int × Bool := if goodC l && inR p 0 200 && decide ((pickC (ordC Cbn.s l) p).2 ≤ 0) then (isort (pickC (ordC Cbn.s l) p).1, true) else ([], false)
theorem fold_ready (o : List Cbn) (st : List Int × Int) : (o.filter fun c => decide (c.t = 0)).foldl stepC st = o.foldl stepC st := by
  induction o generalizing st with
  | nil => rfl
  | cons c o ih =>
    rw [List.filter_cons, List.foldl_cons]
    by_cases h : c.t = 0
    · simp only [h, decide_true, if_true, List.foldl_cons]; exact ih _
    · rw [if_neg (by simpa using h), ih]; simp [stepC, h]
theorem pickC_snoc {o : List Cbn} {k : Nat} {p : Int} (hk : k < o.length) : pickC (o.take (k + 1)) p = stepC (pickC (o.take k) p) (nth o k) := by
  rw [pickC, pickC, List.take_succ_eq_append_getElem hk, List.foldl_append, nth_eq hk]; rfl
theorem fold_stay (o : List Cbn) (st : List Int × Int) (h : st.2 ≤ 0) : o.foldl stepC st = st := by
  induction o with
  | nil => rfl
  | cons c o ih => rw [List.foldl_cons, stepC, if_neg (by omega)]; exact ih
theorem pickC_stay {o : List Cbn} {k : Nat} {p : Int} (h : (pickC (o.take k) p).2 ≤ 0) : pickC o p = pickC (o.take k) p := by
  have e : pickC o p = (o.drop k).foldl stepC (pickC (o.take k) p) := by
    rw [pickC, pickC, ← List.foldl_append, List.take_append_drop]
  rw [e, fold_stay _ _ h]
def sumS : List Cbn → Int
  | [] => 0
  | c :: o => c.s + sumS o
/-- What is picked is a part of the order, and the last one picked, the least of them, was needed. -/
theorem pick_part (o : List Cbn) (hd : o.Pairwise (fun a b => b.s ≤ a.s)) (st : List Int × Int) :
    ∃ q : List Cbn, q.Sublist o ∧ (o.foldl stepC st).1 = st.1 ++ q.map Cbn.n ∧ (o.foldl stepC st).2 = st.2 - sumS q ∧ (q = [] ∨ ∃ m, (∀ c ∈ q, m ≤ c.s) ∧ 0 < (o.foldl stepC st).2 + m) := by
  induction o generalizing st with
  | nil => exact ⟨[], .slnil, by simp, by simp [sumS], .inl rfl⟩
  | cons c o ih =>
    obtain ⟨h1, h2⟩ := List.pairwise_cons.1 hd
    rw [List.foldl_cons]
    by_cases hc : 0 < st.2 ∧ c.t = 0
    · have e : stepC st c = (st.1 ++ [c.n], st.2 - c.s) := by rw [stepC, if_pos hc]
      rw [e]
      obtain ⟨q, q1, q2, q3, q4⟩ := ih h2 (st.1 ++ [c.n], st.2 - c.s)
      refine ⟨c :: q, q1.cons_cons c, by rw [q2]; simp, by rw [q3]; simp only [sumS]; omega, .inr ?_⟩
      rcases q4 with rfl | ⟨m, m1, m2⟩
      · refine ⟨c.s, fun d hd => by rcases List.mem_cons.1 hd with rfl | hd <;> simp_all, ?_⟩
        rw [q3]; simp only [sumS]; omega
      · rcases q with _ | ⟨d, q⟩
        · refine ⟨c.s, fun d hd => by rcases List.mem_cons.1 hd with rfl | hd <;> simp_all, ?_⟩
          rw [q3]; simp only [sumS]; omega
        · refine ⟨m, fun x hx => ?_, m2⟩
          rcases List.mem_cons.1 hx with rfl | hx
          · have := m1 d List.mem_cons_self
            have := h1 d (q1.subset List.mem_cons_self)
            omega
          · exact m1 x hx
    · have e : stepC st c = st := by rw [stepC, if_neg hc]
      rw [e]
      obtain ⟨q, q1, q2⟩ := ih h2 st
      exact ⟨q, q1.cons c, q2⟩
/-- The seats of those in a list whose numbers are held. -/
def heldS (u : List Int) (l : List Cbn) : Int := match l with
  | [] => 0
  | c :: l => (if hasI u c.n then c.s else 0) + heldS u l
theorem heldS_perm {u : List Int} {l o : List Cbn} (h : l.Perm o) : heldS u l = heldS u o := by
  induction h with
  | nil => rfl
  | cons x _ ih => simp only [heldS, ih]
  | swap x y l => simp only [heldS]; omega
  | trans _ _ a b => exact a.trans b
theorem heldS_none {u : List Int} : ∀ {l : List Cbn}, (∀ c ∈ l, c.n ∉ u) → heldS u l = 0
  | [], _ => rfl
  | c :: l, h => by
    rw [heldS, heldS_none fun d hd => h d (List.mem_cons_of_mem _ hd)]
    simp [hasI, h c List.mem_cons_self]
theorem heldS_congr {u v : List Int} : ∀ {l : List Cbn}, (∀ c ∈ l, (c.n ∈ u ↔ c.n ∈ v)) → heldS u l = heldS v l
  | [], _ => rfl
  | c :: l, h => by
    rw [heldS, heldS, heldS_congr fun d hd => h d (List.mem_cons_of_mem _ hd)]
    simp [hasI, h c List.mem_cons_self]
theorem heldS_sub {o q : List Cbn} (h : q.Sublist o) (hn : (o.map Cbn.n).Nodup) : heldS (q.map Cbn.n) o = sumS q := by
  induction h with
  | slnil => rfl
  | @cons q o c hq ih =>
    rw [List.map_cons, List.nodup_cons] at hn
    have : hasI (q.map Cbn.n) c.n = false := decide_eq_false fun hm => hn.1 ((hq.map Cbn.n).subset hm)
    rw [heldS, ih hn.2, this]; simp
  | @cons_cons q o c hq ih =>
    rw [List.map_cons, List.nodup_cons] at hn
    have h1 : hasI ((c :: q).map Cbn.n) c.n = true := decide_eq_true (by simp)
    rw [heldS, sumS, h1, if_pos rfl, ← ih hn.2]
    congr 1
    refine heldS_congr fun d hd => ?_
    have : d.n ≠ c.n := fun e => hn.1 (e ▸ List.mem_map_of_mem hd)
    simp [this]
theorem heldS_snoc {u : List Int} {l : List Cbn} {c : Cbn} : heldS u (l ++ [c]) = heldS u l + if hasI u c.n then c.s else 0 := by
  induction l with
  | nil => simp [heldS]
  | cons d l ih => rw [List.cons_append, heldS, heldS, ih]; omega
/-- What the statement's own loop counts. -/
def heldTo (u : List Int) (l : List Cbn) : Nat → Int × Int
  | 0 => (0, 17)
  | k + 1 => if hasI u (nth l k).n then ((heldTo u l k).1 + (nth l k).s, if (nth l k).s < (heldTo u l k).2 then (nth l k).s else (heldTo u l k).2) else heldTo u l k
theorem heldTo_sum {u : List Int} {l : List Cbn} : ∀ k, k ≤ l.length → (heldTo u l k).1 = heldS u (l.take k)
  | 0, _ => by simp [heldTo, heldS]
  | k + 1, hk => by
    rw [List.take_succ_eq_append_getElem (by omega), heldS_snoc, ← heldTo_sum k (by omega), heldTo, nth_eq (by omega)]
    split <;> simp
theorem heldTo_least {u : List Int} {l : List Cbn} {m : Int} (h : ∀ c ∈ l, c.n ∈ u → m ≤ c.s) (hm : m ≤ 17) : ∀ k, k ≤ l.length → m ≤ (heldTo u l k).2
  | 0, _ => hm
  | k + 1, hk => by
    have ih := heldTo_least h hm k (by omega)
    rw [heldTo]
    split
    · next c =>
      have := h (nth l k) (nth_mem (by omega)) (of_decide_eq_true c)
      simp only; split <;> omega
    · exact ih
theorem heldTo_bd {u : List Int} {l : List Cbn} (h : ∀ i, i < l.length → okC (nth l i) = true) : ∀ k, k ≤ l.length → 0 ≤ (heldTo u l k).1 ∧ (heldTo u l k).1 ≤ k * 16 ∧ 1 ≤ (heldTo u l k).2 ∧ (heldTo u l k).2 ≤ 17
  | 0, _ => by simp [heldTo]
  | k + 1, hk => by
    have h1 := heldTo_bd (u := u) h k (by omega)
    have a := (okC_true.1 (h k (by omega))).2.1
    rw [heldTo]
    split
    · simp only; split <;> omega
    · omega
theorem nodup_nums {l : List Cbn} (h : ∀ i, i + 1 < l.length → (nth l i).n < (nth l (i + 1)).n) : (l.map Cbn.n).Nodup := by
  rw [List.Nodup, List.pairwise_iff_getElem]
  intro i j hi hj hij
  simp only [List.length_map] at hi hj
  have := rising h hij hj
  rw [nth_eq hi, nth_eq hj] at this
  simp; omega
theorem fewest_law {l : List Cbn} {p : Int} {u : List Int} (h : fewest l p = (u, true)) :
    goodC l = true ∧ 0 ≤ p ∧ p ≤ (heldTo u l l.length).1 ∧ (0 < u.length → (heldTo u l l.length).1 - (heldTo u l l.length).2 < p) := by
  unfold fewest at h
  split at h
  case isFalse => cases h
  next hc =>
  simp only [Bool.and_eq_true, decide_eq_true_eq] at hc
  obtain ⟨⟨hg, hp⟩, hle⟩ := hc
  obtain ⟨g1, g2, g3⟩ := goodC_true hg
  have hu : isort (pickC (ordC Cbn.s l) p).1 = u := by injection h
  obtain ⟨q, q1, q2, q3, q4⟩ := pick_part (ordC Cbn.s l) (ordC_down l) ([], p)
  rw [← pickC] at q2 q3 q4
  rw [List.nil_append] at q2
  have hperm := ordC_perm (key := Cbn.s) l
  have hnd := nodup_nums g3
  have hno : ((ordC Cbn.s l).map Cbn.n).Nodup := (hperm.map Cbn.n).nodup_iff.2 hnd
  have hmem : ∀ x, x ∈ u ↔ x ∈ q.map Cbn.n := fun x => by rw [← hu, isort_mem, q2]
  have hsum : (heldTo u l l.length).1 = sumS q := by
    rw [heldTo_sum l.length (Nat.le_refl _), List.take_length, ← heldS_perm hperm, heldS_congr (v := q.map Cbn.n) (fun c _ => hmem c.n), heldS_sub q1 hno]
  refine ⟨hg, (inR_true.1 hp).1, by rw [hsum]; omega, fun h0 => ?_⟩
  rcases q4 with rfl | ⟨m, m1, m2⟩
  · have : u = [] := by
      rw [List.eq_nil_iff_forall_not_mem]
      intro x hx; have := (hmem x).1 hx; simp at this
    rw [this] at h0; exact absurd h0 (by simp)
  · have hq : ∀ c ∈ l, c.n ∈ u → m ≤ c.s := fun c hc hcu => by
      obtain ⟨d, hd, he⟩ := List.mem_map.1 ((hmem c.n).1 hcu)
      have hdl : d ∈ l := hperm.mem_iff.1 (q1.subset hd)
      have : d = c := by
        obtain ⟨i, hi, rfl⟩ := List.getElem_of_mem hdl
        obtain ⟨j, hj, rfl⟩ := List.getElem_of_mem hc
        rw [← nth_eq hi, ← nth_eq hj] at he ⊢
        rcases Nat.lt_trichotomy i j with hlt | e | hlt
        · have := rising g3 hlt hj; omega
        · rw [e]
        · have := rising g3 hlt hi; omega
      subst this; exact m1 d hd
    by_cases hm : m ≤ 17
    · have := heldTo_least hq hm l.length (Nat.le_refl _)
      omega
    · exfalso
      have hne : 0 < q.length := by
        rcases q with _ | ⟨d, q⟩
        · exfalso
          obtain ⟨x, hx⟩ := List.exists_mem_of_length_pos h0
          have := (hmem x).1 hx; simp at this
        · simp
      rcases q with _ | ⟨d, q⟩
      · exact absurd hne (by simp)
      · have h1 := m1 d List.mem_cons_self
        have hdl : d ∈ l := hperm.mem_iff.1 (q1.subset List.mem_cons_self)
        obtain ⟨i, hi, rfl⟩ := List.getElem_of_mem hdl
        have := (okC_true.1 (g2 i hi)).2.1
        rw [nth_eq hi] at this
        omega
end Go.Proofs.YteoajaichjojdaaDoor
