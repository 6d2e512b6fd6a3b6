/- Plain laws on lines: a line reversed twice, its climbs, its text read back; no conditions beyond those of each statement. -/
import Derived.Test.YtpchcblialkpcaaDoorSup
import Derived.Test.YtpchcblialkpcaaDoorParseI
import Derived.Test.YtpchcblialkpcaaDoorWords
namespace Go.Proofs.YtpchcblialkpcaaDoor

theorem nth_map {α β : Type} [Inhabited α] [Inhabited β] {l : List α} {f : α → β} {i : Nat} (h : i < l.length) : nth (l.map f) i = f (nth l i) := by
  rw [nth_eq (by simpa using h), nth_eq h]; simp
theorem nth_reverse {α : Type} [Inhabited α] {l : List α} {i : Nat} (h : i < l.length) : nth l.reverse i = nth l (l.length - 1 - i) := by
  rw [nth_eq (by simpa using h), nth_eq (by omega)]; simp
theorem rev_nth {l : List Sup} {e : Int} {i : Nat} (h : i < l.length) : nth (l.reverse.map (flipU e)) i = flipU e (nth l (l.length - 1 - i)) := by
  rw [nth_map (by simpa using h), nth_reverse h]
theorem rising {l : List Sup} (h : ∀ i, i + 1 < l.length → (nth l i).a < (nth l (i + 1)).a) : ∀ {i j : Nat}, i < j → j < l.length → (nth l i).a < (nth l j).a := fun {i j} => by
  induction j with
  | zero => intro h; omega
  | succ j ih =>
    intro h1 h2
    have := h j h2
    by_cases e : i = j
    · subst e; exact this
    · have := ih (by omega) (by omega); omega
theorem goodU_of {l : List Sup} (h1 : 2 ≤ l.length) (h2 : l.length ≤ 8) (h3 : (nth l 0).a = 0) (h4 : (nth l 0).s = true) (h5 : (endU l).s = true) (h6 : ∀ i, i < l.length → okU (nth l i) = true) (h7 : ∀ i, i + 1 < l.length → (nth l i).a < (nth l (i + 1)).a) : goodU l = true := by
  simp only [goodU, Bool.and_eq_true, decide_eq_true_eq, allTo_true]
  refine ⟨⟨⟨⟨⟨h1, h2⟩, h3⟩, h4⟩, h5⟩, fun i hi => ⟨h6 i hi, ?_⟩⟩
  simp only [prevU, Bool.or_eq_true, decide_eq_true_eq]
  by_cases e : i = 0
  · exact .inl e
  · right
    have := h7 (i - 1) (by omega)
    rwa [show i - 1 + 1 = i by omega] at this
theorem rev_good {l : List Sup} (h : goodU l = true) : goodU (l.reverse.map (flipU (endU l).a)) = true ∧ (endU (l.reverse.map (flipU (endU l).a))).a = (endU l).a := by
  obtain ⟨h1, h2, h3, h4, h5, h6, h7⟩ := goodU_true h
  obtain ⟨e, he⟩ : ∃ e, (endU l).a = e := ⟨_, rfl⟩
  have hend : endU (l.reverse.map (flipU e)) = flipU e (nth l 0) := by
    unfold endU
    rw [show (l.reverse.map (flipU e)).length = l.length by simp, rev_nth (by omega), show l.length - 1 - (l.length - 1) = 0 by omega]
  rw [he]
  refine ⟨goodU_of (by simpa using h1) (by simpa using h2) ?_ ?_ ?_ (fun i hi => ?_) (fun i hi => ?_), ?_⟩
  · rw [rev_nth (by omega)]
    show e - (nth l (l.length - 1 - 0)).a = 0
    have : (nth l (l.length - 1 - 0)).a = e := he
    omega
  · rw [rev_nth (by omega)]; exact h5
  · rw [hend]; exact h4
  · rw [List.length_map, List.length_reverse] at hi
    rw [rev_nth hi, okU_true]
    obtain ⟨⟨a1, a2⟩, a3, a4⟩ := okU_true.1 (h6 (l.length - 1 - i) (by omega))
    obtain ⟨⟨b1, b2⟩, _⟩ := okU_true.1 (h6 (l.length - 1) (by omega))
    have hle : (nth l (l.length - 1 - i)).a ≤ (nth l (l.length - 1)).a := by
      by_cases e0 : i = 0
      · subst e0; exact Int.le_refl _
      · exact Int.le_of_lt (rising h7 (by omega) (by omega))
    have he' : (nth l (l.length - 1)).a = e := he
    simp only [flipU]
    omega
  · rw [List.length_map, List.length_reverse] at hi
    rw [rev_nth (by omega), rev_nth hi]
    have := h7 (l.length - 1 - (i + 1)) (by omega)
    rw [show l.length - 1 - (i + 1) + 1 = l.length - 1 - i by omega] at this
    simp only [flipU]; omega
  · rw [hend]; simp only [flipU]; omega
theorem flip_flip (e : Int) (x : Sup) : flipU e (flipU e x) = x := by
  cases x; simp only [flipU, Sup.mk.injEq, and_true]; omega
theorem rev_rev {l : List Sup} (h : goodU l = true) : revU (revU l).1 = (l, true) ∧ goodU (revU l).1 = true := by
  obtain ⟨h1, h2⟩ := rev_good h
  have hr : revU l = (l.reverse.map (flipU (endU l).a), true) := by simp [revU, h]
  rw [hr]
  refine ⟨?_, h1⟩
  simp only [revU, h1, if_true, h2]
  rw [← List.map_reverse, List.reverse_reverse, List.map_map]
  have : (flipU (endU l).a ∘ flipU (endU l).a) = id := funext fun x => flip_flip _ x
  rw [this, List.map_id]
theorem climb_bd {l : List Sup} (h : ∀ i, i < l.length → okU (nth l i) = true) : ∀ k, k ≤ l.length → 0 ≤ (climbTo l k).1 ∧ (climbTo l k).1 ≤ k * 2000 ∧ 0 ≤ (climbTo l k).2 ∧ (climbTo l k).2 ≤ k * 2000
  | 0, _ => by simp [climbTo]
  | 1, _ => by simp [climbTo]
  | k + 2, hk => by
    obtain ⟨a, b, c, d⟩ := climb_bd h (k + 1) (by omega)
    obtain ⟨_, p1, p2⟩ := okU_true.1 (h k (by omega))
    obtain ⟨_, q1, q2⟩ := okU_true.1 (h (k + 1) (by omega))
    simp only [climbTo]
    omega
theorem climb_diff {l : List Sup} : ∀ k, (climbTo l (k + 1)).1 - (climbTo l (k + 1)).2 = (nth l k).h - (nth l 0).h
  | 0 => by simp [climbTo]
  | k + 1 => by
    have := climb_diff (l := l) k
    simp only [climbTo] at this ⊢
    omega
theorem climb_rev {l : List Sup} {e : Int} : ∀ k, k + 1 ≤ l.length → (climbTo (l.reverse.map (flipU e)) (k + 1)).1 + (climbTo l (l.length - k)).2 = (climbTo l l.length).2 ∧ (climbTo (l.reverse.map (flipU e)) (k + 1)).2 + (climbTo l (l.length - k)).1 = (climbTo l l.length).1
  | 0, _ => by simp [climbTo]
  | k + 1, hk => by
    obtain ⟨i1, i2⟩ := climb_rev (l := l) (e := e) k (by omega)
    obtain ⟨m, hm⟩ : ∃ m, l.length = m + (k + 2) := ⟨l.length - (k + 2), by omega⟩
    have r1 : nth (l.reverse.map (flipU e)) (k + 1) = flipU e (nth l m) := by rw [rev_nth (by omega), show l.length - 1 - (k + 1) = m by omega]
    have r2 : nth (l.reverse.map (flipU e)) k = flipU e (nth l (m + 1)) := by rw [rev_nth (by omega), show l.length - 1 - k = m + 1 by omega]
    rw [show l.length - k = m + 2 by omega] at i1 i2
    rw [show l.length - (k + 1) = m + 1 by omega]
    simp only [climbTo, r1, r2, flipU] at i1 i2 ⊢
    omega
theorem climb_law {l : List Sup} (h : goodU l = true) : climbU (revU l).1 = (((climbU l).1.2, (climbU l).1.1), true) ∧ (climbU l).1.1 - (climbU l).1.2 = (endU l).h - (nth l 0).h := by
  obtain ⟨g1, _⟩ := rev_good h
  have hr : revU l = (l.reverse.map (flipU (endU l).a), true) := by simp [revU, h]
  obtain ⟨h1, _⟩ := goodU_true h
  rw [hr]
  simp only [climbU, h, g1, if_true]
  obtain ⟨c1, c2⟩ := climb_rev (l := l) (e := (endU l).a) (l.length - 1) (by omega)
  have cd := climb_diff (l := l) (l.length - 1)
  rw [show l.length - 1 + 1 = l.length by omega] at c1 c2 cd
  rw [show l.length - (l.length - 1) = 1 by omega] at c1 c2
  simp only [climbTo] at c1 c2
  rw [show (l.reverse.map (flipU (endU l).a)).length = l.length by simp]
  refine ⟨?_, cd⟩
  rw [Prod.mk.injEq]
  refine ⟨?_, rfl⟩
  rw [Prod.ext_iff]
  exact ⟨by simpa using c1, by simpa using c2⟩
/- Texts. -/
theorem num_no {n : Int} {c : UInt8} (h1 : c ≠ 45) (h3 : ¬ (48 ≤ c.toNat ∧ c.toNat ≤ 57)) : c ∉ num n := fun h => by
  rcases num_byte h with h | h
  · exact h1 h
  · exact h3 h
def letU (x : Sup) : UInt8 := if x.s then 83 else 84
theorem supL_eq (x : Sup) : supL x = letU x :: (num x.a ++ 58 :: num x.h) := by
  unfold supL letU
  split <;> simp
theorem sup_no32 (x : Sup) : (32 : UInt8) ∉ supL x := by
  rw [supL_eq]
  simp only [List.mem_cons, List.mem_append]
  rintro (h | h | h | h)
  · unfold letU at h; split at h <;> exact absurd h (by decide)
  · exact num_no (by decide) (by decide) h
  · exact absurd h (by decide)
  · exact num_no (by decide) (by decide) h
theorem line_parts : ∀ {l : List Sup}, l ≠ [] → Lib.split (lineL l) [32] = l.map supL
  | [], h => absurd rfl h
  | [x], _ => split_miss (sup_no32 x)
  | x :: y :: r, _ => by
    show Lib.split (supL x ++ 32 :: lineL (y :: r)) [32] = _
    rw [show supL x ++ 32 :: lineL (y :: r) = supL x ++ [32] ++ lineL (y :: r) by simp, split_hit (sup_no32 x), line_parts (by simp)]
    rfl
theorem line_words : ∀ {l : List Sup}, l ≠ [] → spl 32 (lineL l) = l.map supL
  | [], h => absurd rfl h
  | [x], _ => spl_none (sup_no32 x)
  | x :: y :: r, _ => by
    show spl 32 (supL x ++ 32 :: lineL (y :: r)) = _
    rw [spl_hit (sup_no32 x), line_words (by simp)]
    rfl
theorem line_join : ∀ l : List Sup, Lib.join (l.map supL) [32] = lineL l
  | [] => rfl
  | [x] => by simp [Lib.join, lineL]
  | x :: y :: r => by
    have := line_join (y :: r)
    simp only [List.map_cons] at this ⊢
    show _ = supL x ++ 32 :: lineL (y :: r)
    rw [← this]
    simp [Lib.join]
/-- A support as the program reads it. -/
def rdI (p : List UInt8) : Option Sup := if 2 ≤ p.length ∧ (Lib.split (p.drop 1) [58]).length = 2 then (match readI (nth (Lib.split (p.drop 1) [58]) 0), readI (nth (Lib.split (p.drop 1) [58]) 1) with
  | some a, some h => some ⟨a, h, decide (nth p 0 = 83)⟩
  | _, _ => none) else none
/-- A support as the reference reads it. -/
def rdS (p : List UInt8) : Option Sup := if (spl 58 p).length = 2 ∧ 2 ≤ (nth (spl 58 p) 0).length then some ⟨(parseP ((nth (spl 58 p) 0).drop 1)).1, (parseP (nth (spl 58 p) 1)).1, decide (nth (nth (spl 58 p) 0) 0 = 83)⟩ else none
theorem num_pos (n : Int) : 1 ≤ (num n).length := by
  rcases hq : num n with _ | ⟨b, l⟩
  · exact absurd hq (num_ne _)
  · simp
theorem let_is (x : Sup) : decide (letU x = 83) = x.s := by unfold letU; cases x.s <;> decide
theorem rdI_text {x : Sup} (h : okU x = true) : rdI (supL x) = some x := by
  obtain ⟨⟨a1, a2⟩, a3, a4⟩ := okU_true.1 h
  have hn : (58 : UInt8) ∉ num x.a := num_no (by decide) (by decide)
  have hn2 : (58 : UInt8) ∉ num x.h := num_no (by decide) (by decide)
  have hs : Lib.split ((supL x).drop 1) [58] = [num x.a, num x.h] := by
    rw [supL_eq]
    show Lib.split (num x.a ++ 58 :: num x.h) [58] = _
    rw [show num x.a ++ 58 :: num x.h = num x.a ++ [58] ++ num x.h by simp, split_hit hn, split_miss hn2]
  have hl : 2 ≤ (supL x).length := by rw [supL_eq]; simp; omega
  unfold rdI
  rw [hs, if_pos ⟨hl, rfl⟩]
  show (match readI (num x.a), readI (num x.h) with | some a, some h => some (⟨a, h, decide (nth (supL x) 0 = 83)⟩ : Sup) | _, _ => none) = some x
  rw [readI_num (by omega) (by omega), readI_num (by omega) (by omega)]
  have : nth (supL x) 0 = letU x := by rw [supL_eq]; rfl
  simp only [this, let_is]
theorem rdS_text {x : Sup} (h : okU x = true) : rdS (supL x) = some x := by
  obtain ⟨⟨a1, a2⟩, a3, a4⟩ := okU_true.1 h
  have hn : (58 : UInt8) ∉ letU x :: num x.a := by
    simp only [List.mem_cons]
    rintro (h | h)
    · unfold letU at h; split at h <;> exact absurd h (by decide)
    · exact num_no (by decide) (by decide) h
  have hn2 : (58 : UInt8) ∉ num x.h := num_no (by decide) (by decide)
  have hs : spl 58 (supL x) = [letU x :: num x.a, num x.h] := by
    rw [supL_eq, show letU x :: (num x.a ++ 58 :: num x.h) = (letU x :: num x.a) ++ 58 :: num x.h by simp, spl_hit hn, spl_none hn2]
  have hp := num_pos x.a
  unfold rdS
  rw [hs, if_pos ⟨rfl, by show 2 ≤ (letU x :: num x.a).length; simp; omega⟩]
  show some (⟨(parseP (num x.a)).1, (parseP (num x.h)).1, decide (letU x = 83)⟩ : Sup) = some x
  rw [parseP, readI_num (by omega) (by omega), parseP, readI_num (by omega) (by omega), let_is]
theorem map_nth {α β : Type} [Inhabited α] [Inhabited β] {l : List α} {q : List β} (h : l.length = q.length) {f : α → β} (hf : ∀ i, i < l.length → f (nth l i) = nth q i) : l.map f = q := by
  apply List.ext_getElem (by simpa using h)
  intro i h1 h2
  have := hf i (by simpa using h1)
  rw [nth_eq (by simpa using h1), nth_eq h2] at this
  simpa using this
/-- What a text gives: the line that it writes, or none. -/
def Parsed (s : List UInt8) (p : List Sup × Bool) : Prop := (goodU p.1 = true ∧ lineL p.1 = s ∧ p.2 = true) ∨ (p = ([], false) ∧ ∀ l, goodU l = true → lineL l ≠ s)
theorem good_ne {l : List Sup} (h : goodU l = true) : l ≠ [] := fun e => by subst e; have := (goodU_true h).1; simp at this
theorem line_inj {l q : List Sup} (hl : goodU l = true) (hq : goodU q = true) (h : lineL l = lineL q) : l = q := by
  have h1 := line_parts (good_ne hl)
  rw [h, line_parts (good_ne hq)] at h1
  have hlen : q.length = l.length := by simpa using congrArg List.length h1
  have k1 := (goodU_true hl).2.2.2.2.2.1
  have k2 := (goodU_true hq).2.2.2.2.2.1
  apply List.ext_getElem hlen.symm
  intro i i1 i2
  have h2 : supL (nth q i) = supL (nth l i) := by
    have := congrArg (fun z => nth z i) h1
    simpa [nth_map i1, nth_map i2] using this
  have h3 := rdI_text (k2 i i2)
  rw [h2, rdI_text (k1 i i1), Option.some.injEq, nth_eq i1, nth_eq i2] at h3
  exact h3
theorem Parsed.same {s : List UInt8} {p q : List Sup × Bool} (hp : Parsed s p) (hq : Parsed s q) : p = q := by
  rcases hp with ⟨g1, t1, o1⟩ | ⟨e1, n1⟩ <;> rcases hq with ⟨g2, t2, o2⟩ | ⟨e2, n2⟩
  · exact Prod.ext (line_inj g1 g2 (t1.trans t2.symm)) (o1.trans o2.symm)
  · exact absurd t1 (n2 _ g1)
  · exact absurd t2 (n1 _ g2)
  · rw [e1, e2]
theorem num_len4 {q : Nat} (h : q < 10000) : (num (q : Int)).length ≤ 4 := by
  have h1 : ∀ q : Nat, q < 10 → (num (q : Int)).length = 1 := fun q h => by rw [num_small h]; rfl
  have h2 : ∀ q : Nat, q < 100 → (num (q : Int)).length ≤ 2 := fun q h => by
    by_cases h10 : q < 10
    · rw [h1 q h10]; omega
    · rw [num_big h10, List.length_append, h1 (q / 10) (by omega), List.length_singleton]; omega
  have h3 : ∀ q : Nat, q < 1000 → (num (q : Int)).length ≤ 3 := fun q h => by
    by_cases h10 : q < 10
    · rw [h1 q h10]; omega
    · have := h2 (q / 10) (by omega)
      rw [num_big h10, List.length_append, List.length_singleton]; omega
  by_cases h10 : q < 10
  · rw [h1 q h10]; omega
  · have := h3 (q / 10) (by omega)
    rw [num_big h10, List.length_append, List.length_singleton]; omega
theorem supL_len {x : Sup} (h : okU x = true) : (supL x).length ≤ 10 := by
  obtain ⟨⟨a1, a2⟩, a3, a4⟩ := okU_true.1 h
  obtain ⟨a, ha⟩ : ∃ a : Nat, x.a = a := ⟨x.a.toNat, by omega⟩
  obtain ⟨b, hb⟩ : ∃ b : Nat, x.h = b := ⟨x.h.toNat, by omega⟩
  have l1 := num_len4 (q := a) (by omega)
  have l2 := num_len4 (q := b) (by omega)
  rw [supL_eq, ha, hb]; simp; omega
theorem line_len_mem : ∀ {l : List Sup}, (∀ x ∈ l, okU x = true) → (lineL l).length ≤ 11 * l.length
  | [], _ => by simp [lineL]
  | [x], h => by have := supL_len (h x List.mem_cons_self); simp only [lineL, List.length_cons, List.length_nil]; omega
  | x :: y :: r, h => by
    have h1 := supL_len (h x List.mem_cons_self)
    have h2 := line_len_mem (l := y :: r) (fun z hz => h z (List.mem_cons_of_mem _ hz))
    show (supL x ++ 32 :: lineL (y :: r)).length ≤ _
    simp only [List.length_append, List.length_cons] at h2 ⊢
    omega
theorem line_len {l : List Sup} (h : ∀ i, i < l.length → okU (nth l i) = true) : (lineL l).length ≤ 11 * l.length := line_len_mem fun x hx => by
  obtain ⟨i, hi, rfl⟩ := List.mem_iff_getElem.1 hx
  have := h i hi
  rwa [nth_eq hi] at this
end Go.Proofs.YtpchcblialkpcaaDoor
