/- The text of a weather record read back, in plain lists of bytes: as the program reads it and as the reference does; no conditions beyond those of each statement. -/
import Derived.Test.YtmlcaaciofbpgaaDoorWeaText
import Derived.Test.YtmlcaaciofbpgaaDoorParseI
import Derived.Test.YtmlcaaciofbpgaaDoorWords
import Derived.Lib.Replace
import Derived.Lib.TrimByte
import Derived.Lib.Strings
namespace Go.Proofs.YtmlcaaciofbpgaaDoor

theorem num_pos {n : Nat} (h : 0 < n) : ∃ b l, num (n : Int) = b :: l ∧ b ≠ 48 := by
  induction n using Nat.strongRecOn with
  | ind n ih =>
    by_cases h10 : n < 10
    · refine ⟨_, _, num_small h10, fun e => ?_⟩
      have := congrArg UInt8.toNat e
      simp at this
      omega
    · obtain ⟨b, l, e, hb⟩ := ih (n / 10) (by omega) (by omega)
      rw [num_big h10, e]
      exact ⟨b, l ++ [UInt8.ofNat (48 + n % 10)], rfl, hb⟩
theorem num_digit {n : Nat} {b : UInt8} (h : b ∈ num (n : Int)) : 48 ≤ b.toNat ∧ b.toNat ≤ 57 := by
  unfold num Lib.itoa at h
  rw [if_neg (by omega)] at h
  exact dec_digit _ b h
theorem num_len2 {q : Nat} (h : q < 100) : (num (q : Int)).length ≤ 2 := by
  by_cases h10 : q < 10
  · rw [num_small h10]; simp
  · rw [num_big h10, num_small (show q / 10 < 10 by omega)]; simp
theorem ten_glue (m : Nat) : num (m / 10 : Nat) ++ num (m % 10 : Nat) = if m < 10 then 48 :: num (m : Int) else num (m : Int) := by
  by_cases h : m < 10
  · rw [if_pos h, show m / 10 = 0 by omega, show m % 10 = m by omega]
    rw [num_small (show 0 < 10 by omega)]; rfl
  · rw [if_neg h, num_big h, num_small (show m % 10 < 10 by omega)]
def trimN (s : List UInt8) : List UInt8 := Lib.trimLeftB (Lib.replace (Lib.trimPrefix s [45]) [46] [] 1) 48
def readT (s : List UInt8) : Int := if Lib.hasPrefix s [45] then -(parseP (trimN s)).1 else (parseP (trimN s)).1
theorem tenA_head (m : Nat) : ∃ b l, tenA m = b :: l ∧ b ≠ 45 := by
  rcases hq : num ((m / 10 : Nat) : Int) with _ | ⟨b, l⟩
  · exact absurd hq (num_ne _)
  · refine ⟨b, l ++ [46] ++ num (m % 10 : Nat), by rw [tenA, hq]; rfl, fun e => ?_⟩
    have := num_digit (n := m / 10) (b := b) (by rw [hq]; exact List.mem_cons_self)
    subst e; simp at this
theorem dot_out (m : Nat) : Lib.replace (tenA m) [46] [] 1 = num (m / 10 : Nat) ++ num (m % 10 : Nat) := by
  have hno : (46 : UInt8) ∉ num ((m / 10 : Nat) : Int) := fun h => by have := num_digit h; simp at this
  have hi : Lib.index (tenA m) [46] = (num ((m / 10 : Nat) : Int)).length := idx_hit (c := 46) (r := []) hno
  have hc : 1 ≤ Lib.count (tenA m) [46] := by
    have := Lib.count_hit (s := tenA m) (sub := [46]) (by simp) hi
    omega
  have hn : Lib.replaceNum (tenA m) [46] 1 = 0 + 1 := by
    unfold Lib.replaceNum
    rw [if_neg (by omega)]; rfl
  unfold Lib.replace
  rw [if_neg (by simp), hn, Lib.replaceK_hit _ _ _ _ _ hi]
  simp [tenA, Lib.replaceK]
theorem trimN_ten (n : Int) : trimN (tenL n) = if n = 0 then [] else num (n.natAbs : Int) := by
  have h1 : Lib.trimPrefix (tenL n) [45] = tenA n.natAbs := by
    unfold tenL
    split
    · simp [Lib.trimPrefix, Lib.hasPrefix, List.isPrefixOf]
    · obtain ⟨b, l, e, hb⟩ := tenA_head n.natAbs
      rw [e]
      simp [Lib.trimPrefix, Lib.hasPrefix, List.isPrefixOf, hb.symm]
  unfold trimN
  rw [h1, dot_out, ten_glue]
  by_cases h0 : n = 0
  · subst h0; rw [if_pos rfl]
    have : num ((Int.natAbs 0 : Nat) : Int) = [48] := num_small (n := 0) (by omega)
    rw [this]; rfl
  · rw [if_neg h0]
    obtain ⟨b, l, e, hb⟩ := num_pos (n := n.natAbs) (by omega)
    rw [e]
    unfold Lib.trimLeftB
    split
    · rw [List.dropWhile_cons_of_pos (by rfl), List.dropWhile_cons_of_neg (by simpa using hb)]
    · rw [List.dropWhile_cons_of_neg (by simpa using hb)]
theorem readT_ten {n : Int} (h0 : -999999 ≤ n) (h1 : n ≤ 999999) : readT (tenL n) = n := by
  have hp : (parseP (trimN (tenL n))).1 = n.natAbs := by
    rw [trimN_ten]
    split
    · next h => subst h; rfl
    · rw [parseP, readI_num (by omega) (by omega)]
  unfold readT
  rw [hp]
  by_cases hn : n < 0
  · have : Lib.hasPrefix (tenL n) [45] = true := by rw [tenL, if_pos hn]; simp [Lib.hasPrefix, List.isPrefixOf]
    rw [this, if_pos rfl]; omega
  · obtain ⟨b, l, e, hb⟩ := tenA_head n.natAbs
    have : Lib.hasPrefix (tenL n) [45] = false := by rw [tenL, if_neg hn, e]; simp [Lib.hasPrefix, List.isPrefixOf, hb.symm]
    rw [this, if_neg (by simp)]; omega
/-- The digits of a text. -/
def digF (acc : Nat) (l : List UInt8) : Nat := l.foldl (fun n b => if 48 ≤ b.toNat ∧ b.toNat ≤ 57 then 10 * n + (b.toNat - 48) else n) acc
def digL (s : List UInt8) : Int := if s[0]? = some 45 then -(digF 0 (s.take 9) : Int) else digF 0 (s.take 9)
theorem digF_app (acc : Nat) (a b : List UInt8) : digF acc (a ++ b) = digF (digF acc a) b := List.foldl_append
theorem digF_one {acc d : Nat} (h : d < 10) : digF acc [UInt8.ofNat (48 + d)] = 10 * acc + d := by
  have h1 : (UInt8.ofNat (48 + d)).toNat = 48 + d := by simp; omega
  simp only [digF, List.foldl_cons, List.foldl_nil, h1]
  rw [if_pos (by omega)]; omega
theorem digF_num (n : Nat) : digF 0 (num (n : Int)) = n := by
  induction n using Nat.strongRecOn with
  | ind n ih =>
    by_cases h : n < 10
    · rw [num_small h, digF_one h]; omega
    · rw [num_big h, digF_app, ih (n / 10) (by omega), digF_one (by omega)]; omega
theorem digF_skip {acc : Nat} {b : UInt8} (h : ¬ (48 ≤ b.toNat ∧ b.toNat ≤ 57)) : digF acc [b] = acc := by
  simp only [digF, List.foldl_cons, List.foldl_nil]
  rw [if_neg h]
theorem digF_ten (m : Nat) : digF 0 (tenA m) = m := by
  rw [tenA, digF_app, digF_app, digF_num, digF_skip (by decide), num_small (show m % 10 < 10 by omega), digF_one (by omega)]; omega
theorem digL_sep {m : Int} {b : UInt8} (h0 : 0 ≤ m) (h1 : m ≤ 9999) (hb : ¬ (48 ≤ b.toNat ∧ b.toNat ≤ 57)) : digL (num m ++ [b]) = m := by
  obtain ⟨n, rfl⟩ : ∃ n : Nat, m = (n : Int) := ⟨m.toNat, by omega⟩
  have hl := num_len7 (n := (n : Int)) (by omega) (by omega)
  have hne : ¬ (num (n : Int) ++ [b])[0]? = some 45 := by
    rcases hq : num (n : Int) with _ | ⟨c, l⟩
    · exact absurd hq (num_ne _)
    · have := num_digit (n := n) (b := c) (by rw [hq]; exact List.mem_cons_self)
      intro e
      simp at e
      subst e; simp at this
  unfold digL
  rw [if_neg hne, List.take_of_length_le (by simp; omega), digF_app, digF_num, digF_skip hb]
theorem digL_ten {n : Int} (h0 : -600 ≤ n) (h1 : n ≤ 600) : digL (tenL n) = n := by
  have hq := num_len2 (q := n.natAbs / 10) (by omega)
  have hr := num_len2 (q := n.natAbs % 10) (by omega)
  have hl : (tenA n.natAbs).length ≤ 5 := by simp only [tenA, List.length_append, List.length_cons, List.length_nil]; omega
  unfold digL tenL
  by_cases hn : n < 0
  · rw [if_pos hn, if_pos (by simp), List.take_of_length_le (by simp; omega)]
    have : digF 0 (45 :: tenA n.natAbs) = n.natAbs := by
      rw [show (45 :: tenA n.natAbs) = [45] ++ tenA n.natAbs from rfl, digF_app, digF_skip (by decide), digF_ten]
    rw [this]; omega
  · obtain ⟨b, l, e, hb⟩ := tenA_head n.natAbs
    have hne : ¬ (tenA n.natAbs)[0]? = some 45 := by rw [e]; simp [hb]
    rw [if_neg hn, if_neg hne, List.take_of_length_le (by omega), digF_ten]; omega
theorem ten_byte {n : Int} {b : UInt8} (h : b ∈ tenL n) : b = 45 ∨ b = 46 ∨ (48 ≤ b.toNat ∧ b.toNat ≤ 57) := by
  have hA : ∀ m : Nat, b ∈ tenA m → b = 46 ∨ (48 ≤ b.toNat ∧ b.toNat ≤ 57) := fun m hb => by
    simp only [tenA, List.mem_append, List.mem_singleton] at hb
    rcases hb with (hb | hb) | hb
    · exact .inr (num_digit hb)
    · exact .inl hb
    · exact .inr (num_digit hb)
  unfold tenL at h
  split at h
  · rcases List.mem_cons.1 h with h | h
    · exact .inl h
    · exact .inr (hA _ h)
  · exact .inr (hA _ h)
theorem ten_no {n : Int} {c : UInt8} (h1 : c ≠ 45) (h2 : c ≠ 46) (h3 : ¬ (48 ≤ c.toNat ∧ c.toNat ≤ 57)) : c ∉ tenL n := fun h => by
  rcases ten_byte h with h | h | h
  · exact h1 h
  · exact h2 h
  · exact h3 h
theorem num_no {n : Int} {c : UInt8} (h1 : c ≠ 45) (h3 : ¬ (48 ≤ c.toNat ∧ c.toNat ≤ 57)) : c ∉ num n := fun h => by
  rcases num_byte h with h | h
  · exact h1 h
  · exact h3 h
/-- The parts between commas. -/
def headL (x : Wea) : List UInt8 := num x.m ++ [58, 32] ++ (tenL x.wi ++ msL ++ num x.f)
def tailL (x : Wea) : List UInt8 := tenL x.d ++ [32, 67]
def stormL : List UInt8 := [115, 116, 111, 114, 109]
theorem wt_parts (x : Wea) : wtL x = headL x ++ [44, 32] ++ (if x.s then tailL x ++ [44, 32] ++ stormL else tailL x) := by
  unfold wtL headL tailL stormL
  cases x.s <;> simp [List.append_assoc]
theorem head_no44 (x : Wea) : (44 : UInt8) ∉ headL x := by
  simp only [headL, msL, List.mem_append]
  rintro ((h | h) | ((h | h) | h))
  · exact num_no (by decide) (by decide) h
  · exact absurd h (by decide)
  · exact ten_no (by decide) (by decide) (by decide) h
  · exact absurd h (by decide)
  · exact num_no (by decide) (by decide) h
theorem tail_no44 (x : Wea) : (44 : UInt8) ∉ tailL x := by
  simp only [tailL, List.mem_append]
  rintro (h | h)
  · exact ten_no (by decide) (by decide) (by decide) h
  · exact absurd h (by decide)
theorem wt_split (x : Wea) : Lib.split (wtL x) [44, 32] = headL x :: tailL x :: (if x.s then [stormL] else []) := by
  rw [wt_parts, split_hit (head_no44 x)]
  cases x.s
  · rw [if_neg (by simp), if_neg (by simp), split_miss (tail_no44 x)]
  · rw [if_pos rfl, if_pos rfl, split_hit (tail_no44 x), split_miss (by decide)]
theorem head_cut (x : Wea) : Lib.cut (headL x) [58, 32] = (num x.m, tenL x.wi ++ msL ++ num x.f, true) := cut_hit (num_no (by decide) (by decide))
theorem rest_cut (x : Wea) : Lib.cut (tenL x.wi ++ msL ++ num x.f) msL = (tenL x.wi, num x.f, true) := cut_hit (ten_no (by decide) (by decide) (by decide))
theorem tail_trim (x : Wea) : Lib.trimSuffix (tailL x) [32, 67] = tenL x.d := by
  have h : Lib.hasSuffix (tailL x) [32, 67] = true := by
    unfold Lib.hasSuffix tailL
    rw [List.isSuffixOf_iff_suffix]
    exact ⟨_, rfl⟩
  unfold Lib.trimSuffix
  rw [h, if_pos rfl]
  simp [tailL]
/-- As the program reads. -/
def wReadI (p0 p1 : List UInt8) (three : Bool) : Wea :=
  let r := Lib.cut p0 [58, 32]
  let q := Lib.cut r.2.1 msL
  ⟨(parseP r.1).1, readT q.1, (parseP q.2.1).1, readT (Lib.trimSuffix p1 [32, 67]), three⟩
theorem okW_at {x : Wea} (h : okW x = true) : (0 ≤ x.m ∧ x.m ≤ 9999) ∧ (0 ≤ x.wi ∧ x.wi ≤ 600) ∧ (0 ≤ x.f ∧ x.f ≤ 359) ∧ (-400 ≤ x.d ∧ x.d ≤ 500) := by
  simp only [okW, Bool.and_eq_true, inR_true] at h
  exact ⟨h.1.1.1, h.1.1.2, h.1.2, h.2⟩
theorem wReadI_text {x : Wea} (h : okW x = true) : wReadI (headL x) (tailL x) x.s = x := by
  obtain ⟨h1, h2, h3, h4⟩ := okW_at h
  unfold wReadI
  simp only [head_cut, rest_cut, tail_trim]
  rw [readT_ten (by omega) (by omega), readT_ten (by omega) (by omega), parseP, readI_num (by omega) (by omega), parseP, readI_num (by omega) (by omega)]
/-- As the reference reads. -/
def wReadS (p0 p1 p4 p5 : List UInt8) (eight : Bool) : Wea := ⟨digL p0, digL p1, digL p4, digL p5, eight⟩
theorem wReadS_text {x : Wea} (h : okW x = true) : wReadS (num x.m ++ [58]) (tenL x.wi) (num x.f ++ [44]) (tenL x.d) x.s = x := by
  obtain ⟨h1, h2, h3, h4⟩ := okW_at h
  unfold wReadS
  rw [digL_sep h1.1 h1.2 (by decide), digL_ten (by omega) (by omega), digL_sep (by omega) (by omega) (by decide), digL_ten (by omega) (by omega)]
theorem wt_words (x : Wea) : spl 32 (wtL x) = (num x.m ++ [58]) :: tenL x.wi :: [109, 47, 115] :: [102, 114, 111, 109] :: (num x.f ++ [44]) :: tenL x.d :: (if x.s then [[67, 44], stormL] else [[67]]) := by
  have e : wtL x = (num x.m ++ [58]) ++ 32 :: (tenL x.wi ++ 32 :: ([109, 47, 115] ++ 32 :: ([102, 114, 111, 109] ++ 32 :: ((num x.f ++ [44]) ++ 32 :: (tenL x.d ++ 32 :: (if x.s then [67, 44] ++ 32 :: stormL else [67])))))) := by
    unfold wtL msL stormL
    cases x.s <;> simp [List.append_assoc]
  have n1 : (32 : UInt8) ∉ num x.m ++ [58] := by
    simp only [List.mem_append]; rintro (h | h)
    · exact num_no (by decide) (by decide) h
    · exact absurd h (by decide)
  have n2 : (32 : UInt8) ∉ num x.f ++ [44] := by
    simp only [List.mem_append]; rintro (h | h)
    · exact num_no (by decide) (by decide) h
    · exact absurd h (by decide)
  have n3 : ∀ n : Int, (32 : UInt8) ∉ tenL n := fun n => ten_no (by decide) (by decide) (by decide)
  rw [e, spl_hit n1, spl_hit (n3 _), spl_hit (by decide), spl_hit (by decide), spl_hit n2, spl_hit (n3 _)]
  cases x.s
  · rw [if_neg (by simp), if_neg (by simp), spl_none (by decide)]
  · rw [if_pos rfl, if_pos rfl, spl_hit (by decide), spl_none (by decide)]
theorem wt_len {x : Wea} (h : okW x = true) : (wtL x).length ≤ 60 := by
  obtain ⟨h1, h2, h3, h4⟩ := okW_at h
  have l1 := num_len7 (n := x.m) (by omega) (by omega)
  have l2 := num_len7 (n := x.f) (by omega) (by omega)
  have lt : ∀ n : Int, -600 ≤ n → n ≤ 600 → (tenL n).length ≤ 6 := fun n a b => by
    have hq := num_len2 (q := n.natAbs / 10) (by omega)
    have hr := num_len2 (q := n.natAbs % 10) (by omega)
    have hl : (tenA n.natAbs).length ≤ 5 := by simp only [tenA, List.length_append, List.length_cons, List.length_nil]; omega
    unfold tenL
    split
    · simp only [List.length_cons]; omega
    · omega
  have l3 := lt x.wi (by omega) (by omega)
  have l4 := lt x.d (by omega) (by omega)
  have l5 : (if x.s then [44, 32, 115, 116, 111, 114, 109] else ([] : List UInt8)).length ≤ 7 := by cases x.s <;> simp
  unfold wtL
  simp only [List.length_append, List.length_cons, List.length_nil, msL]
  omega
/-- The record that a text writes. -/
def wGive (s : List UInt8) (x : Wea) : Wea × Bool := if okW x = true ∧ wtL x = s then (x, true) else (⟨0, 0, 0, 0, false⟩, false)
def pGiveI (s : List UInt8) : Wea × Bool := match Lib.split s [44, 32] with
  | [p0, p1] => wGive s (wReadI p0 p1 false)
  | [p0, p1, _] => wGive s (wReadI p0 p1 true)
  | _ => (⟨0, 0, 0, 0, false⟩, false)
def pGiveS (s : List UInt8) : Wea × Bool := if 60 < s.length then (⟨0, 0, 0, 0, false⟩, false) else match spl 32 s with
  | [p0, p1, _, _, p4, p5, _] => wGive s (wReadS p0 p1 p4 p5 false)
  | [p0, p1, _, _, p4, p5, _, _] => wGive s (wReadS p0 p1 p4 p5 true)
  | _ => (⟨0, 0, 0, 0, false⟩, false)
theorem wGive_no {s : List UInt8} {x : Wea} (h : ∀ y, okW y = true → wtL y ≠ s) : wGive s x = (⟨0, 0, 0, 0, false⟩, false) := by
  unfold wGive
  rw [if_neg fun e => h x e.1 e.2]
theorem wGive_yes {x : Wea} (h : okW x = true) : wGive (wtL x) x = (x, true) := by unfold wGive; rw [if_pos ⟨h, rfl⟩]
theorem pGiveI_yes {x : Wea} (h : okW x = true) : pGiveI (wtL x) = (x, true) := by
  unfold pGiveI
  rw [wt_split]
  have hr := wReadI_text h
  rcases hs : x.s with _ | _
  · rw [hs] at hr
    simp only [Bool.false_eq_true, if_false, hr, wGive_yes h]
  · rw [hs] at hr
    simp only [if_true, hr, wGive_yes h]
theorem pGiveS_yes {x : Wea} (h : okW x = true) : pGiveS (wtL x) = (x, true) := by
  unfold pGiveS
  rw [if_neg (by have := wt_len h; omega), wt_words]
  have hr := wReadS_text h
  rcases hs : x.s with _ | _
  · rw [hs] at hr
    simp only [Bool.false_eq_true, if_false, hr, wGive_yes h]
  · rw [hs] at hr
    simp only [if_true, hr, wGive_yes h]
theorem pGive_no {s : List UInt8} (h : ∀ y, okW y = true → wtL y ≠ s) : pGiveI s = (⟨0, 0, 0, 0, false⟩, false) ∧ pGiveS s = (⟨0, 0, 0, 0, false⟩, false) := by
  constructor
  · unfold pGiveI
    split
    · exact wGive_no h
    · exact wGive_no h
    · rfl
  · unfold pGiveS
    split
    · rfl
    · split
      · exact wGive_no h
      · exact wGive_no h
      · rfl
/-- The two are one. -/
theorem pGive_same (s : List UInt8) : pGiveI s = pGiveS s := by
  by_cases h : ∃ y, okW y = true ∧ wtL y = s
  · obtain ⟨y, hy, rfl⟩ := h
    rw [pGiveI_yes hy, pGiveS_yes hy]
  · have h' : ∀ y, okW y = true → wtL y ≠ s := fun y hy e => h ⟨y, hy, e⟩
    rw [(pGive_no h').1, (pGive_no h').2]
end Go.Proofs.YtmlcaaciofbpgaaDoor
