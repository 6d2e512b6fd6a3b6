/- The text of a cabin read back, in plain lists of bytes: as the program reads it and as the reference does; no conditions beyond those of each statement. -/
import Derived.Test.YteoajaichjojdaaDoorCabT
import Derived.Test.YteoajaichjojdaaDoorParseI
import Derived.Test.YteoajaichjojdaaDoorWords
import Derived.Lib.Strings
namespace Go.Proofs.YteoajaichjojdaaDoor

theorem num_digit {n : Nat} {b : UInt8} (h : b ∈ num (n : Int)) : 48 ≤ b.toNat ∧ b.toNat ≤ 57 := by
  unfold num Lib.itoa at h
  rw [if_neg (by omega)] at h
  exact dec_digit _ b h
theorem num_len2 {q : Nat} (h : q < 100) : (num (q : Int)).length ≤ 2 := by
  by_cases h10 : q < 10
  · rw [num_small h10]; simp
  · rw [num_big h10, num_small (show q / 10 < 10 by omega)]; simp
theorem num_no {n : Int} {c : UInt8} (h1 : c ≠ 45) (h3 : ¬ (48 ≤ c.toNat ∧ c.toNat ≤ 57)) : c ∉ num n := fun h => by
  rcases num_byte h with h | h
  · exact h1 h
  · exact h3 h
theorem stN_no {t : Int} {c : UInt8} (h : c = 44 ∨ c = 58) : c ∉ stN t := by
  unfold stN
  rcases h with rfl | rfl <;> (split <;> (try split) <;> (try split) <;> decide)
def cab6 : List UInt8 := [99, 97, 98, 105, 110, 32]
def seat6 : List UInt8 := [32, 115, 101, 97, 116, 115]
def kg3 : List UInt8 := [32, 107, 103]
def trip6 : List UInt8 := [32, 116, 114, 105, 112, 115]
/-- The parts between commas. -/
def cp0 (x : Cbn) : List UInt8 := (cab6 ++ num x.n) ++ [58, 32] ++ (num x.s ++ seat6)
def cp1 (x : Cbn) : List UInt8 := num x.e ++ kg3
def cp3 (x : Cbn) : List UInt8 := num x.r ++ trip6
theorem cab_parts (x : Cbn) : cabL x = cp0 x ++ [44, 32] ++ (cp1 x ++ [44, 32] ++ (stN x.t ++ [44, 32] ++ cp3 x)) := by
  unfold cabL cp0 cp1 cp3 cab6 seat6 kg3 trip6
  simp [List.append_assoc]
theorem cp0_no (x : Cbn) : (44 : UInt8) ∉ cp0 x := by
  simp only [cp0, List.mem_append]
  rintro (((h | h) | h) | (h | h))
  · exact absurd h (by decide)
  · exact num_no (by decide) (by decide) h
  · exact absurd h (by decide)
  · exact num_no (by decide) (by decide) h
  · exact absurd h (by decide)
theorem cp1_no (x : Cbn) : (44 : UInt8) ∉ cp1 x := by
  simp only [cp1, List.mem_append]
  rintro (h | h)
  · exact num_no (by decide) (by decide) h
  · exact absurd h (by decide)
theorem cp3_no (x : Cbn) : (44 : UInt8) ∉ cp3 x := by
  simp only [cp3, List.mem_append]
  rintro (h | h)
  · exact num_no (by decide) (by decide) h
  · exact absurd h (by decide)
theorem cab_split (x : Cbn) : Lib.split (cabL x) [44, 32] = [cp0 x, cp1 x, stN x.t, cp3 x] := by
  rw [cab_parts, split_hit (cp0_no x), split_hit (cp1_no x), split_hit (stN_no (.inl rfl)), split_miss (cp3_no x)]
theorem cp0_cut (x : Cbn) : Lib.cut (cp0 x) [58, 32] = (cab6 ++ num x.n, num x.s ++ seat6, true) := by
  refine cut_hit ?_
  simp only [List.mem_append]
  rintro (h | h)
  · exact absurd h (by decide)
  · exact num_no (by decide) (by decide) h
theorem trim_pre (p l : List UInt8) : Lib.trimPrefix (p ++ l) p = l := by
  unfold Lib.trimPrefix Lib.hasPrefix
  rw [pre_self, if_pos rfl]; simp
theorem trim_suf (l p : List UInt8) : Lib.trimSuffix (l ++ p) p = l := by
  have h : Lib.hasSuffix (l ++ p) p = true := by
    unfold Lib.hasSuffix
    rw [List.isSuffixOf_iff_suffix]
    exact ⟨_, rfl⟩
  unfold Lib.trimSuffix
  rw [h, if_pos rfl]
  simp
/-- The number of a state's name. -/
def stI (p : List UInt8) : Int := if p = stN 0 then 0 else if p = stN 1 then 1 else if p = stN 2 then 2 else if p = stN 3 then 3 else -1
theorem stI_name {t : Int} (h0 : 0 ≤ t) (h1 : t ≤ 3) : stI (stN t) = t := by
  have : t = 0 ∨ t = 1 ∨ t = 2 ∨ t = 3 := by omega
  rcases this with rfl | rfl | rfl | rfl <;> decide
/-- As the program reads. -/
def cReadI (p0 p1 p2 p3 : List UInt8) : Cbn :=
  ⟨(parseP (Lib.trimPrefix (Lib.cut p0 [58, 32]).1 cab6)).1, (parseP (Lib.trimSuffix (Lib.cut p0 [58, 32]).2.1 seat6)).1, (parseP (Lib.trimSuffix p1 kg3)).1, stI p2, (parseP (Lib.trimSuffix p3 trip6)).1⟩
theorem parse_num {n : Int} (h0 : -999999 ≤ n) (h1 : n ≤ 999999) : (parseP (num n)).1 = n := by rw [parseP, readI_num h0 h1]
theorem cReadI_text {x : Cbn} (h : okC x = true) : cReadI (cp0 x) (cp1 x) (stN x.t) (cp3 x) = x := by
  obtain ⟨h1, h2, h3, h4, h5⟩ := okC_true.1 h
  unfold cReadI
  rw [cp0_cut]
  simp only [cp1, cp3, trim_pre, trim_suf]
  rw [parse_num (by omega) (by omega), parse_num (by omega) (by omega), parse_num (by omega) (by omega), parse_num (by omega) (by omega), stI_name h4.1 h4.2]
/-- As the reference reads. -/
def cReadS (ws : List (List UInt8)) : Cbn :=
  ⟨(parseP ((ws.getD 1 []).take ((ws.getD 1 []).length - 1))).1, (parseP (ws.getD 2 [])).1, (parseP (ws.getD 4 [])).1, 0, (parseP (ws.getD (ws.length - 2) [])).1⟩
theorem cab_words (x : Cbn) : spl 32 (cabL x) = [99, 97, 98, 105, 110] :: (num x.n ++ [58]) :: num x.s :: [115, 101, 97, 116, 115, 44] :: num x.e :: [107, 103, 44] :: (if x.t = 1 then [[111, 110], [108, 105, 110, 101, 44], num x.r, [116, 114, 105, 112, 115]] else [stN x.t ++ [44], num x.r, [116, 114, 105, 112, 115]]) := by
  have e : cabL x = [99, 97, 98, 105, 110] ++ 32 :: ((num x.n ++ [58]) ++ 32 :: (num x.s ++ 32 :: ([115, 101, 97, 116, 115, 44] ++ 32 :: (num x.e ++ 32 :: ([107, 103, 44] ++ 32 :: (if x.t = 1 then [111, 110] ++ 32 :: ([108, 105, 110, 101, 44] ++ 32 :: (num x.r ++ 32 :: [116, 114, 105, 112, 115])) else (stN x.t ++ [44]) ++ 32 :: (num x.r ++ 32 :: [116, 114, 105, 112, 115]))))))) := by
    unfold cabL
    split
    · next h => rw [h]; simp [stN, List.append_assoc]
    · simp [List.append_assoc]
  have n0 : ∀ n : Int, (32 : UInt8) ∉ num n := fun n => num_no (by decide) (by decide)
  have n1 : (32 : UInt8) ∉ num x.n ++ [58] := by
    simp only [List.mem_append]; rintro (h | h)
    · exact n0 _ h
    · exact absurd h (by decide)
  rw [e, spl_hit (by decide), spl_hit n1, spl_hit (n0 _), spl_hit (by decide), spl_hit (n0 _), spl_hit (by decide)]
  by_cases h : x.t = 1
  · rw [if_pos h, if_pos h, spl_hit (by decide), spl_hit (by decide), spl_hit (n0 _), spl_none (by decide)]
  · have n2 : (32 : UInt8) ∉ stN x.t ++ [44] := by
      unfold stN
      rw [if_neg h]
      split <;> (try split) <;> decide
    rw [if_neg h, if_neg h, spl_hit n2, spl_hit (n0 _), spl_none (by decide)]
def zC : Cbn := ⟨0, 0, 0, 0, 0⟩
def withT (x : Cbn) (t : Int) : Cbn := ⟨x.n, x.s, x.e, t, x.r⟩
theorem cReadS_text {x : Cbn} (h : okC x = true) : cReadS (spl 32 (cabL x)) = withT x 0 ∧ ((spl 32 (cabL x)).length = 9 ∨ (spl 32 (cabL x)).length = 10) ∧ 2 ≤ ((spl 32 (cabL x)).getD 1 []).length := by
  obtain ⟨h1, h2, h3, h4, h5⟩ := okC_true.1 h
  have hn : 1 ≤ (num x.n).length := by
    rcases hq : num x.n with _ | ⟨b, l⟩
    · exact absurd hq (num_ne _)
    · simp
  rw [cab_words]
  have a1 := parse_num (n := x.n) (by omega) (by omega)
  have a2 := parse_num (n := x.s) (by omega) (by omega)
  have a3 := parse_num (n := x.e) (by omega) (by omega)
  have a4 := parse_num (n := x.r) (by omega) (by omega)
  by_cases ht : x.t = 1
  · rw [if_pos ht]
    refine ⟨?_, .inr rfl, by simp; omega⟩
    simp [cReadS, withT, a1, a2, a3, a4]
  · rw [if_neg ht]
    refine ⟨?_, .inl rfl, by simp; omega⟩
    simp [cReadS, withT, a1, a2, a3, a4]
theorem cab_len {x : Cbn} (h : okC x = true) : (cabL x).length ≤ 60 := by
  obtain ⟨h1, h2, h3, h4, h5⟩ := okC_true.1 h
  obtain ⟨a, ha⟩ : ∃ a : Nat, x.n = a := ⟨x.n.toNat, by omega⟩
  obtain ⟨b, hb⟩ : ∃ b : Nat, x.s = b := ⟨x.s.toNat, by omega⟩
  have l1 := num_len2 (q := a) (by omega)
  have l2 := num_len2 (q := b) (by omega)
  have l3 := num_len7 (n := x.e) (by omega) (by omega)
  have l4 := num_len7 (n := x.r) (by omega) (by omega)
  have l5 := stN_len x.t
  unfold cabL
  rw [ha, hb]
  simp only [List.length_append, List.length_cons, List.length_nil]
  omega
/-- The cabin that a text writes. -/
def cGive (s : List UInt8) (x : Cbn) : Cbn × Bool := if okC x = true ∧ cabL x = s then (x, true) else (zC, false)
def pCabI (s : List UInt8) : Cbn × Bool :=
  if (Lib.split s [44, 32]).length = 4 then cGive s (cReadI ((Lib.split s [44, 32]).getD 0 []) ((Lib.split s [44, 32]).getD 1 []) ((Lib.split s [44, 32]).getD 2 []) ((Lib.split s [44, 32]).getD 3 [])) else (zC, false)
/-- The states from the (4 - m)-th on are tried. -/
def cScan (s : List UInt8) (x : Cbn) : Nat → Cbn × Bool
  | 0 => (zC, false)
  | m + 1 => if okC (withT x (3 - m)) = true ∧ cabL (withT x (3 - m)) = s then (withT x (3 - m), true) else cScan s x m
def wordsOk (s : List UInt8) : Bool := decide (s.length ≤ 60) && (decide ((spl 32 s).length = 9) || decide ((spl 32 s).length = 10)) && decide (2 ≤ ((spl 32 s).getD 1 []).length)
def pCabS (s : List UInt8) : Cbn × Bool := if wordsOk s then cScan s (cReadS (spl 32 s)) 4 else (zC, false)
theorem cGive_no {s : List UInt8} {x : Cbn} (h : ∀ y, okC y = true → cabL y ≠ s) : cGive s x = (zC, false) := by
  unfold cGive
  rw [if_neg fun e => h x e.1 e.2]
theorem cScan_no {s : List UInt8} {x : Cbn} (h : ∀ y, okC y = true → cabL y ≠ s) : ∀ m, cScan s x m = (zC, false)
  | 0 => rfl
  | m + 1 => by rw [cScan, if_neg fun e => h _ e.1 e.2, cScan_no h m]
theorem pCabI_yes {x : Cbn} (h : okC x = true) : pCabI (cabL x) = (x, true) := by
  unfold pCabI
  rw [cab_split, if_pos (show [cp0 x, cp1 x, stN x.t, cp3 x].length = 4 from rfl)]
  show cGive (cabL x) (cReadI (cp0 x) (cp1 x) (stN x.t) (cp3 x)) = _
  rw [cReadI_text h, cGive, if_pos ⟨h, rfl⟩]
theorem cab_inj {x y : Cbn} (hx : okC x = true) (hy : okC y = true) (h : cabL x = cabL y) : x = y := by
  have h1 := pCabI_yes hx
  rw [h, pCabI_yes hy] at h1
  exact (congrArg Prod.fst h1).symm
theorem cScan_yes {c : Cbn} (hc : okC c = true) : ∀ m : Nat, m ≤ 4 → 4 - (m : Int) ≤ c.t → cScan (cabL c) (withT c 0) m = (c, true)
  | 0, _, h => by have := (okC_true.1 hc).2.2.2.1; omega
  | m + 1, hm, h => by
    rw [cScan]
    have hw : withT (withT c 0) (3 - m) = withT c (3 - m) := rfl
    rw [hw]
    by_cases e : c.t = 3 - (m : Int)
    · have : withT c (3 - m) = c := by rw [← e]; rfl
      rw [this, if_pos ⟨hc, rfl⟩]
    · rw [if_neg fun q => e ?_, cScan_yes hc m (by omega) (by omega)]
      have := cab_inj q.1 hc q.2
      have h2 := congrArg Cbn.t this
      exact h2.symm
theorem pCabS_yes {x : Cbn} (h : okC x = true) : pCabS (cabL x) = (x, true) := by
  obtain ⟨h1, h2, h3⟩ := cReadS_text h
  have hw : wordsOk (cabL x) = true := by
    unfold wordsOk
    rw [decide_eq_true (cab_len h), decide_eq_true h3]
    rcases h2 with h2 | h2 <;> simp [h2]
  rw [pCabS, hw, if_pos rfl, h1, cScan_yes h 4 (Nat.le_refl _) (by have := (okC_true.1 h).2.2.2.1; omega)]
theorem pCab_same (s : List UInt8) : pCabI s = pCabS s := by
  by_cases h : ∃ y, okC y = true ∧ cabL y = s
  · obtain ⟨y, hy, rfl⟩ := h
    rw [pCabI_yes hy, pCabS_yes hy]
  · have h' : ∀ y, okC y = true → cabL y ≠ s := fun y hy e => h ⟨y, hy, e⟩
    have h1 : pCabI s = (zC, false) := by
      unfold pCabI
      split
      · exact cGive_no h'
      · rfl
    have h2 : pCabS s = (zC, false) := by
      unfold pCabS
      split
      · exact cScan_no h' 4
      · rfl
    rw [h1, h2]
end Go.Proofs.YteoajaichjojdaaDoor
