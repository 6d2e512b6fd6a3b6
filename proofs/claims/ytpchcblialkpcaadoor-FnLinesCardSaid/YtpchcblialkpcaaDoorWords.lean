/- Texts cut at a separator, in plain lists of bytes; no conditions beyond those of each statement. -/
import Derived.Test.YtpchcblialkpcaaDoorText
import Derived.Lib.Split
import Derived.Lib.IndexMore
namespace Go.Proofs.YtpchcblialkpcaaDoor

theorem idx_miss {c : UInt8} {r : List UInt8} : ∀ {s : List UInt8}, c ∉ s → Lib.index s (c :: r) = -1
  | [], _ => by simp [Lib.index]
  | x :: s, h => by
    have h1 : c ≠ x ∧ c ∉ s := by simpa using h
    have hp : (c :: r).isPrefixOf (x :: s) = false := by simp [List.isPrefixOf, h1.1]
    unfold Lib.index
    rw [hp, idx_miss h1.2]; rfl
theorem pre_self : ∀ (r b : List UInt8), r.isPrefixOf (r ++ b) = true
  | [], b => by simp
  | x :: r, b => by simp [List.isPrefixOf, pre_self r b]
theorem idx_hit {c : UInt8} {r b : List UInt8} : ∀ {a : List UInt8}, c ∉ a → Lib.index (a ++ (c :: r) ++ b) (c :: r) = a.length
  | [], _ => by
    have hp : (c :: r).isPrefixOf (c :: (r ++ b)) = true := pre_self (c :: r) b
    show Lib.index (c :: (r ++ b)) (c :: r) = _
    unfold Lib.index
    rw [hp]; rfl
  | x :: a, h => by
    have h1 : c ≠ x ∧ c ∉ a := by simpa using h
    have hp : (c :: r).isPrefixOf (x :: (a ++ (c :: r) ++ b)) = false := by simp [List.isPrefixOf, h1.1]
    show Lib.index (x :: (a ++ (c :: r) ++ b)) (c :: r) = _
    unfold Lib.index
    rw [hp, idx_hit h1.2]
    have : ((a.length : Int) == -1) = false := by rw [beq_eq_false_iff_ne]; omega
    simp [this]
section
variable {c : UInt8} {r a b s : List UInt8}
theorem cut_hit (h : c ∉ a) : Lib.cut (a ++ (c :: r) ++ b) (c :: r) = (a, b, true) := by
  unfold Lib.cut
  rw [idx_hit h, if_pos (by omega)]
  simp
theorem cut_miss (h : c ∉ s) : Lib.cut s (c :: r) = (s, [], false) := by
  unfold Lib.cut
  rw [idx_miss h, if_neg (by omega)]
theorem split_miss (h : c ∉ s) : Lib.split s (c :: r) = [s] := by
  unfold Lib.split
  rw [Lib.count_miss (idx_miss h)]; rfl
theorem split_hit (h : c ∉ a) : Lib.split (a ++ (c :: r) ++ b) (c :: r) = a :: Lib.split b (c :: r) := by
  have hd : (a ++ (c :: r) ++ b).drop (a.length + (c :: r).length) = b := by
    rw [← List.length_append, List.drop_left]
  have ht : (a ++ (c :: r) ++ b).take a.length = a := by
    rw [List.append_assoc, List.take_left]
  unfold Lib.split
  rw [Lib.count_hit (by simp) (idx_hit h), hd, Nat.add_comm, Lib.splitK]
  rw [idx_hit h]
  have : ((a.length : Int) == -1) = false := by rw [beq_eq_false_iff_ne]; omega
  rw [this]
  simp only [Bool.false_eq_true, if_false, Int.toNat_natCast, Nat.add_zero]
  rw [hd, ht]
theorem contains_one : decide (0 ≤ Lib.indexByte s c) = decide (c ∈ s) := by
  rcases h : decide (c ∈ s) with _ | _
  · have hn : c ∉ s := by simpa using h
    have : Lib.indexByte s c = -1 := by
      induction s with
      | nil => rfl
      | cons x s ih =>
        have h1 : c ≠ x ∧ c ∉ s := by simpa using hn
        unfold Lib.indexByte
        rw [ih (by simpa using h1.2) h1.2]
        simp [Ne.symm h1.1]
    rw [this]; rfl
  · have hm : c ∈ s := by simpa using h
    clear h
    have : 0 ≤ Lib.indexByte s c := by
      induction s with
      | nil => cases hm
      | cons x s ih =>
        unfold Lib.indexByte
        by_cases e : x = c
        · simp [e]
        · have := ih (by rcases List.mem_cons.1 hm with h | h; · exact absurd h.symm e
                         · exact h)
          simp only [beq_iff_eq, e, if_false]
          split <;> omega
    simpa using this
end
/-- A text cut at every byte c. -/
def spl (c : UInt8) : List UInt8 → List (List UInt8)
  | [] => [[]]
  | x :: l => if x = c then [] :: spl c l else match spl c l with
    | [] => [[x]]
    | h :: t => (x :: h) :: t
theorem spl_ne (c : UInt8) : ∀ l, spl c l ≠ []
  | [] => by simp [spl]
  | x :: l => by
    rw [spl]; split
    · simp
    · split <;> simp
theorem spl_none {c : UInt8} : ∀ {l : List UInt8}, c ∉ l → spl c l = [l]
  | [], _ => rfl
  | x :: l, h => by
    have h1 : c ≠ x ∧ c ∉ l := by simpa using h
    rw [spl, if_neg (Ne.symm h1.1), spl_none h1.2]
theorem spl_hit {c : UInt8} {b : List UInt8} : ∀ {a : List UInt8}, c ∉ a → spl c (a ++ c :: b) = a :: spl c b
  | [], _ => by simp [spl]
  | x :: a, h => by
    have h1 : c ≠ x ∧ c ∉ a := by simpa using h
    rw [List.cons_append, spl, if_neg (Ne.symm h1.1), spl_hit h1.2]
end Go.Proofs.YtpchcblialkpcaaDoor
