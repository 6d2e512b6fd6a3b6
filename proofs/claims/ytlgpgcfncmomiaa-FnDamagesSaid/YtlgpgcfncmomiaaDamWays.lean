/- Damages of ropes in plain lists: what is broken in a window, what an added damage changes, what a good rope carries; no conditions beyond those of each statement. -/
import Derived.Test.YtlgpgcfncmomiaaDamage
namespace Go.Proofs.Ytlgpgcfncmomiaa
open Go.RowKit

def okKd (k : Kin) : Bool := inR k.i 1 20 && inR k.st 4 8 && inR k.wi 7 40 && inR k.we 10 500 && inR k.sg 10 5000
def okDm (k : Kin) (d : Dam) : Bool := inR d.a 0 3000 && inR d.s 0 (k.st - 1) && inR d.w 1 k.wi
def ltD (x y : Dam) : Bool := decide (x.a < y.a) || (decide (x.a = y.a) && decide (x.s < y.s))
def prevD (l : List Dam) (i : Nat) : Bool := decide (i = 0) || ltD (nth l (i - 1)) (nth l i)
def goodD (k : Kin) (l : List Dam) : Bool := okKd k && allTo l.length (fun i => okDm k (nth l i) && prevD l i) && decide (l.length ≤ 15)
theorem okKd_true {k : Kin} : okKd k = true ↔ (1 ≤ k.i ∧ k.i ≤ 20) ∧ (4 ≤ k.st ∧ k.st ≤ 8) ∧ (7 ≤ k.wi ∧ k.wi ≤ 40) ∧ (10 ≤ k.we ∧ k.we ≤ 500) ∧ (10 ≤ k.sg ∧ k.sg ≤ 5000) := by
  simp only [okKd, Bool.and_eq_true, inR_true, and_assoc]
theorem okDm_true {k : Kin} {d : Dam} : okDm k d = true ↔ (0 ≤ d.a ∧ d.a ≤ 3000) ∧ (0 ≤ d.s ∧ d.s ≤ k.st - 1) ∧ (1 ≤ d.w ∧ d.w ≤ k.wi) := by
  simp only [okDm, Bool.and_eq_true, inR_true, and_assoc]
theorem goodD_true {k : Kin} {l : List Dam} (h : goodD k l = true) : okKd k = true ∧ l.length ≤ 15 ∧ (∀ i, i < l.length → okDm k (nth l i) = true) ∧ ∀ i, i + 1 < l.length → ltD (nth l i) (nth l (i + 1)) = true := by
  simp only [goodD, Bool.and_eq_true, decide_eq_true_eq, allTo_true] at h
  refine ⟨h.1.1, h.2, fun i hi => (h.1.2 i hi).1, fun i hi => ?_⟩
  have := (h.1.2 (i + 1) hi).2
  simp only [prevD, Bool.or_eq_true, decide_eq_true_eq, Nat.add_sub_cancel] at this
  rcases this with h | h
  · omega
  · exact h
/-- The broken wires of a window, of one strand or (a number below 0) of all. -/
def hitD (f n s : Int) (d : Dam) : Bool := inR d.a f (f + n - 1) && (decide (s < 0) || decide (d.s = s))
def brokL (f n s : Int) : List Dam → Int
  | [] => 0
  | d :: l => (if hitD f n s d = true then d.w else 0) + brokL f n s l
theorem brokL_app (f n s : Int) : ∀ a b : List Dam, brokL f n s (a ++ b) = brokL f n s a + brokL f n s b
  | [], b => by simp [brokL]
  | d :: a, b => by rw [List.cons_append, brokL, brokL, brokL_app f n s a b]; omega
def brokTo (l : List Dam) (f n s : Int) (k : Nat) : Int := brokL f n s (l.take k)
theorem brokTo_succ {l : List Dam} {f n s : Int} {k : Nat} (hk : k < l.length) : brokTo l f n s (k + 1) = brokTo l f n s k + (if hitD f n s (nth l k) = true then (nth l k).w else 0) := by
  unfold brokTo
  rw [List.take_succ_eq_append_getElem hk, brokL_app, nth_eq hk]
  simp [brokL]
theorem brok_bd {l : List Dam} {f n s : Int} (hl : ∀ i, i < l.length → 0 ≤ (nth l i).w ∧ (nth l i).w ≤ 40) : ∀ k, k ≤ l.length → 0 ≤ brokTo l f n s k ∧ brokTo l f n s k ≤ 40 * k
  | 0, _ => by simp [brokTo, brokL]
  | k + 1, hk => by
    have ih := brok_bd (f := f) (n := n) (s := s) hl k (by omega)
    have := hl k (by omega)
    rw [brokTo_succ (by omega)]; split <;> omega
def brok (l : List Dam) (f n s : Int) : Int := brokTo l f n s l.length
/-- The broken wires of the worst window. -/
def mostTo (l : List Dam) (n s : Int) : Nat → Int
  | 0 => 0
  | k + 1 => max (mostTo l n s k) (brok l (nth l k).a n s)
def most (l : List Dam) (n s : Int) : Int := mostTo l n s l.length
theorem most_bd {l : List Dam} {n s : Int} (hl : ∀ i, i < l.length → 0 ≤ (nth l i).w ∧ (nth l i).w ≤ 40) (h15 : l.length ≤ 15) : ∀ k, k ≤ l.length → 0 ≤ mostTo l n s k ∧ mostTo l n s k ≤ 600
  | 0, _ => by simp [mostTo]
  | k + 1, hk => by
    have ih := most_bd (n := n) (s := s) hl h15 k (by omega)
    have := brok_bd (f := (nth l k).a) (n := n) (s := s) hl l.length (Nat.le_refl _)
    rw [mostTo]; unfold brok; omega

/-! An added damage. -/
def scanD (l : List Dam) (d : Dam) : Nat := (l.takeWhile fun y => ltD y d).length
theorem scanD_le (l : List Dam) (d : Dam) : scanD l d ≤ l.length := (List.takeWhile_sublist _).length_le
def sameD (x y : Dam) : Bool := decide (x.a = y.a) && decide (x.s = y.s)
def knownD (l : List Dam) (d : Dam) : Bool := decide (scanD l d < l.length) && sameD (nth l (scanD l d)) d
def putD (l : List Dam) (d : Dam) : List Dam :=
  if knownD l d = true then l.take (scanD l d) ++ ⟨d.a, d.s, (nth l (scanD l d)).w + d.w⟩ :: l.drop (scanD l d + 1) else l.take (scanD l d) ++ d :: l.drop (scanD l d)
def addD (k : Kin) (l : List Dam) (d : Dam) : List Dam × Bool := if goodD k l && decide (1 ≤ d.w) && goodD k (putD l d) then (putD l d, true) else ([], false)
theorem putD_at {l : List Dam} {d : Dam} : scanD l d < (putD l d).length ∧ (nth (putD l d) (scanD l d)).a = d.a ∧ (nth (putD l d) (scanD l d)).s = d.s ∧ (nth (putD l d) (scanD l d)).w = d.w + (if knownD l d = true then (nth l (scanD l d)).w else 0) := by
  have hs := scanD_le l d
  have H : ∀ (x : Dam) (r : List Dam), scanD l d < (l.take (scanD l d) ++ x :: r).length ∧ nth (l.take (scanD l d) ++ x :: r) (scanD l d) = x := fun x r => by
    refine ⟨by simp; omega, ?_⟩
    unfold nth
    rw [List.getD_eq_getElem?_getD, List.getElem?_append_right (by rw [List.length_take]; omega), List.length_take, show scanD l d - min (scanD l d) l.length = 0 by omega]
    rfl
  unfold putD
  rcases hk : knownD l d with _ | _
  · rw [if_neg (by simp)]
    obtain ⟨a, b⟩ := H d (l.drop (scanD l d))
    rw [b]; exact ⟨a, rfl, rfl, by simp⟩
  · rw [if_pos rfl]
    obtain ⟨a, b⟩ := H ⟨d.a, d.s, (nth l (scanD l d)).w + d.w⟩ (l.drop (scanD l d + 1))
    rw [b]; exact ⟨a, rfl, rfl, by simp; omega⟩
/-- What the program asks of the damage follows from what it makes of the list. -/
theorem okDm_of {k : Kin} {l : List Dam} {d : Dam} (hg : goodD k l = true) (hw : 1 ≤ d.w) (hp : goodD k (putD l d) = true) : okDm k d = true := by
  obtain ⟨h1, h2, h3, h4⟩ := putD_at (l := l) (d := d)
  have := okDm_true.1 ((goodD_true hp).2.2.1 _ h1)
  rw [h2, h3, h4] at this
  rw [okDm_true]
  refine ⟨this.1, this.2.1, hw, ?_⟩
  by_cases hk : knownD l d = true
  · rw [if_pos hk] at this
    have hlt : scanD l d < l.length := by simp only [knownD, Bool.and_eq_true, decide_eq_true_eq] at hk; exact hk.1
    have := (okDm_true.1 ((goodD_true hg).2.2.1 _ hlt)).2.2
    omega
  · rw [if_neg hk] at this; omega
/-- An added damage is broken wires more at its place. -/
theorem brok_put {l : List Dam} {d : Dam} {f n s : Int} : brok (putD l d) f n s = brok l f n s + (if hitD f n s d = true then d.w else 0) := by
  have hs := scanD_le l d
  have e : ∀ g : List Dam, brok g f n s = brokL f n s g := fun g => by unfold brok brokTo; rw [List.take_length]
  rw [e, e]
  unfold putD
  rcases hk : knownD l d with _ | _
  · rw [if_neg (by simp), brokL_app, brokL]
    have h0 : brokL f n s l = brokL f n s (l.take (scanD l d)) + brokL f n s (l.drop (scanD l d)) := by rw [← brokL_app, List.take_append_drop]
    omega
  · rw [if_pos rfl, brokL_app, brokL]
    simp only [knownD, sameD, Bool.and_eq_true, decide_eq_true_eq] at hk
    obtain ⟨hlt, ha, hss⟩ := hk
    have h0 : brokL f n s l = brokL f n s (l.take (scanD l d)) + ((if hitD f n s (nth l (scanD l d)) = true then (nth l (scanD l d)).w else 0) + brokL f n s (l.drop (scanD l d + 1))) := by
      conv => lhs; rw [← List.take_append_drop (scanD l d) l]
      rw [brokL_app, List.drop_eq_getElem_cons hlt, brokL, nth_eq hlt]
    have hh : hitD f n s (nth l (scanD l d)) = hitD f n s d := by unfold hitD; rw [ha, hss]
    have hh2 : hitD f n s ⟨d.a, d.s, (nth l (scanD l d)).w + d.w⟩ = hitD f n s d := rfl
    rw [hh] at h0
    rw [hh2, h0]
    dsimp only
    split <;> omega
theorem hit_self {d : Dam} : hitD d.a 1 (-1) d = true := by simp [hitD, inR]

/-! What a rope carries. -/
def allW (k : Kin) : Int := k.st * k.wi
def leftS (k : Kin) (l : List Dam) : Int := k.sg * max (allW k - most l 10 (-1)) 0 / allW k
def repl (k : Kin) (l : List Dam) : Bool := decide (allW k < 20 * most l 10 (-1)) || anyTo k.st.toNat (fun j => decide (k.wi < 2 * most l 10 j))
theorem allW_bd {k : Kin} (h : okKd k = true) : 28 ≤ allW k ∧ allW k ≤ 320 := by
  obtain ⟨_, ⟨a, b⟩, ⟨c, d⟩, _⟩ := okKd_true.1 h
  unfold allW
  have h1 : 4 * 7 ≤ k.st * k.wi := Int.mul_le_mul a c (by omega) (by omega)
  have h2 : k.st * k.wi ≤ 8 * 40 := Int.mul_le_mul b d (by omega) (by omega)
  omega
theorem left_bd {k : Kin} {l : List Dam} (h : okKd k = true) (h0 : 0 ≤ most l 10 (-1)) : 0 ≤ leftS k l ∧ leftS k l ≤ k.sg := by
  have ha := allW_bd h
  obtain ⟨_, _, _, _, ⟨s1, s2⟩⟩ := okKd_true.1 h
  unfold leftS
  constructor
  · exact Int.ediv_nonneg (Int.mul_nonneg (by omega) (by omega)) (by omega)
  · have : k.sg * max (allW k - most l 10 (-1)) 0 ≤ k.sg * allW k := Int.mul_le_mul_of_nonneg_left (by omega) (by omega)
    exact Int.ediv_le_of_le_mul (by omega) this
/-- A good rope has all of its strength but a twentieth. -/
theorem good_left {k : Kin} {l : List Dam} (h : okKd k = true) (h0 : 0 ≤ most l 10 (-1)) (hr : repl k l = false) : 19 * k.sg ≤ 20 * (leftS k l + 1) := by
  have ha := allW_bd h
  obtain ⟨_, _, _, _, ⟨s1, s2⟩⟩ := okKd_true.1 h
  simp only [repl, Bool.or_eq_false_iff, decide_eq_false_iff_not] at hr
  obtain ⟨m, hm⟩ : ∃ m, most l 10 (-1) = m := ⟨_, rfl⟩
  rw [hm] at hr h0
  unfold leftS
  rw [hm, show max (allW k - m) 0 = allW k - m by omega]
  obtain ⟨A, hA⟩ : ∃ A, allW k = A := ⟨_, rfl⟩
  rw [hA] at ha hr ⊢
  obtain ⟨x, hx⟩ : ∃ x, k.sg * (A - m) = x := ⟨_, rfl⟩
  rw [hx]
  have h1 : x < (x / A + 1) * A := Int.lt_ediv_add_one_mul_self x (by omega)
  have h2 : k.sg * (19 * A) ≤ k.sg * (20 * (A - m)) := Int.mul_le_mul_of_nonneg_left (by omega) (by omega)
  have h3 : k.sg * (20 * (A - m)) = 20 * x := by rw [← hx, ← Int.mul_assoc, Int.mul_comm k.sg 20, Int.mul_assoc]
  have h4 : k.sg * (19 * A) = (19 * k.sg) * A := by rw [← Int.mul_assoc, Int.mul_comm k.sg 19]
  have h5 : 20 * ((x / A + 1) * A) = (20 * (x / A + 1)) * A := by rw [Int.mul_assoc]
  have h6 : (19 * k.sg) * A < (20 * (x / A + 1)) * A := by omega
  exact Int.le_of_lt (Int.lt_of_mul_lt_mul_right h6 (by omega))
end Go.Proofs.Ytlgpgcfncmomiaa
