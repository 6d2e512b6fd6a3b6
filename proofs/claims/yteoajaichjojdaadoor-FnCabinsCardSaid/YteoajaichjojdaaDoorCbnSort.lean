/- The library's stable sort of at most twelve cabins, of the call's own: it comes to the list that insertion builds; no conditions but that length. -/
import Derived.Test.YteoajaichjojdaaDoorCbnArr
import Derived.Test.YteoajaichjojdaaDoorRelyC
import Derived.IntWalk
import Derived.BigRegion
namespace Go.Proofs.YteoajaichjojdaaDoor
open Go.RowKit

/-- The list while an element is on its way. -/
def onWayC (q m r : List Cbn) (x : Cbn) : List Cbn := q.reverse ++ x :: (m ++ r)
theorem onWayC_len (q m r : List Cbn) (x : Cbn) : (onWayC q m r x).length = q.length + 1 + m.length + r.length := by simp [onWayC]; omega
theorem onWayC_at (q m r : List Cbn) (x : Cbn) : nth (onWayC q m r x) q.length = x := by
  rw [nth_eq (by rw [onWayC_len]; omega)]
  simp [onWayC]
theorem onWayC_ahead (y : Cbn) (q m r : List Cbn) (x : Cbn) : nth (onWayC (y :: q) m r x) q.length = y := by
  rw [nth_eq (by rw [onWayC_len]; simp; omega)]
  simp [onWayC]
theorem onWayC_swap (y : Cbn) (q m r : List Cbn) (x : Cbn) : ((onWayC (y :: q) m r x).set (q.length + 1) y).set q.length x = onWayC q (y :: m) r x := by
  simp only [onWayC, List.reverse_cons, List.append_assoc, List.cons_append, List.nil_append]
  rw [List.set_append_right _ _ (by simp), List.length_reverse, show q.length + 1 - q.length = 1 by omega]
  rw [List.set_append_right _ _ (by simp), List.length_reverse, Nat.sub_self]
  rfl
def cmpI (x y : Int) : Int := if x < y then -1 else if y < x then 1 else 0
theorem cmpI_yes {x y : Int} (h : x < y) : cmpI x y = -1 := if_pos h
theorem cmpI_no {x y : Int} (h : ¬ x < y) : ∃ c, cmpI x y = c ∧ decide (c < 0) = false := ⟨_, rfl, by unfold cmpI; rw [if_neg h]; split <;> rfl⟩
theorem mem_int {P : Program} {f : FuncId} {args : Array Value} {w0 : World} {x : WIn w0} {b c : Int} (h : Calls P f args x.w fun e w' => e = .returned (.int .i64 b) ∧ Below x.w.heap.size x.w w') (e : b = c) : Calls P f args x.w fun e w'' => e = .returned (.int .i64 c) ∧ ∃ y : WIn w0, w'' = y.w := mem_of (e ▸ h)
theorem grown_of_below {w w' : World} {r : Option Nat} (h : Below w.heap.size w w') : w.grownBy w' r := ⟨h.os, h.tape, h.output, h.size, fun i hi _ => h.block i hi⟩
theorem ordC_start {key : Cbn → Int} (o : List Cbn) : (isC key (o.take 1)).reverse ++ o.drop 1 = o := by
  cases o with
  | nil => rfl
  | cons x r => rfl
theorem isC_more {key : Cbn → Int} {o : List Cbn} {i : Nat} (hi : i < o.length) : isC key (o.take (i + 1)) = insC key (nth o i) (isC key (o.take i)) := by
  rw [List.take_succ_eq_append_getElem hi, isC_snoc, nth_eq hi]
theorem onWayC_start {key : Cbn → Int} {o : List Cbn} {i : Nat} (hi : i < o.length) : (isC key (o.take i)).reverse ++ o.drop i = onWayC (isC key (o.take i)) [] (o.drop (i + 1)) (nth o i) := by
  rw [onWayC, List.nil_append, nth_eq hi, List.drop_eq_getElem_cons hi]
/-- What the operations of an exchange give. -/
def swapV (g n cap J : Nat) (x y : Cbn) (i : Nat) (v : Value) : Prop := match i with
  | 0 => v = .slice (some ⟨g, 0, none⟩) n cap
  | 1 => v = .int .i64 ((J : Int) + 1)
  | 2 => v = .slice (some ⟨g, 0, none⟩) n cap
  | 3 => v = .int .i64 ((J : Int) + 1)
  | 4 => v = .int .i64 J
  | 5 => v = .slice (some ⟨g, 0, none⟩) n cap
  | 6 => v = .int .i64 ((J : Int) + 1)
  | 7 => v = .int .i64 J
  | 8 => v = .pointer (some ⟨g, J * 5, none⟩)
  | 9 => v = .agg #[.int .i64 y.n, .int .i64 y.s, .int .i64 y.e, .int .i64 y.t, .int .i64 y.r]
  | 10 => v = .slice (some ⟨g, 0, none⟩) n cap
  | 11 => v = .int .i64 ((J : Int) + 1)
  | 12 => v = .pointer (some ⟨g, (J + 1) * 5, none⟩)
  | 13 => v = .agg #[.int .i64 x.n, .int .i64 x.s, .int .i64 x.e, .int .i64 x.t, .int .i64 x.r]
  | 14 => v = .pointer (some ⟨g, (J + 1) * 5, none⟩)
  | 16 => v = .pointer (some ⟨g, J * 5, none⟩)
  | _ => True

theorem grown_puts {w wr : World} {g : Nat} : ∀ (vs : List Value) (s : Nat), w.grownBy wr (some g) → w.grownBy (puts wr g s vs) (some g)
  | [], _, h => h
  | _ :: vs, s, h => grown_puts vs (s + 1) (grown_set h)
def SortPostC (key : Cbn → Int) (o : List Cbn) (g : Nat) (w : World) (e : Ending) (w' : World) : Prop := e = .returned (.tuple #[]) ∧ ArrC w' g (ordC key o) ∧ w.grownBy w' (some g)
end Go.Proofs.YteoajaichjojdaaDoor
