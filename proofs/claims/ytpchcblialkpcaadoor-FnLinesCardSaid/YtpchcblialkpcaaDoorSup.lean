/- Lists of supports in memory, and the plain answers on lines; no conditions beyond those of each statement. -/
import Derived.Test.YtpchcblialkpcaaDoorRange
import Derived.Test.YtpchcblialkpcaaDoorSlice
import Derived.Test.YtpchcblialkpcaaDoorOwn
import Derived.Test.YtpchcblialkpcaaDoorText
namespace Go.Proofs.YtpchcblialkpcaaDoor
open Go.RowKit
structure Sup where
  a : Int
  h : Int
  s : Bool
instance : Inhabited Sup := ⟨⟨0, 0, false⟩⟩
def Sup.cells (x : Sup) : List Value := [.int .i64 x.a, .int .i64 x.h, .bool x.s]
theorem Sup.rd {w : World} {B : Nat} {A : Option Addr} {l : List Sup} (h : Rd w B 3 Sup.cells A l) {i : Nat} (hi : i < l.length) : ∃ b off, A = some ⟨b, off, none⟩ ∧ b < B ∧ w.cell? ⟨b, off + i * 3, none⟩ = some (.int .i64 (nth l i).a) ∧ w.cell? ⟨b, off + i * 3 + 1, none⟩ = some (.int .i64 (nth l i).h) ∧ w.cell? ⟨b, off + i * 3 + 2, none⟩ = some (.bool (nth l i).s) := by
  obtain ⟨b, off, e, hlt, hc⟩ := h i hi
  exact ⟨b, off, e, hlt, by simpa using hc 0 _ rfl, hc 1 _ rfl, hc 2 _ rfl⟩
theorem info_sup : (Tryd.prog.info? 33).map (fun i => (i.zero, i.size, i.bytes)) = some (some (.agg #[.int .i64 0, .int .i64 0, .bool false]), 3, 24) := by kernel_rfl
def okU (x : Sup) : Bool := inR x.a 0 3000 && inR x.h 0 2000
theorem okU_true {x : Sup} : okU x = true ↔ (0 ≤ x.a ∧ x.a ≤ 3000) ∧ (0 ≤ x.h ∧ x.h ≤ 2000) := by
  simp only [okU, Bool.and_eq_true, inR_true]
def prevU (l : List Sup) (i : Nat) : Bool := decide (i = 0) || decide ((nth l (i - 1)).a < (nth l i).a)
def endU (l : List Sup) : Sup := nth l (l.length - 1)
def goodU (l : List Sup) : Bool := decide (2 ≤ l.length) && decide (l.length ≤ 8) && decide ((nth l 0).a = 0) && (nth l 0).s && (endU l).s && allTo l.length (fun i => okU (nth l i) && prevU l i)
theorem goodU_true {l : List Sup} (h : goodU l = true) : 2 ≤ l.length ∧ l.length ≤ 8 ∧ (nth l 0).a = 0 ∧ (nth l 0).s = true ∧ (endU l).s = true ∧ (∀ i, i < l.length → okU (nth l i) = true) ∧ ∀ i, i + 1 < l.length → (nth l i).a < (nth l (i + 1)).a := by
  simp only [goodU, Bool.and_eq_true, decide_eq_true_eq, allTo_true] at h
  obtain ⟨⟨⟨⟨⟨h1, h2⟩, h3⟩, h4⟩, h5⟩, h6⟩ := h
  refine ⟨h1, h2, h3, h4, h5, fun i hi => ?_, fun i hi => ?_⟩
  · exact (h6 i hi).1
  · have := (h6 (i + 1) hi).2
    simp only [prevU, Bool.or_eq_true, decide_eq_true_eq] at this
    rcases this with h | h
    · omega
    · simpa using h
/-- The climbs up to the k-th support. -/
def climbTo (l : List Sup) : Nat → Int × Int
  | 0 => (0, 0)
  | 1 => (0, 0)
  | k + 2 => ((climbTo l (k + 1)).1 + max 0 ((nth l (k + 1)).h - (nth l k).h), (climbTo l (k + 1)).2 + max 0 ((nth l k).h - (nth l (k + 1)).h))
def climbU (l : List Sup) : (Int × Int) × Bool := if goodU l then (climbTo l l.length, true) else ((0, 0), false)
def flipU (e : Int) (x : Sup) : Sup := ⟨e - x.a, x.h, x.s⟩
def revU (l : List Sup) : List Sup × Bool := if goodU l then (l.reverse.map (flipU (endU l).a), true) else ([], false)
/-- The text of one support. -/
def supL (x : Sup) : List UInt8 := (if x.s then [83] else [84]) ++ num x.a ++ [58] ++ num x.h
/-- The text of a line. -/
def lineL : List Sup → List UInt8
  | [] => []
  | x :: r => match r with
    | [] => supL x
    | _ :: _ => supL x ++ 32 :: lineL r
def lineP (l : List Sup) : ByteArray × Bool := if goodU l then (S (lineL l), true) else (⟨#[]⟩, false)
end Go.Proofs.YtpchcblialkpcaaDoor
