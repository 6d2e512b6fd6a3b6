/- A number is put into its place in a rising list; no conditions but that it is not there yet. -/
import Derived.Test.YtpchcblialkpcaaDoorArr
import Derived.Deep.RegionLaw
import Derived.Deep.AppendLies
namespace Go.Proofs.YtpchcblialkpcaaDoor
open Go.RowKit

theorem Rd.newsI {w W : World} {B b off : Nat} {o : List Int} (h : Rd w B 1 intCells (some ⟨b, off, none⟩) o) (hb : Below B w W) (k : Nat) : ∀ j u, ((o.take k).map (Value.int .i64))[j]? = some u → W.cell? ⟨b, off + j, none⟩ = some u := fun j u hj => by
  have hlt : j < (o.take k).length := by simpa using (List.getElem?_eq_some_iff.1 hj).1
  have hlt2 : j < o.length ∧ j < k := by simp at hlt; omega
  obtain ⟨b', off', he, hb', hc⟩ := (h.below hb (Nat.le_refl _)).int hlt2.1
  simp only [Option.some.injEq, Addr.mk.injEq, and_true] at he
  obtain ⟨rfl, rfl⟩ := he
  rw [hc, ← hj]
  simp [List.getElem?_take, hlt2.2, nth_eq hlt2.1, hlt2.1]
theorem Rd.newsD {w W : World} {B b off : Nat} {o : List Int} (h : Rd w B 1 intCells (some ⟨b, off, none⟩) o) (hb : Below B w W) (k : Nat) : ∀ j u, ((o.drop k).map (Value.int .i64))[j]? = some u → W.cell? ⟨b, off + k + j, none⟩ = some u := fun j u hj => by
  have hlt : j < (o.drop k).length := by simpa using (List.getElem?_eq_some_iff.1 hj).1
  have hlt2 : k + j < o.length := by simp at hlt; omega
  obtain ⟨b', off', he, hb', hc⟩ := (h.below hb (Nat.le_refl _)).int hlt2
  simp only [Option.some.injEq, Addr.mk.injEq, and_true] at he
  obtain ⟨rfl, rfl⟩ := he
  rw [Nat.add_assoc, hc, ← hj]
  simp [List.getElem?_drop, nth_eq hlt2, hlt2]
theorem ints_one' (o : List Int) : ∀ u ∈ o.map (Value.int .i64), u.oneCell' = true := fun u hu => by
  obtain ⟨x, _, rfl⟩ := List.mem_map.1 hu; rfl
section
variable {w : World} {base size : Nat} {e : TypeId} {N : Obj}
theorem heap_new' (W : World) (o : Obj) {g : Nat} (h : g = W.heap.size) : (W.alloc o).drew.heap[g]? = some o := by subst h; exact heap_alloc_new W o
theorem heap_old' (W : World) (o : Obj) {g : Nat} {x : Obj} (h : W.heap[g]? = some x) : (W.alloc o).drew.heap[g]? = some x := by
  have hlt : g < W.heap.size := by
    rcases Nat.lt_or_ge g W.heap.size with h' | h'
    · exact h'
    · rw [Array.getElem?_eq_none h'] at h; cases h
  exact (heap_alloc_old W o hlt).trans h
theorem oe1 (hb : base ≤ w.heap.size) : (w.alloc (.cells #[] e)).drew.ownsRow base e size (.slice (some ⟨w.heap.size, 0, none⟩) 0 0) 0 [] := own_empty (heap_new' w _ rfl) hb
theorem oe2 (hb : base ≤ w.heap.size) : ((w.alloc (.cells #[] e)).alloc N).drew.ownsRow base e size (.slice (some ⟨w.heap.size, 0, none⟩) 0 0) 0 [] := own_empty (heap_old' _ _ (heap_alloc_new w _)) hb
theorem oe3 (hb : base ≤ w.heap.size) : ((w.alloc N).alloc (.cells #[] e)).drew.ownsRow base e size (.slice (some ⟨w.heap.size + 1, 0, none⟩) 0 0) 0 [] := own_empty (heap_new' _ _ (by simp)) (by omega)
theorem nh2 {E : Obj} : ((w.alloc E).alloc N).drew.heap[w.heap.size + 1]? = some N := heap_new' _ _ (by simp)
theorem nk2 {w1 : World} {E : Obj} {n c : Nat} {R : Nat → Prop} (h : ∀ g, g < ((w.alloc E).alloc N).drew.heap.size → (Value.slice (some ⟨w.heap.size, 0, none⟩) n c).ownBlock ≠ some g → w1.heap[g]? = ((w.alloc E).alloc N).drew.heap[g]? ∧ R g) : w1.heap[w.heap.size + 1]? = some N := by
  refine (h _ ?_ ?_).1.trans nh2
  · show _ < ((w.alloc E).alloc N).heap.size
    simp
  · simp [Value.ownBlock]
theorem nh3 {E : Obj} : ((w.alloc N).alloc E).drew.heap[w.heap.size]? = some N := heap_old' _ _ (heap_alloc_new w _)
theorem nk3 {w1 : World} {E : Obj} {n c : Nat} {R : Nat → Prop} (h : ∀ g, g < ((w.alloc N).alloc E).drew.heap.size → (Value.slice (some ⟨w.heap.size + 1, 0, none⟩) n c).ownBlock ≠ some g → w1.heap[g]? = ((w.alloc N).alloc E).drew.heap[g]? ∧ R g) : w1.heap[w.heap.size]? = some N := by
  refine (h _ ?_ ?_).1.trans nh3
  · show _ < ((w.alloc N).alloc E).heap.size
    simp; omega
  · simp [Value.ownBlock]
end
def Places (o : List Int) (x : Int) (k : Nat) : Prop := k ≤ o.length ∧ (∀ j, j < k → nth o j < x) ∧ ∀ j, k ≤ j → j < o.length → x < nth o j
/-- What a call hands back: a list of its own, with its room. -/
def GivesR (o : List Int) (w : World) (e : Ending) (w' : World) : Prop := ∃ g cap, e = .returned (.slice (some ⟨g, 0, none⟩) o.length cap) ∧ o.length ≤ cap ∧ w.heap.size ≤ g ∧ Arr w' g o ∧ Below w.heap.size w w'
theorem own_cap {w : World} {base n cap k : Nat} {e : TypeId} {A : Option Addr} {xs : List Value} (h : w.ownsRow base e k (.slice A n cap) n xs) : n ≤ cap := by
  rcases h.2 with ⟨h1, h2⟩ | ⟨g', c', cu, h1, _, _, hnc, _⟩
  · omega
  · injection h1 with h2 h3 h4; omega
end Go.Proofs.YtpchcblialkpcaaDoor
