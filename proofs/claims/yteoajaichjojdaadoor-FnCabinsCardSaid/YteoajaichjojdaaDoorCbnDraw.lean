/- The arguments that the reference draws for the statements on cabins; no conditions. -/
import Derived.Test.YteoajaichjojdaaDoorCbnD
import Derived.Deep.RegionLaw
import Derived.Deep.RegionWith
import Derived.Deep.RegionHeld3
namespace Go.Proofs.YteoajaichjojdaaDoor
open Go.RowKit

def CabOnly (w : World) (e : Ending) (w' : World) : Prop := ∃ (g c : Nat) (l : List Cbn), e = .returned (.slice (some ⟨g, 0, none⟩) l.length c) ∧ l.length ≤ c ∧ l.length ≤ 14 ∧ Own w' w.heap.size 25 5 Cbn.cells (some ⟨g, 0, none⟩) l ∧ Below w.heap.size w w'
def CabArgs (lo hi : Int) (w : World) (e : Ending) (w' : World) : Prop := ∃ (g c : Nat) (l : List Cbn) (s : Int), e = .returned (.tuple #[.slice (some ⟨g, 0, none⟩) l.length c, .int .i64 s]) ∧ l.length ≤ c ∧ l.length ≤ 14 ∧ (lo ≤ s ∧ s ≤ hi) ∧ Own w' w.heap.size 25 5 Cbn.cells (some ⟨g, 0, none⟩) l ∧ Below w.heap.size w w'
def LoadArgs (w : World) (e : Ending) (w' : World) : Prop := ∃ (x : Cbn) (s : Int), e = .returned (.tuple #[.agg #[.int .i64 x.n, .int .i64 x.s, .int .i64 x.e, .int .i64 x.t, .int .i64 x.r], .int .i64 s]) ∧ Below w.heap.size w w'
/-- One of the first numbers of a literal. -/
theorem among_s (L : List Int) (m : Nat) (lo hi : Int) (gc K b c : Nat) (w : World) (h : Cur w gc K) (hK : K ≤ 10000000) (hb : b ≠ gc) (hw : w.heap[b]? = some (.cells (L.map (Value.int .i64)).toArray 3)) (h0 : 0 < m) (hm : m ≤ L.length) (h2 : L.length ≤ 1000) (hl : ∀ i, i < L.length → lo ≤ nth L i ∧ nth L i ≤ hi) :
    Calls Tryd.prog 32 #[.pointer (some ⟨gc, 0, none⟩), .slice (some ⟨b, 0, none⟩) m c] w (Drew gc (K + 2) lo hi w) := by
  have hlen : (L.take m).length = m := by rw [List.length_take]; omega
  have := among_b (L.take m) lo hi b c gc K w h hK hb (lt_of_block hw) (by omega) (by omega) (fun i hi => by rw [hlen] at hi; rw [nth_take hi]; exact hl i (by omega)) (fun i hi => by
    rw [hlen] at hi
    rw [nth_take hi, cell_of_row w b i (L.map (Value.int .i64)).toArray 3 (0, 0) hw]
    simp [nth_eq (show i < L.length by omega), show i < L.length by omega])
  rwa [hlen] at this
set_option maxHeartbeats 2000000 in
theorem drawCabinsIn_c (A : Option Addr) (n cap : Nat) (w : World) (hk : Codes w A n) : Calls Tryd.prog 16 #[.slice A n cap] w (CabArgs (-1) 4 w) := by
  have HK := Lib.hid hk
  clear hk
  go_enter Tryd.func16, Tryd.ntmps16
  go_wp2_with fail
  refine (cabins_c w.heap.size 0 _ HK.out.cur (by omega)).mono ?_
  rintro e w1 ⟨g1, c1, l, rfl, hc1, hl, ho1, hcw1, hgw1⟩
  have HO := Lib.hid ho1
  have HCw1 := Lib.hid hcw1
  have HGw1 := Lib.hid hgw1
  have hz1 : w.heap.size < w1.heap.size := by have := hgw1.size; simp at this; omega
  clear ho1 hcw1 hgw1
  go_wp2_with fail
  refine (pick_c 24 _ _ _ (HCw1.out.alloc _) (by omega) (by omega) (by omega)).mono ?_
  rintro e w2 ⟨v, rfl, v1, v2, hcw2, hgw2⟩
  have HCw2 := Lib.hid hcw2
  have HGw2 := Lib.hid hgw2
  clear hcw2 hgw2
  have HBL := Lib.hid (show w2.heap[w1.heap.size]? = some (.cells (([0, 1, 2, 3, -1, 4] : List Int).map (Value.int .i64)).toArray 3) from (HGw2.out.block _ (by simp) (by simp; omega)).trans (heap_alloc_new _ _))
  obtain ⟨j, hj⟩ : ∃ j : Nat, v / 11 = j := ⟨(v / 11).toNat, by omega⟩
  have hj2 : j ≤ 2 := by omega
  have a1 : IntKind.i64.wrap (v / 11) = j := by rw [hj]; exact IntWalk.i64_in _ (by omega)
  have a2 : IntKind.i64.wrap (4 + (j : Int)) = 4 + (j : Int) := IntWalk.i64_in _ (by omega)
  have a3 : ((4 : Int) + (j : Int)).toNat = 4 + j := by omega
  have a4 : (0 : Int) ≤ (4 : Int) + (j : Int) := by omega
  have a5 : (4 : Int) + (j : Int) ≤ 4 + 2 := by omega
  go_wp2_with fail
  refine (among_s [0, 1, 2, 3, -1, 4] (4 + j) (-1) 4 _ _ w1.heap.size _ _ HCw2.out (by omega) (by omega) HBL.out (by omega) (by simp; omega) (by decide) (by decide)).mono ?_
  rintro e w3 ⟨s, rfl, s1, s2, hcw3, hgw3⟩
  have HCw3 := Lib.hid hcw3
  have HGw3 := Lib.hid hgw3
  clear hcw3 hgw3
  have HG := Lib.hid (but_trans (but_trans HGw1.out (but_below (World.grownBy.refl _ _) ((Below.refl _ _).alloc (Nat.le_refl _) (.cells (([0, 1, 2, 3, -1, 4] : List Int).map (Value.int .i64)).toArray 3)))) (but_trans HGw2.out HGw3.out))
  have HOn := Lib.hid (((HO.out.carry ((Below.refl _ _).alloc (Nat.le_refl _) (.cells (([0, 1, 2, 3, -1, 4] : List Int).map (Value.int .i64)).toArray 3))).grown HGw2.out (by simp)).grown HGw3.out (by simp))
  go_wp2_with fail
  exact bodyPost_ret (v := .tuple #[.slice (some ⟨g1, 0, none⟩) l.length c1, .int .i64 s]) (by simp [results, Tryd.results16, go_sem]) rfl ⟨g1, c1, l, s, rfl, hc1, hl, ⟨s1, s2⟩, HOn.out.less (by simp), draw_end HG.out⟩
end Go.Proofs.YteoajaichjojdaaDoor
