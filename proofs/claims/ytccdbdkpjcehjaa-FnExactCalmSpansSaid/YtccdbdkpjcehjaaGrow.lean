/- A list of pairs that a call builds: one more, the last one set anew; no conditions. -/
import Derived.Test.YtccdbdkpjcehjaaGrid
import Derived.OneCell
import Derived.StillTailTactics
namespace Go.Proofs.Ytccdbdkpjcehjaa
open Go.RowKit

/-- A region that draws, reads, and writes at its end alone: the reading in the order of the text, from a world that the draw alone has turned. -/
theorem wp_region_tail {P : Program} {id : Nat} {Q : Exit → Act → World → Prop} {a : Act} {w : World} {l : List Oper} (n : Nat) (hm : P.follows .mixedOrders = true) (hB : Region.lexTailB .any l.toArray n = true)
    (h : ∀ wd : World, Below w.heap.size w wd → (∀ b o, wd.cell? ⟨b, o, none⟩ = w.cell? ⟨b, o, none⟩) → wpStill P l.toArray wd (fun a' => wpList P l.toArray Q (l.drop n) a' wd) (l.take n) a) : (Code.region id l.toArray true).wp P Q a w :=
  wp_region_still_tail n hm hB (h _ (Below.refl _ _).drew fun _ _ => rfl)
theorem info_ints : (Try.prog.info? 43).map (fun i => (i.zero, i.size, i.bytes)) = some (some (.slice none 0 0), 1, 24) := by kernel_rfl
theorem ownsRow_get {w : World} {base n : Nat} {e : TypeId} {v : Value} {xs : List Value} (h : w.ownsRow base e 1 v n xs) (hn : 0 < n) : ∃ g cap, v = .slice (some ⟨g, 0, none⟩) n cap ∧ base ≤ g ∧ g < w.heap.size ∧ (∀ i u, i < n → xs[i]? = some u → w.cell? ⟨g, i, none⟩ = some u) ∧ (∀ i, w.frozen? ⟨g, i, none⟩ = false) ∧
    ∀ i u, i < n → (w.setCell ⟨g, i, none⟩ u).ownsRow base e 1 v n (xs.set i u) := by
  obtain ⟨hx, ⟨_, h0⟩ | ⟨g, cap, cur, rfl, hg, hh, hnc, hmax, hcs, htk⟩⟩ := h
  · omega
  · refine ⟨g, cap, rfl, hg, lt_of_block hh, fun i u hi hu => ?_, fun i => by simp [World.frozen?, hh], fun i u hi => ⟨by simpa using hx, .inr ⟨g, cap, cur.setIfInBounds i u, rfl, hg, ?_, hnc, hmax, by simpa using hcs, ?_⟩⟩⟩
    · rw [← htk, List.getElem?_take, if_pos (by omega)] at hu
      simp only [Array.getElem?_toList] at hu
      simp [World.cell?, hh, hu]
    · show (w.heap.modify g _)[g]? = _
      rw [Array.getElem?_modify, if_pos rfl, hh]
      rfl
    · rw [Array.toList_setIfInBounds, List.take_set, htk]
theorem new_pair (w : World) (p : Int × Int) (g : Nat) (hg : g = w.heap.size) : Row (w.alloc (.cells #[.int .i64 p.1, .int .i64 p.2] 3)) g 3 1 intCells (pl p) := by
  subst hg
  refine ⟨fun i => if i = 0 then .int .i64 p.1 else .int .i64 p.2, World.rowIs_alloc w #[.int .i64 p.1, .int .i64 p.2] 3 _ fun i hi => ?_, fun i hi j v hj hv => ?_⟩
  · match i, hi with
    | 0, _ => rfl
    | 1, _ => rfl
  · obtain rfl : j = 0 := by omega
    match i, hi, hv with
    | 0, _, hv => simpa [nth, pl, intCells] using hv
    | 1, _, hv => simpa [nth, pl, intCells] using hv
def lastSet (s : List (Int × Int)) (p : Int × Int) : List (Int × Int) := s.set (s.length - 1) p
theorem nth_set {α : Type} [Inhabited α] {s : List α} {i j : Nat} {p : α} (hj : j < s.length) : nth (s.set i p) j = if i = j then p else nth s j := by
  rw [nth_eq (by simpa using hj), nth_eq hj, List.getElem_set]
theorem nth_push {α : Type} [Inhabited α] {s : List α} {j : Nat} {p : α} (hj : j < s.length + 1) : nth (s ++ [p]) j = if j = s.length then p else nth s j := by
  by_cases h : j = s.length
  · subst h; simp [nth]
  · have : j < s.length := by omega
    simp [nth, h, List.getElem?_append_left this]
def Grow (w : World) (base : Nat) (v : Value) (s : List (Int × Int)) : Prop := ∃ gs : List Nat, gs.length = s.length ∧ w.ownsRow base 43 1 v s.length (gs.map rowV) ∧
  (∀ i, i < s.length → base ≤ nth gs i ∧ Row w (nth gs i) 3 1 intCells (pl (nth s i))) ∧ ∀ i j, i < j → j < s.length → nth gs i < nth gs j
theorem rows_far {w w' : World} {base n g : Nat} {v : Value} {xs : List Value} {l : List Int} (h : w.ownsRow base 43 1 v n xs) (hg : w.grownBy w' v.ownBlock) (hr : Row w g 3 1 intCells l) : Row w' g 3 1 intCells l := by
  obtain ⟨f, hf, hc⟩ := hr
  refine ⟨f, hf.of_block (hg.block g hf.lt fun e => ?_), hc⟩
  rcases h.2 with ⟨rfl, _⟩ | ⟨g', cap, cur, rfl, _, hh, _⟩
  · simp [Value.ownBlock] at e
  · simp only [Value.ownBlock, Option.some.injEq] at e
    subst e
    obtain ⟨c2, a2, _⟩ := hf
    rw [hh] at a2
    simp at a2
theorem own_ne {w : World} {base n g : Nat} {v : Value} {xs : List Value} {l : List Int} (h : w.ownsRow base 43 1 v n xs) (hr : Row w g 3 1 intCells l) : v.ownBlock ≠ some g := fun e => by
  obtain ⟨f, hf, hc⟩ := hr
  rcases h.2 with ⟨rfl, _⟩ | ⟨g', cap, cur, rfl, _, hh, _⟩
  · simp [Value.ownBlock] at e
  · simp only [Value.ownBlock, Option.some.injEq] at e
    subst e
    obtain ⟨c2, a2, _⟩ := hf
    rw [hh] at a2
    simp at a2
section
variable {w w' w2 : World} {base : Nat} {v v' : Value} {s : List (Int × Int)}
theorem Grow.carry (h : Grow w base v s) (hb : Below w.heap.size w w') : Grow w' base v s := by
  obtain ⟨gs, h1, h2, h3, h4⟩ := h
  exact ⟨gs, h1, ownsRow_below h2 hb, fun i hi => ⟨(h3 i hi).1, (h3 i hi).2.carry hb⟩, h4⟩
theorem Grow.shape (h : Grow w base v s) : ∃ A cap, v = .slice A s.length cap := by
  obtain ⟨gs, h1, h2, h3, h4⟩ := h
  exact ownsRow_shape h2
theorem Grow.empty (w : World) : Grow (w.alloc (.cells #[] 43)) w.heap.size (.slice (some ⟨w.heap.size, 0, none⟩) 0 0) [] :=
  ⟨[], rfl, ownsRow_empty w 43 1, fun i hi => absurd hi (by simp), fun i j _ hj => absurd hj (by simp)⟩
theorem row_set1 {g : Nat} {p : Int × Int} {m : Int} (h : Row w g 3 1 intCells (pl p)) : Row (w.setCell ⟨g, 1, none⟩ (.int .i64 m)) g 3 1 intCells (pl (p.1, m)) := by
  obtain ⟨f, hf, hc⟩ := h
  refine ⟨_, hf.set 1 _, fun i hi j u hj hu => ?_⟩
  obtain rfl : j = 0 := by omega
  match i, hi, hu with
  | 0, _, hu =>
    have := hc 0 (by simp [pl]) 0 (.int .i64 p.1) (by omega) rfl
    simp only [Nat.zero_mul, Nat.add_zero] at this ⊢
    rw [if_neg (by omega), this]
    simpa [nth, pl, intCells] using hu
  | 1, _, hu => simpa [nth, pl, intCells] using hu
/-- The last pair, as the walk reads it, and what a store into it leaves. -/
theorem Grow.last {n : Nat} (h : Grow w base v s) (hn : s.length = n + 1) : ∃ G g cap, v = .slice (some ⟨G, 0, none⟩) (n + 1) cap ∧ base ≤ G ∧ base ≤ g ∧ G < w.heap.size ∧ g < w.heap.size ∧ w.cell? ⟨G, n, none⟩ = some (rowV g) ∧ (∀ i, w.frozen? ⟨G, i, none⟩ = false) ∧
    w.cell? ⟨g, 0, none⟩ = some (.int .i64 (nth s n).1) ∧ w.cell? ⟨g, 1, none⟩ = some (.int .i64 (nth s n).2) ∧ (∀ i, w.frozen? ⟨g, i, none⟩ = false) ∧
    (∀ w2 m, Below w.heap.size w w2 → Grow (w2.setCell ⟨g, 1, none⟩ (.int .i64 m)) base v (lastSet s ((nth s n).1, m))) ∧
    ∀ w2 g2 p, Below w.heap.size w w2 → w.heap.size ≤ g2 → Row w2 g2 3 1 intCells (pl p) → Grow (w2.setCell ⟨G, n, none⟩ (rowV g2)) base v (lastSet s p) := by
  obtain ⟨gs, h1, h2, h3, h4⟩ := h
  obtain ⟨G, cap, rfl, hG, hGl, hget, hfr, hset⟩ := ownsRow_get h2 (by omega)
  have hl : n < s.length := by omega
  have hls : s.length - 1 = n := by omega
  obtain ⟨hb, hr⟩ := h3 _ hl
  obtain ⟨c0, c1, cf⟩ := hr.less2
  refine ⟨G, nth gs n, cap, by rw [hn], hG, hb, hGl, hr.lt, hget _ _ hl (by rw [List.getElem?_map, List.getElem?_eq_getElem (by omega), nth_eq (by omega)]; rfl), hfr, c0, c1, cf, fun w2 m hb2 => ?_, fun w2 g2 p hb2 hg2 hr2 => ?_⟩
  · have hown2 := ownsRow_below h2 hb2
    have hne := own_ne hown2 (hr.carry hb2)
    refine ⟨gs, by simp [lastSet, h1], ?_, fun i hi => ?_, fun i j hij hj => h4 i j hij (by simpa [lastSet] using hj)⟩
    · simpa [lastSet] using ownsRow_setCell_other hown2 (a := ⟨nth gs n, 1, none⟩) hne (.int .i64 m)
    · have hi' : i < s.length := by simpa [lastSet] using hi
      refine ⟨(h3 i hi').1, ?_⟩
      rw [lastSet, nth_set hi', hls]
      by_cases e : n = i
      · rw [if_pos e, ← e]; exact row_set1 (hr.carry hb2)
      · rw [if_neg e]
        have := h4 i n (by omega) hl
        exact ((h3 i hi').2.carry hb2).grown (grown_set (World.grownBy.refl _ _)) (by omega)
  · have hown2 := ownsRow_below h2 hb2
    obtain ⟨G', cap', he, _, _, _, _, hset2⟩ := ownsRow_get hown2 (by omega)
    injection he with e1
    simp only [Option.some.injEq, Addr.mk.injEq, and_true] at e1
    subst e1
    have hgr : w2.grownBy (w2.setCell ⟨G, n, none⟩ (rowV g2)) (some G) := grown_set (World.grownBy.refl _ _)
    refine ⟨gs.set n g2, by simp [lastSet, h1], ?_, fun i hi => ?_, fun i j hij hj => ?_⟩
    · have := hset2 _ (rowV g2) hl
      simpa [lastSet, List.map_set] using this
    · have hi' : i < s.length := by simpa [lastSet] using hi
      rw [lastSet, nth_set hi', nth_set (by omega), hls]
      by_cases e : n = i
      · rw [if_pos e, if_pos e]
        refine ⟨by have := h2.2; omega, rows_far hown2 hgr hr2⟩
      · rw [if_neg e, if_neg e]
        exact ⟨(h3 i hi').1, rows_far hown2 hgr ((h3 i hi').2.carry hb2)⟩
    · have hj' : j < s.length := by simpa [lastSet] using hj
      rw [nth_set (by omega), nth_set (by omega), if_neg (by omega)]
      have hlt := (h3 i (by omega)).2.lt
      by_cases e : n = j
      · rw [if_pos e]; omega
      · rw [if_neg e]; exact h4 i j hij hj'
theorem Grow.pushed {gs : List Nat} {g : Nat} {p : Int × Int} (h1 : gs.length = s.length) (h2 : w2.ownsRow base 43 1 v s.length (gs.map rowV)) (h3 : ∀ i, i < s.length → base ≤ nth gs i ∧ Row w2 (nth gs i) 3 1 intCells (pl (nth s i)))
    (h4 : ∀ i j, i < j → j < s.length → nth gs i < nth gs j) (hr : Row w2 g 3 1 intCells (pl p)) (hg : ∀ i, i < s.length → nth gs i < g) (hb : base ≤ g) (hown : w'.ownsRow base 43 1 v' (s.length + 1) (gs.map rowV ++ [rowV g])) (hgr : w2.grownBy w' v.ownBlock) :
    Grow w' base v' (s ++ [p]) := by
  refine ⟨gs ++ [g], by simp [h1], by simpa using hown, fun i hi => ?_, fun i j hij hj => ?_⟩
  · have hi' : i < s.length + 1 := by simpa using hi
    rw [nth_push hi', nth_push (by omega), h1]
    by_cases e : i = s.length
    · rw [if_pos e, if_pos e]; exact ⟨hb, rows_far h2 hgr hr⟩
    · rw [if_neg e, if_neg e]; exact ⟨(h3 i (by omega)).1, rows_far h2 hgr (h3 i (by omega)).2⟩
  · have hj' : j < s.length + 1 := by simpa using hj
    rw [nth_push (by omega), nth_push (by omega), h1, if_neg (by omega)]
    by_cases e : j = s.length
    · rw [if_pos e]; exact hg i (by omega)
    · rw [if_neg e]; exact h4 i j hij (by omega)
theorem Grow.spans {A : Option Addr} {cap : Nat} (h : Grow w base (.slice A s.length cap) s) : Spans w base A s := by
  obtain ⟨gs, h1, h2, h3, h4⟩ := h
  refine ⟨gs, h1, ?_, h3, h4⟩
  have hf : (gs.map rowCells).flatten = gs.map rowV := by
    clear h1 h2 h3 h4
    induction gs with
    | nil => rfl
    | cons x l ih => simp only [List.map_cons, List.flatten_cons, ih]; rfl
  rw [← h1] at h2
  exact Own.of_row' h2 rfl hf.symm fun _ => rfl
end
end Go.Proofs.Ytccdbdkpjcehjaa
