/- SplitGroups of the program and of the reference return one Lean function; no conditions but the length. -/
import Derived.Test.YtalabohacedgnaaQueue
import Derived.Test.YtalabohacedgnaaPush
import Derived.Deep.RegionHeld3
import Derived.Deep.AppendLies
namespace Go.Proofs.Ytalabohacedgnaa
open Go.RowKit

def parts (s : Int) (q : Bool) : Nat → Int → List Gro
  | 0, _ => []
  | m + 1, n => if n ≤ 0 then [] else if s < n then ⟨s, q⟩ :: parts s q m (n - s) else [⟨n, q⟩]
theorem parts_done {s : Int} {q : Bool} {m : Nat} {n : Int} (h : n ≤ 0) : parts s q m n = [] := by
  cases m with
  | zero => rfl
  | succ m => rw [parts, if_pos h]
theorem parts_more {s : Int} {q : Bool} {m : Nat} {n : Int} (h : s < n) (hs : 1 ≤ s) : parts s q (m + 1) n = ⟨s, q⟩ :: parts s q m (n - s) := by
  rw [parts, if_neg (by omega), if_pos h]
theorem parts_last {s : Int} {q : Bool} {m : Nat} {n : Int} (h : n ≤ s) (h0 : 0 < n) : parts s q (m + 1) n = [⟨n, q⟩] := by
  rw [parts, if_neg (by omega), if_neg (by omega)]
theorem parts_len (s : Int) (q : Bool) : ∀ (m : Nat) (n : Int), (parts s q m n).length ≤ m
  | 0, _ => Nat.le_refl _
  | m + 1, n => by
    rw [parts]
    split
    · simp
    · split
      · have := parts_len s q m (n - s); simp; omega
      · simp
def splitTo (l : List Gro) (s : Int) : Nat → List Gro
  | 0 => []
  | k + 1 => splitTo l s k ++ parts s (nth l k).q 8 (nth l k).s
theorem splitTo_len {l : List Gro} {s : Int} : ∀ k, (splitTo l s k).length ≤ 8 * k
  | 0 => Nat.le_refl _
  | k + 1 => by
    have := splitTo_len (l := l) (s := s) k
    have := parts_len s (nth l k).q 8 (nth l k).s
    rw [splitTo, List.length_append]; omega
def split (l : List Gro) (s : Int) : List Gro × Bool := if goodG l && inR s 1 10 && decide ((splitTo l s l.length).length ≤ 12) then (splitTo l s l.length, true) else ([], false)
/-- What a call hands back: a list of groups of its own, and whether there is one. -/
def GroPost (p : List Gro × Bool) (w : World) (e : Ending) (w' : World) : Prop := ∃ A cap, e = .returned (.tuple #[.slice A p.1.length cap, .bool p.2]) ∧ Own w' w.heap.size 52 2 Gro.cells A p.1 ∧ Below w.heap.size w w'
theorem flat_push (l : List Gro) (x : Gro) : (l.map Gro.cells).flatten ++ Gro.cells x = ((l ++ [x]).map Gro.cells).flatten := by simp
theorem info_gro : (Try.prog.info? 52).map (fun i => (i.zero, i.size, i.bytes)) = some (some (.agg #[.int .i64 0, .bool false]), 2, 16) := by kernel_rfl
theorem owns_set {w : World} {base n size : Nat} {T : TypeId} {v u : Value} {xs : List Value} {g o : Nat} (h : w.ownsRow base T size v n xs) (hne : v.ownBlock ≠ some g) : (w.setCell ⟨g, o, none⟩ u).ownsRow base T size v n xs :=
  h.kept (row := some g) (grown_set (World.grownBy.refl _ _)) (.inr hne)
theorem isSeats_c (n : Int) (w : World) : Calls Try.prog 60 #[.int .i64 n] w fun e w' => e = .returned (.bool (inR n 1 10)) ∧ w = w' := by
  go_enter Try.func60, Try.ntmps60
  go_wp2_with (go_at_call 55; refine (within_c _ _ _ _).mono ?_; rintro e w' ⟨rfl, rfl⟩)
  go_ret
  exact ⟨rfl, rfl⟩
theorem split_no {l : List Gro} {s : Int} (h : (goodG l && inR s 1 10) = false) : split l s = ([], false) := by rw [split, if_neg (by simp [h])]
set_option maxHeartbeats 800000 in
theorem implSplitGroups_c (l : List Gro) (A : Option Addr) (cap : Nat) (s : Int) (w : World) (hl : l.length ≤ 1048576) (hr : Rd w w.heap.size 2 Gro.cells A l) :
    Calls Try.prog 22 #[.slice A l.length cap, .int .i64 s] w (GroPost (split l s) w) := by
  rcases hg : goodG l with _ | _
  · have H := Lib.hid (split_no (l := l) (s := s) (by simp [hg]))
    go_enter Try.func22, Try.ntmps22
    go_wp2_with fail
    refine (IsQueue_c l _ _ _ hl hr).mono ?_
    rintro e w1 ⟨rfl, hb1⟩
    go_wp2_with fail
    go_ret2
    exact ⟨none, 0, retl H.out, by rw [H.out]; exact Own.nil, hb1⟩
  rcases hs : inR s 1 10 with _ | _
  · have H := Lib.hid (split_no (l := l) (s := s) (by simp [hs]))
    go_enter Try.func22, Try.ntmps22
    go_wp2_with fail
    refine (IsQueue_c l _ _ _ hl hr).mono ?_
    rintro e w1 ⟨rfl, hb1⟩
    go_wp2_with (go_at_call 60; refine (isSeats_c _ _).mono ?_; rintro e w' ⟨rfl, rfl⟩)
    go_ret2
    exact ⟨none, 0, retl H.out, by rw [H.out]; exact Own.nil, hb1⟩
  have HG := Lib.hid (goodG_true hg)
  have H := Lib.hid (show split l s = if (splitTo l s l.length).length ≤ 12 then (splitTo l s l.length, true) else ([], false) by simp [split, hg, hs])
  obtain ⟨s1, s2⟩ := inR_true.1 hs
  have hl12 := HG.out.1
  go_enter Try.func22, Try.ntmps22
  go_wp2_with fail
  refine (IsQueue_c l _ _ _ hl hr).mono ?_
  rintro e w1 ⟨rfl, hb1⟩
  have hr1 := hr.carry hb1
  have HB1 := Lib.hid hb1
  clear hb1
  go_wp2_with (go_at_call 60; refine (isSeats_c _ _).mono ?_; rintro e w' ⟨rfl, rfl⟩)
  clear hg hs
  go_loopw [6, 8, 20] (fun v _ i wr => ∃ k : Nat, k ≤ l.length ∧ i = .int .i64 k ∧ wr.ownsRow w1.heap.size 52 2 v (splitTo l s k).length (((splitTo l s k).map Gro.cells).flatten) ∧ Below w1.heap.size w1 wr) (fun _ _ i _ => l.length - (intOf i).toNat)
  case atStart => exact ⟨0, Nat.zero_le _, rfl, ownsRow_empty w1 52 2, (by repeat (first | (with_reducible exact Below.refl _ _) | ((with_reducible refine alloc_ ?_ ?_); (focus (first | exact Nat.le_refl _ | (simp; done) | (simp; omega) | omega))) | ((with_reducible refine set_ ?_ ?_); (focus (first | exact Nat.le_refl _ | (simp; done) | (simp; omega) | omega))) | (with_reducible refine Below.drew ?_) | ((with_reducible refine after_ ?_ (by assumption) ?_); (rotate_left; (focus (first | exact Nat.le_refl _ | (simp; done) | (simp; omega) | omega))))))⟩
  case round =>
    obtain ⟨k, hk, rfl, hown, hbel⟩ := hrel
    have HB := Lib.hid hbel
    have HO := Lib.hid hown
    have z1 := hbel.size
    by_cases hlt : k < l.length
    · obtain ⟨b, off, rfl, hb1, hcs⟩ := Gro.rd (hr1.below hbel (Nat.le_refl _)) hlt
      obtain ⟨g1, g2⟩ := HG.out.2 k hlt
      have hT := splitTo_len (l := l) (s := s) (k + 1)
      obtain ⟨T, hTT⟩ : ∃ T, splitTo l s (k + 1) = T := ⟨_, rfl⟩
      rw [hTT] at hT
      have HT := Lib.hid hTT
      obtain ⟨A3, cap3, rfl⟩ := ownsRow_shape hown
      have hne : (Value.slice A3 (splitTo l s k).length cap3).ownBlock ≠ some wr.heap.size := fun e => by
        rcases hown.2 with ⟨h, _⟩ | ⟨g, cap, cur, h, _, hh, _⟩
        · rw [h] at e; simp [Value.ownBlock] at e
        · rw [h] at e; simp only [Value.ownBlock, Option.some.injEq] at e; have := lt_of_block hh; omega
      have HN := Lib.hid hne
      obtain ⟨q, hq⟩ : ∃ q, (nth l k).q = q := ⟨_, rfl⟩
      obtain ⟨n0, hn0⟩ : ∃ n0, (nth l k).s = n0 := ⟨_, rfl⟩
      have H0 := Lib.hid (show splitTo l s k ++ parts s q 8 n0 = T by rw [← hTT, splitTo, hq, hn0])
      rw [hq, hn0] at hcs
      rw [hn0] at g1 g2
      clear hbel hown hTT hne hq hn0
      go_wp2_with fail
      have HX := Lib.hid (Box.new wr [.int .i64 n0, .bool q] 52)
      have HBx := Lib.hid ((HB.out.alloc z1 (.cells #[.int .i64 n0, .bool q] 52)))
      have HOx := Lib.hid (HO.out.alloc (.cells #[.int .i64 n0, .bool q] 52))
      go_loopg [6] 9 (fun gk v wi => ∃ (L : List Gro) (m : Nat) (n : Int), m ≤ gk ∧ 1 ≤ n ∧ n ≤ 8 ∧ n ≤ m ∧ L ++ parts s q m n = T ∧ wi.ownsRow w1.heap.size 52 2 v L.length ((L.map Gro.cells).flatten) ∧ Box wi wr.heap.size 52 2 [.int .i64 n, .bool q] ∧ v.ownBlock ≠ some wr.heap.size ∧ Below w1.heap.size w1 wi)
      case atStart => exact ⟨_, 8, n0, by omega, g1, g2, by omega, H0.out, HOx.out, HX.out, HN.out, HBx.out⟩
      case round =>
        obtain ⟨L, m, n, hm, n1, n2, hnm, hL, hown, hbox, hne, hbel⟩ := hrel
        obtain ⟨m, rfl⟩ : ∃ m', m = m' + 1 := ⟨m - 1, by omega⟩
        have hLl : L.length ≤ T.length := by rw [← hL]; simp
        have HLL := Lib.hid hL
        have HOi := Lib.hid hown
        have HXi := Lib.hid hbox
        have HNi := Lib.hid hne
        have HBi := Lib.hid hbel
        have x0 := hbox.cell (j := 0) rfl
        have x1 := hbox.cell (j := 1) rfl
        have xz := hbox.frozen 0
        have xlt := hbox.lt
        have z2 := hbel.size
        clear hL hown hbox hne hbel
        by_cases hq : s < n
        · have HP := Lib.hid (show (L ++ [⟨s, q⟩]) ++ parts s q m (n - s) = T by rw [← HLL.out, parts_more hq s1]; simp)
          go_wp2_with (at_builtin; refine wpList_push2 _ rfl _ _ 25 rfl w1.heap.size 52 (.agg #[.int .i64 0, .bool false]) 2 16 Try.underlying25 info_gro rfl (by decide) (by decide) _ _ _ rfl (HOi.out.alloc _) wr.heap.size [.int .i64 s, .bool q] rfl rfl ?c1 ?c2 ?c3 ?c4 ?_)
          try case c1 =>
            intro j u hj
            match j, hj with
            | 0, hj => simp at hj; subst hj; simp [go_sem]
            | 1, hj => simp at hj; subst hj; simp [go_sem]
          case c2 => first | exact ⟨rfl, rfl⟩ | (intro u hu; simp at hu; rcases hu with rfl | rfl <;> rfl) | (simp; exact ⟨rfl, rfl⟩)
          case c3 => omega
          case c4 => first | omega | (simp; omega)
          intro v' w' hown' hb' hk'
          have HO' := Lib.hid hown'
          have HB' := Lib.hid (((HBi.out.alloc z2 (.cells #[.int .i64 s, .bool q] 52))).trans hb')
          have HK := Lib.hid (hk' _ (by first | omega | (simp; omega)) HNi.out)
          have HX' := Lib.hid ((HXi.out.carry ((Below.refl _ _).alloc (Nat.le_refl _) (.cells #[.int .i64 s, .bool q] 52))).keep HK.out.1)
          have y0 := HX'.out.cell (j := 0) rfl
          have yz := HX'.out.frozen 0
          clear hown' hb' hk' x0 x1 xz
          go_wp2_with fail
          go_roundg m
          case measure => omega
          case rel => exact ⟨L ++ [⟨s, q⟩], m, n - s, Nat.le_refl _, by omega, by omega, by omega, HP.out, by rw [← flat_push, List.length_append]; exact owns_set HO'.out HK.out.2, HX'.out.set 0 _, HK.out.2, HB'.out.setCell (by omega) _⟩
        · have HP := Lib.hid (show L ++ [⟨n, q⟩] = splitTo l s (k + 1) by rw [HT.out, ← HLL.out, parts_last (by omega) (by omega)])
          go_wp2_with (at_builtin; refine wpList_push2 _ rfl _ _ 25 rfl w1.heap.size 52 (.agg #[.int .i64 0, .bool false]) 2 16 Try.underlying25 info_gro rfl (by decide) (by decide) _ _ _ rfl (HOi.out.alloc _) wr.heap.size [.int .i64 n, .bool q] rfl rfl ?c1 ?c2 ?c3 ?c4 ?_)
          try case c1 =>
            intro j u hj
            match j, hj with
            | 0, hj => simp at hj; subst hj; simp [go_sem]
            | 1, hj => simp at hj; subst hj; simp [go_sem]
          case c2 => first | exact ⟨rfl, rfl⟩ | (intro u hu; simp at hu; rcases hu with rfl | rfl <;> rfl) | (simp; exact ⟨rfl, rfl⟩)
          case c3 => omega
          case c4 => first | omega | (simp; omega)
          intro v' w' hown' hb' hk'
          have HO' := Lib.hid hown'
          have HB' := Lib.hid (((HBi.out.alloc z2 (.cells #[.int .i64 n, .bool q] 52))).trans hb')
          clear hown' hb' hk' x0 x1 xz
          go_wp2_with fail
          go_roundw
          case rel => exact ⟨k + 1, by omega, by go_num, by rw [← HP.out, ← flat_push, List.length_append]; exact HO'.out, HB'.out⟩
          case measure => simp [intOf]; omega
    · obtain rfl : k = l.length := by omega
      clear hbel
      obtain ⟨A', cap', rfl⟩ := ownsRow_shape hown
      clear hown
      by_cases h12 : (splitTo l s l.length).length ≤ 12
      · have HH := Lib.hid (H.out.trans (if_pos h12))
        go_wp2_with fail
        go_ret2
        exact ⟨A', cap', retl HH.out, by rw [HH.out]; exact (Own.of_row' HO.out rfl rfl fun _ => rfl).less HB1.out.size, HB1.out.trans (HB.out.mono HB1.out.size)⟩
      · have HH := Lib.hid (H.out.trans (if_neg h12))
        go_wp2_with fail
        go_ret2
        exact ⟨none, 0, retl HH.out, by rw [HH.out]; exact Own.nil, HB1.out.trans (HB.out.mono HB1.out.size)⟩
theorem l1Least_c (a b : Int) (w : World) : Calls Try.prog 59 #[.int .i64 a, .int .i64 b] w fun e w' => e = .returned (.int .i64 (min a b)) ∧ w = w' := by
  by_cases h : a < b
  all_goals
    go_enter Try.func59, Try.ntmps59
    go_wp2_with fail
    go_ret
    exact ⟨reti (by omega), rfl⟩
theorem owns_apart {w : World} {base n g : Nat} {T : TypeId} {v : Value} {k : Nat} {xs : List Value} (h : w.ownsRow base T k v n xs) (hg : g < base) : v.ownBlock ≠ some g := fun e => by
  rcases h.2 with ⟨rfl, _⟩ | ⟨g', cap, cur, rfl, hb, hh, _⟩
  · simp [Value.ownBlock] at e
  · simp only [Value.ownBlock, Option.some.injEq] at e; omega
theorem owns_blocks {w : World} {base n k : Nat} {T : TypeId} {v : Value} {xs : List Value} (h : w.ownsRow base T k v n xs) : ∀ g, v.ownBlock = some g → base ≤ g := fun g e => by
  rcases h.2 with ⟨rfl, _⟩ | ⟨g', cap, cur, rfl, hb, hh, _⟩
  · simp [Value.ownBlock] at e
  · simp only [Value.ownBlock, Option.some.injEq] at e; omega
theorem gro_len (x : Gro) : (Gro.cells x).length = 2 := rfl
theorem parts_small {s : Int} {q : Bool} (hs : 1 ≤ s) : ∀ (m : Nat) (n : Int), n ≤ 8 → ∀ i, i < (parts s q m n).length → okG (nth (parts s q m n) i) = true
  | 0, _, _ => fun i hi => absurd hi (by simp [parts])
  | m + 1, n, hn => fun i hi => by
    by_cases h0 : n ≤ 0
    · rw [parts_done h0] at hi; exact absurd hi (by simp)
    · by_cases h1 : s < n
      · rw [parts_more h1 hs] at hi ⊢
        cases i with
        | zero => simp [nth, okG, inR]; omega
        | succ i =>
          have := parts_small (q := q) hs m (n - s) (by omega) i (by simpa using hi)
          simpa [nth] using this
      · rw [parts_last (by omega) (by omega)] at hi ⊢
        obtain rfl : i = 0 := by simpa using hi
        simp [nth, okG, inR]; omega
theorem nth_append {α : Type} [Inhabited α] (a b : List α) (i : Nat) : nth (a ++ b) i = if i < a.length then nth a i else nth b (i - a.length) := by
  unfold nth
  split
  · next h => simp [List.getElem?_append_left h]
  · next h => simp [List.getElem?_append_right (Nat.le_of_not_lt h)]
theorem splitTo_small {l : List Gro} {s : Int} (hs : 1 ≤ s) (hg : ∀ i, i < l.length → 1 ≤ (nth l i).s ∧ (nth l i).s ≤ 8) : ∀ k, k ≤ l.length → ∀ i, i < (splitTo l s k).length → okG (nth (splitTo l s k) i) = true
  | 0, _ => fun i hi => absurd hi (by simp [splitTo])
  | k + 1, hk => fun i hi => by
    rw [splitTo] at hi ⊢
    rw [nth_append]
    split
    · next h => exact splitTo_small hs hg k (by omega) i h
    · next h => exact parts_small hs 8 _ (hg k (by omega)).2 _ (by rw [List.length_append] at hi; omega)
set_option maxHeartbeats 1600000 in
set_option maxRecDepth 100000 in
theorem specSplitGroups_c (l : List Gro) (A : Option Addr) (cap : Nat) (s : Int) (w : World) (hl : l.length ≤ 1048576) (hr : Rd w w.heap.size 2 Gro.cells A l) :
    Calls Try.prog 21 #[.slice A l.length cap, .int .i64 s] w (GroPost (split l s) w) := by
  rcases hg : goodG l with _ | _
  · have H := Lib.hid (split_no (l := l) (s := s) (by simp [hg]))
    go_enter Try.func21, Try.ntmps21
    go_wp2_with fail
    refine (l13Queue_c l _ _ _ hl (hr.alloc _)).mono ?_
    rintro e w1 ⟨rfl, rfl⟩
    go_wp2_with fail
    go_ret2
    exact ⟨_, 0, retl H.out, by rw [H.out]; exact Own.nil, (by repeat (first | (with_reducible exact Below.refl _ _) | ((with_reducible refine alloc_ ?_ ?_); (focus (first | exact Nat.le_refl _ | (simp; done) | (simp; omega) | omega))) | ((with_reducible refine set_ ?_ ?_); (focus (first | exact Nat.le_refl _ | (simp; done) | (simp; omega) | omega))) | (with_reducible refine Below.drew ?_) | ((with_reducible refine after_ ?_ (by assumption) ?_); (rotate_left; (focus (first | exact Nat.le_refl _ | (simp; done) | (simp; omega) | omega))))))⟩
  rcases hs : inR s 1 10 with _ | _
  · have H := Lib.hid (split_no (l := l) (s := s) (by simp [hs]))
    go_enter Try.func21, Try.ntmps21
    go_wp2_with fail
    refine (l13Queue_c l _ _ _ hl (hr.alloc _)).mono ?_
    rintro e w1 ⟨rfl, rfl⟩
    go_wp2_with (go_at_call 58; refine (l1In_c _ _ _ _).mono ?_; rintro e w' ⟨rfl, rfl⟩)
    go_ret2
    exact ⟨_, 0, retl H.out, by rw [H.out]; exact Own.nil, (by repeat (first | (with_reducible exact Below.refl _ _) | ((with_reducible refine alloc_ ?_ ?_); (focus (first | exact Nat.le_refl _ | (simp; done) | (simp; omega) | omega))) | ((with_reducible refine set_ ?_ ?_); (focus (first | exact Nat.le_refl _ | (simp; done) | (simp; omega) | omega))) | (with_reducible refine Below.drew ?_) | ((with_reducible refine after_ ?_ (by assumption) ?_); (rotate_left; (focus (first | exact Nat.le_refl _ | (simp; done) | (simp; omega) | omega))))))⟩
  have HG := Lib.hid (goodG_true hg)
  have H := Lib.hid (show split l s = if (splitTo l s l.length).length ≤ 12 then (splitTo l s l.length, true) else ([], false) by simp [split, hg, hs])
  obtain ⟨s1, s2⟩ := inR_true.1 hs
  have hl12 := HG.out.1
  obtain ⟨i9, hi9, hj9⟩ := Option.map_eq_some_iff.1 info_gro
  simp only [Prod.mk.injEq] at hj9
  have I9 := Lib.hid hi9
  have J9 := Lib.hid hj9
  clear hi9 hj9
  go_enter Try.func21, Try.ntmps21
  go_wp2_with fail
  refine (l13Queue_c l _ _ _ hl (hr.alloc _)).mono ?_
  rintro e w1 ⟨rfl, rfl⟩
  go_wp2_with (go_at_call 58; refine (l1In_c _ _ _ _).mono ?_; rintro e w' ⟨rfl, rfl⟩)
  clear hg hs
  go_loopw [6, 7, 8] (fun v i _ wr => ∃ k : Nat, k ≤ l.length ∧ i = .int .i64 k ∧ wr.ownsRow w.heap.size 52 2 v (splitTo l s k).length (((splitTo l s k).map Gro.cells).flatten) ∧ Below w.heap.size w wr) (fun _ i _ _ => l.length - (intOf i).toNat)
  case atStart => exact ⟨0, Nat.zero_le _, rfl, ownsRow_empty w 52 2, (by repeat (first | (with_reducible exact Below.refl _ _) | ((with_reducible refine alloc_ ?_ ?_); (focus (first | exact Nat.le_refl _ | (simp; done) | (simp; omega) | omega))) | ((with_reducible refine set_ ?_ ?_); (focus (first | exact Nat.le_refl _ | (simp; done) | (simp; omega) | omega))) | (with_reducible refine Below.drew ?_) | ((with_reducible refine after_ ?_ (by assumption) ?_); (rotate_left; (focus (first | exact Nat.le_refl _ | (simp; done) | (simp; omega) | omega))))))⟩
  case round =>
    obtain ⟨k, hk, rfl, hown, hbel⟩ := hrel
    have HB := Lib.hid hbel
    have HO := Lib.hid hown
    have z1 := hbel.size
    by_cases hlt : k < l.length
    · obtain ⟨b, off, rfl, hb1, hcs⟩ := Gro.rd (hr.below hbel (Nat.le_refl _)) hlt
      obtain ⟨g1, g2⟩ := HG.out.2 k hlt
      have hT := splitTo_len (l := l) (s := s) (k + 1)
      obtain ⟨T, hTT⟩ : ∃ T, splitTo l s (k + 1) = T := ⟨_, rfl⟩
      rw [hTT] at hT
      have HT := Lib.hid hTT
      obtain ⟨A3, cap3, rfl⟩ := ownsRow_shape hown
      obtain ⟨q, hq⟩ : ∃ q, (nth l k).q = q := ⟨_, rfl⟩
      obtain ⟨n0, hn0⟩ : ∃ n0, (nth l k).s = n0 := ⟨_, rfl⟩
      have H0 := Lib.hid (show splitTo l s k ++ parts s q 8 n0 = T by rw [← hTT, splitTo, hq, hn0])
      rw [hq, hn0] at hcs
      rw [hn0] at g1 g2
      have HC := Lib.hid (show wr.cell? ⟨b, off + k * 2 + 1, none⟩ = some (.bool q) from hcs.2)
      clear hbel hown hTT hq hn0
      go_wp2_with fail
      clear hcs
      go_loopg [6, 8] 9 (fun gk v n wi => ∃ (L : List Gro) (m : Nat) (n' : Int), m ≤ gk ∧ n = .int .i64 n' ∧ -10 ≤ n' ∧ n' ≤ 8 ∧ n' ≤ m ∧ L ++ parts s q m n' = T ∧ wi.ownsRow w.heap.size 52 2 v L.length ((L.map Gro.cells).flatten) ∧ wi.cell? ⟨b, off + k * 2 + 1, none⟩ = some (.bool q) ∧ Below w.heap.size w wi)
      case atStart => exact ⟨_, 8, n0, by omega, rfl, by omega, by omega, by omega, H0.out, HO.out, HC.out, HB.out⟩
      case round =>
        obtain ⟨L, m, n, hm, rfl, n1, n2, hnm, hL, hown, hcell, hbel⟩ := hrel
        have HLL := Lib.hid hL
        have HOi := Lib.hid hown
        have HBi := Lib.hid hbel
        have z2 := hbel.size
        have hLl : L.length ≤ T.length := by rw [← hL]; simp
        obtain ⟨A4, cap4, rfl⟩ := ownsRow_shape hown
        by_cases h0 : 0 < n
        · obtain ⟨m, rfl⟩ : ∃ m', m = m' + 1 := ⟨m - 1, by omega⟩
          have HP := Lib.hid (show (L ++ [⟨min n s, q⟩]) ++ parts s q m (n - s) = T by
            rw [← hL]
            by_cases h : s < n
            · rw [parts_more h s1, show min n s = s by omega]; simp
            · rw [parts_last (by omega) h0, parts_done (by omega), show min n s = n by omega]; simp)
          have q9 : ∀ x : Nat, x < w.heap.size → (Value.slice A4 L.length cap4).ownBlock ≠ some x := fun x hx => owns_apart hown hx
          have Q9 := Lib.hid q9
          have q3 : b < wr.heap.size := by omega
          have i1 : (0 : Int) ≤ (k : Int) := by omega
          have i2 : (k : Int) < l.length := by omega
          have HC2 := Lib.hid hcell
          clear hL hown hbel q9
          go_wp2_with fail
          go_region_held3 (fun w' : World => w'.cell? ⟨b, off + k * 2 + 1, none⟩ = some (.bool q)) (first | assumption | (simp [go_sem, *]; done)) (first
            | (go_at_call 59; refine (l1Least_c _ _ _).mono ?_; rintro e w' ⟨rfl, rfl⟩)
            | (refine step_append_lies _ rfl _ _ 25 rfl w.heap.size 52 i9 (.agg #[.int .i64 0, .bool false]) 2 16 Try.underlying25 I9.out J9.out.1 J9.out.2.1 J9.out.2.2 rfl (by decide) _ _ _ rfl ((HOi.out.alloc _).drew) ⟨wr.heap.size, 0, none⟩ 1 1 [.int .i64 (min n s), .bool q] rfl rfl (World.news_of_block (cs := #[.int .i64 (min n s), .bool q]) (t := 52) (fr := (0, 0)) (heap_alloc_new wr _)) (by simp; exact ⟨rfl, rfl⟩) (by decide) (by unfold maxLen; omega) (by omega) (by simp; omega) _ rfl ?_; intro g' cap' w' hown' hgr' hat' hlt'; have hkeep := (hgr'.cell_far ⟨b, off + k * 2 + 1, none⟩ (by simp; omega) (fun e => Q9.out b hb1 e.symm)).trans (show _ = some (Value.bool q) by simp [go_sem, HC2.out, q3]; done)))
          have HO' := Lib.hid hown'
          have HB' := Lib.hid ((((HBi.out.alloc z2 (.cells #[.int .i64 (min n s), .bool q] 52)).drew)).trans ((Below.refl _ _).grown hgr' (by simp; omega) (owns_blocks HOi.out)))
          clear hown' hgr' hat' hlt' hcell
          go_wp2_with fail
          go_roundg m
          case measure => omega
          case rel => exact ⟨L ++ [⟨min n s, q⟩], m, n - s, Nat.le_refl _, rfl, by omega, by omega, by omega, HP.out, by rw [← flat_push, List.length_append]; exact HO'.out, hkeep, HB'.out⟩
        · have HP := Lib.hid (show L = splitTo l s (k + 1) by rw [HT.out, ← hL, parts_done (by omega), List.append_nil])
          clear hL hown hbel hcell
          go_wp2_with fail
          go_roundw
          case rel => exact ⟨k + 1, by omega, by go_num, by rw [← HP.out]; exact HOi.out, HBi.out⟩
          case measure => simp [intOf]; omega
    · obtain rfl : k = l.length := by omega
      clear hbel
      obtain ⟨A', cap', rfl⟩ := ownsRow_shape hown
      have hle := splitTo_len (l := l) (s := s) l.length
      have HW := Lib.hid (Own.of_row' HO.out rfl rfl fun _ => rfl : Own wr w.heap.size 52 2 Gro.cells A' (splitTo l s l.length))
      have hgd := goodG_all (splitTo_small s1 HG.out.2 l.length (Nat.le_refl _))
      clear hown
      by_cases h12 : (splitTo l s l.length).length ≤ 12
      · have HH := Lib.hid (H.out.trans (if_pos h12))
        rw [decide_eq_true h12] at hgd
        go_wp2_with fail
        refine (l13Queue_c (splitTo l s l.length) _ _ _ (by omega) (HW.out.rd fun _ => rfl)).mono ?_
        rintro e w1 ⟨rfl, rfl⟩
        go_wp2_with fail
        go_ret2
        exact ⟨A', cap', retl HH.out, by rw [HH.out]; exact HW.out, HB.out⟩
      · have HH := Lib.hid (H.out.trans (if_neg h12))
        rw [decide_eq_false h12] at hgd
        go_wp2_with fail
        refine (l13Queue_c (splitTo l s l.length) _ _ _ (by omega) (HW.out.rd fun _ => rfl)).mono ?_
        rintro e w1 ⟨rfl, rfl⟩
        go_wp2_with fail
        go_ret2
        exact ⟨_, 0, retl HH.out, by rw [HH.out]; exact Own.nil, HB.out.alloc z1 _⟩
end Go.Proofs.Ytalabohacedgnaa
