/- The queue behind a cabin: the program's and the reference's AfterCabin return one Lean function; no conditions but the length. -/
import Derived.Test.YtalabohacedgnaaFillCab
import Derived.Test.YtalabohacedgnaaHasI
namespace Go.Proofs.Ytalabohacedgnaa
open Go.RowKit

def IdxPost (o : List Int) (x : Int) (w : World) (e : Ending) (w' : World) : Prop := ∃ r : Int, e = .returned (.int .i64 r) ∧ decide (0 ≤ r) = hasI o x ∧ w = w'
theorem indexI_c (o : List Int) (A : Option Addr) (cap : Nat) (x : Int) (w : World) (hl : o.length ≤ 1048576) (hr : Rd w w.heap.size 1 intCells A o) :
    Calls Try.prog 87 #[.slice A o.length cap, .int .i64 x] w (IdxPost o x w) := by
  go_enter Try.func87, Try.ntmps87
  go_wp2_with fail
  go_loop [5, 8] (fun _ i => ∃ k : Nat, k ≤ o.length ∧ i = .int .i64 k ∧ ∀ j, j < k → nth o j ≠ x) (fun _ i => o.length - (intOf i).toNat)
  case atStart => exact ⟨0, Nat.zero_le _, rfl, fun j hj => absurd hj (by omega)⟩
  case round =>
    obtain ⟨k, hk, rfl, hall⟩ := hrel
    have HA := Lib.hid hall
    clear hall
    by_cases hlt : k < o.length
    · obtain ⟨b, off, rfl, hb, hc⟩ := hr.int hlt
      by_cases hq : nth o k = x
      · have H := Lib.hid (hasI_yes hlt hq)
        have hq' : (x == nth o k) = true := by simp [hq]
        clear hq
        go_wp2_with fail
        go_ret
        exact ⟨k, rfl, by rw [H.out]; simp, rfl⟩
      · have H := Lib.hid (below_add (p := fun j => nth o j ≠ x) HA.out hq)
        have hq' : (x == nth o k) = false := by simp; exact fun e => hq e.symm
        clear hq
        go_wp2_with fail
        go_round
        case rel => exact ⟨k + 1, by omega, by go_num, H.out⟩
        case measure => simp [intOf]; omega
    · obtain rfl : k = o.length := by omega
      have H := Lib.hid (hasI_no HA.out)
      go_wp2_with fail
      go_ret
      exact ⟨-1, rfl, by rw [H.out]; rfl, rfl⟩
theorem containsI_c (o : List Int) (A : Option Addr) (cap : Nat) (x : Int) (w : World) (hl : o.length ≤ 1048576) (hr : Rd w w.heap.size 1 intCells A o) :
    Calls Try.prog 80 #[.slice A o.length cap, .int .i64 x] w fun e w' => e = .returned (.bool (hasI o x)) ∧ w = w' := by
  go_enter Try.func80, Try.ntmps80
  go_wp2_with fail
  refine (indexI_c o _ _ _ _ hl hr).mono ?_
  rintro e w1 ⟨r, rfl, hd, rfl⟩
  have HD := Lib.hid hd
  clear hd
  go_wp2_with fail
  go_ret
  exact ⟨retb HD.out, rfl⟩
/-- Who stays behind, and how many people got in. -/
def restTo (l : List Gro) (u : List Int) : Nat → List Gro
  | 0 => []
  | k + 1 => if hasI u k then restTo l u k else restTo l u k ++ [nth l k]
def inTo (l : List Gro) (u : List Int) : Nat → Int
  | 0 => 0
  | k + 1 => if hasI u k then inTo l u k + (nth l k).s else inTo l u k
theorem restTo_len {l : List Gro} {u : List Int} : ∀ k, (restTo l u k).length ≤ k
  | 0 => Nat.le_refl _
  | k + 1 => by have := restTo_len (l := l) (u := u) k; rw [restTo]; split <;> simp <;> omega
theorem inTo_bd {l : List Gro} {u : List Int} (h : ∀ i, i < l.length → 1 ≤ (nth l i).s ∧ (nth l i).s ≤ 8) : ∀ k, k ≤ l.length → 0 ≤ inTo l u k ∧ inTo l u k ≤ 8 * k
  | 0, _ => by simp [inTo]
  | k + 1, hk => by
    have ih := inTo_bd (u := u) h k (by omega)
    have := h k (by omega)
    rw [inTo]; split <;> omega
def AftPost (l : List Gro) (u : List Int) (w : World) (e : Ending) (w' : World) : Prop := ∃ A cap, e = .returned (.tuple #[.slice A (restTo l u l.length).length cap, .int .i64 (inTo l u l.length)]) ∧ Own w' w.heap.size 52 2 Gro.cells A (restTo l u l.length) ∧ Below w.heap.size w w'
set_option maxHeartbeats 800000 in
set_option maxRecDepth 100000 in
theorem after_c (l : List Gro) (u : List Int) (A B : Option Addr) (cap cap' : Nat) (w : World) (hr : Rd w w.heap.size 2 Gro.cells A l) (hs : Rd w w.heap.size 1 intCells B u) (hul : u.length ≤ 1000) (hg : l.length ≤ 12 ∧ ∀ i, i < l.length → 1 ≤ (nth l i).s ∧ (nth l i).s ≤ 8) :
    Calls Try.prog 67 #[.slice A l.length cap, .slice B u.length cap'] w (AftPost l u w) := by
  obtain ⟨hl12, hg⟩ := hg
  have HG := Lib.hid hg
  have HI := Lib.hid (inTo_bd (u := u) hg)
  clear hg
  go_enter Try.func67, Try.ntmps67
  go_wp2_with fail
  go_loopw [6, 7, 8, 9, 13] (fun v p _ _ i wr => ∃ k : Nat, k ≤ l.length ∧ i = .int .i64 k ∧ p = .int .i64 (inTo l u k) ∧ wr.ownsRow w.heap.size 52 2 v (restTo l u k).length (((restTo l u k).map Gro.cells).flatten) ∧ Below w.heap.size w wr) (fun _ _ _ _ i _ => l.length - (intOf i).toNat)
  case atStart => exact ⟨0, Nat.zero_le _, rfl, rfl, ownsRow_empty w 52 2, (by repeat (first | (with_reducible exact Below.refl _ _) | ((with_reducible refine alloc_ ?_ ?_); (focus (first | exact Nat.le_refl _ | (simp; done) | (simp; omega) | omega))) | ((with_reducible refine set_ ?_ ?_); (focus (first | exact Nat.le_refl _ | (simp; done) | (simp; omega) | omega))) | (with_reducible refine Below.drew ?_) | ((with_reducible refine after_ ?_ (by assumption) ?_); (rotate_left; (focus (first | exact Nat.le_refl _ | (simp; done) | (simp; omega) | omega))))))⟩
  case round =>
    obtain ⟨k, hk, rfl, rfl, hown, hbel⟩ := hrel
    have HB := Lib.hid hbel
    have HO := Lib.hid hown
    have z1 := hbel.size
    by_cases hlt : k < l.length
    · obtain ⟨b, off, rfl, hb1, hcs⟩ := Gro.rd (hr.below hbel (Nat.le_refl _)) hlt
      obtain ⟨g1, g2⟩ := HG.out k hlt
      obtain ⟨p1, p2⟩ := HI.out k hk
      have hle := restTo_len (l := l) (u := u) k
      have l1 : b < wr.heap.size := by omega
      have hsb := Lib.hid ((hs.carry (hbel.mono (Nat.le_refl _))).alloc (.cells #[.int .i64 (nth l k).s, .bool (nth l k).q] 52))
      obtain ⟨A3, cap3, rfl⟩ := ownsRow_shape hown
      clear hbel hown
      rcases hh : hasI u k with _ | _
      · have H := Lib.hid (show restTo l u (k + 1) = restTo l u k ++ [nth l k] by rw [restTo, if_neg (by simp [hh])])
        have H2 := Lib.hid (show inTo l u (k + 1) = inTo l u k by rw [inTo, if_neg (by simp [hh])])
        go_wp2_with (first | (go_at_call 80; refine (containsI_c u _ _ _ _ (by omega) hsb.out).mono ?_; rintro e w' ⟨rfl, rfl⟩) | (at_builtin; refine wpList_push2 _ rfl _ _ 25 rfl w.heap.size 52 (.agg #[.int .i64 0, .bool false]) 2 16 Try.underlying25 info_gro rfl (by decide) (by decide) _ _ _ rfl ((HO.out.alloc _).alloc _) (wr.heap.size + 1) [.int .i64 (nth l k).s, .bool (nth l k).q] rfl rfl ?c1 ?c2 ?c3 ?c4 ?_))
        try case c1 =>
          intro j u hj
          match j, hj with
          | 0, hj => simp at hj; subst hj; simp [go_sem]
          | 1, hj => simp at hj; subst hj; simp [go_sem]
        case c2 => first | exact ⟨rfl, rfl⟩ | (intro u hu; simp at hu; rcases hu with rfl | rfl <;> rfl) | (simp; exact ⟨rfl, rfl⟩)
        case c3 => omega
        case c4 => first | omega | (simp; omega)
        intro v' w' hown' hb' hk'
        have HO' := Lib.hid hown'
        have HB' := Lib.hid (((HB.out.alloc z1 (.cells #[.int .i64 (nth l k).s, .bool (nth l k).q] 52)).alloc (by simp; omega) (.cells #[.int .i64 (nth l k).s, .bool (nth l k).q] 52)).trans hb')
        clear hown' hb' hk'
        go_wp2_with fail
        go_roundw
        case rel => exact ⟨k + 1, by omega, by go_num, by rw [H2.out], by rw [H.out, ← flat_push, List.length_append]; exact HO'.out, HB'.out⟩
        case measure => simp [intOf]; omega
      · have H := Lib.hid (show restTo l u (k + 1) = restTo l u k by rw [restTo, if_pos hh])
        have H2 := Lib.hid (show inTo l u (k + 1) = inTo l u k + (nth l k).s by rw [inTo, if_pos hh])
        go_wp2_with (go_at_call 80; refine (containsI_c u _ _ _ _ (by omega) hsb.out).mono ?_; rintro e w' ⟨rfl, rfl⟩)
        go_roundw
        case rel => exact ⟨k + 1, by omega, by go_num, by rw [H2.out], by rw [H.out]; exact HO.out.alloc _, HB.out.alloc z1 _⟩
        case measure => simp [intOf]; omega
    · obtain rfl : k = l.length := by omega
      clear hbel
      obtain ⟨A', cap'', rfl⟩ := ownsRow_shape hown
      clear hown
      go_wp2_with fail
      go_ret2
      exact ⟨A', cap'', rfl, Own.of_row' HO.out rfl rfl fun _ => rfl, HB.out⟩
end Go.Proofs.Ytalabohacedgnaa
