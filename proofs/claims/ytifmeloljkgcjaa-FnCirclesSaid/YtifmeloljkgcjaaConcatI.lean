/- slices.Clone, slices.Grow of nil, and slices.Concat of two lists of ints; no conditions beyond the length. -/
import Derived.Test.YtifmeloljkgcjaaFlat
import Derived.Test.YtifmeloljkgcjaaInts
import Derived.Lib.AppendZeros
import Derived.WalkSpells
namespace Go.Proofs.Ytifmeloljkgcjaa
open Go.RowKit Go.Lib

theorem int_one : ∀ x : Int, (intCells x).length = 1 := fun _ => rfl
theorem int_ones : ∀ x : Int, ∀ u ∈ intCells x, u.oneCell' = true := fun x u hu => by
  simp only [intCells, List.mem_cons, List.not_mem_nil, or_false] at hu
  subst hu; rfl
def Grew (w : World) (e : Ending) (w' : World) : Prop := ∃ v, e = .returned v ∧ w'.ownsRow w.heap.size 3 1 v 0 [] ∧ Below w.heap.size w w'
theorem grow_c (n : Nat) (w : World) (hn : n ≤ 1000) : Calls Try.prog 45 #[.slice none 0 0, .int .i64 n] w (Grew w) := by
  by_cases h0 : n = 0
  · subst h0
    go_enter Try.func45, Try.ntmps45
    go_wp2_with fail
    go_ret
    exact ⟨_, rfl, ⟨by simp, .inl ⟨rfl, rfl⟩⟩, Below.refl _ _⟩
  · obtain ⟨i, hi, hz, hs, hb⟩ := info_parts info_int
    have hge := grownCap_ge w n 0 3
    have hle := grownCap_le_maxLen w n 0 3 (by unfold maxLen; omega)
    have hrun := run_append_nil_zeros (P := Try.prog) w 24 3 24 3 i _ .i64 .i64 Try.underlying24 Try.underlying3 hi hz n (by omega) (by omega) (by omega) (by rw [hb]; omega)
    obtain ⟨c, hc⟩ : ∃ c, grownCap w n 0 3 = c := ⟨_, rfl⟩
    rw [hc] at hrun hge hle
    obtain ⟨C, hC⟩ : ∃ C, Builtin.zeroCells (Value.int .i64 0).cells n ++ Builtin.zeroCells (Value.int .i64 0).cells (c - n) = C := ⟨_, rfl⟩
    rw [hC] at hrun
    have HC := Lib.hid (show C.size = c * 1 by
      rw [← hC, Array.size_append, size_zeroCells, size_zeroCells, show (Value.int .i64 0).cells.size = 1 from rfl, ← Nat.add_mul, Nat.add_sub_cancel' hge])
    have HL := Lib.hid hle
    have HR := Lib.hid hrun
    have hn0 : (0 : Int) < n := by omega
    clear hrun hi hz hs hb hC hc hle
    go_enter Try.func45, Try.ntmps45
    go_wp2_with (refine wpList_append_run _ rfl (.tmp 20) (.tmp 21) 24 3 rfl _ _ rfl rfl _ _ HR.out ?_)
    go_ret
    exact ⟨_, rfl, ownsRow_room HC.out HL.out (Nat.le_refl _), ((Below.refl _ _).drew).alloc (Nat.le_refl _) _⟩
/-- What a call hands back: a list of ints of its own. -/
def GivesL (l : List Int) (w : World) (e : Ending) (w' : World) : Prop := ∃ A cap, e = .returned (.slice A l.length cap) ∧ Own w' w.heap.size 3 1 intCells A l ∧ Below w.heap.size w w'
/-- What a call hands back: a list of ints that owns its block from base on. -/
def OwnsL (base : Nat) (l : List Int) (w : World) (e : Ending) (w' : World) : Prop := ∃ A cap, e = .returned (.slice A l.length cap) ∧ w'.ownsRow base 3 1 (.slice A l.length cap) l.length (flat intCells l) ∧ Below base w w'
theorem clone_c (l : List Int) (b off cap : Nat) (w : World) (hl : l.length ≤ 1048576) (hr : Rd w w.heap.size 1 intCells (some ⟨b, off, none⟩) l) :
    Calls Try.prog 27 #[.slice (some ⟨b, off, none⟩) l.length cap] w (OwnsL w.heap.size l w) := by
  have hnil := @Lib.run_eql_slice_nil Try.prog
  have HR := Lib.hid hr
  clear hr
  go_enter Try.func27, Try.ntmps27
  go_wp2_with (refine wpList_extend _ rfl (.tmp 5) (.tmp 6) 24 rfl w.heap.size 3 _ 1 8 Try.underlying24 info_int rfl (by decide) (by decide) _ 0 [] rfl (ownsRow_empty w 3 1) b off l.length cap (flat intCells l) rfl (flat_len int_one l) (HR.out.news (by repeat (first | (with_reducible exact Below.refl _ _) | ((with_reducible refine alloc_ ?_ ?_); (focus (first | exact Nat.le_refl _ | (simp; done) | (simp; omega) | omega))) | ((with_reducible refine set_ ?_ ?_); (focus (first | exact Nat.le_refl _ | (simp; done) | (simp; omega) | omega))) | (with_reducible refine Below.drew ?_) | ((with_reducible refine after_ ?_ (by assumption) ?_); (rotate_left; (focus (first | exact Nat.le_refl _ | (simp; done) | (simp; omega) | omega)))))) int_one (by decide)) (flat_cells int_ones l) (by omega) (by simp) ?_; intro v w1 hown hb1 hk1)
  rw [List.nil_append, Nat.zero_add] at hown
  obtain ⟨A, gc, rfl⟩ := ownsRow_shape hown
  have HO := Lib.hid hown
  have HB := Lib.hid (show Below w.heap.size w w1 from (by repeat (first | (with_reducible exact Below.refl _ _) | ((with_reducible refine alloc_ ?_ ?_); (focus (first | exact Nat.le_refl _ | (simp; done) | (simp; omega) | omega))) | ((with_reducible refine set_ ?_ ?_); (focus (first | exact Nat.le_refl _ | (simp; done) | (simp; omega) | omega))) | (with_reducible refine Below.drew ?_) | ((with_reducible refine after_ ?_ (by assumption) ?_); (rotate_left; (focus (first | exact Nat.le_refl _ | (simp; done) | (simp; omega) | omega)))))))
  clear hown hb1 hk1 hnil
  go_wp2_with fail
  go_ret
  exact ⟨A, gc, rfl, HO.out, HB.out⟩
theorem concat_c (p q : List Int) (gb b1 o1 c1 b2 o2 c2 : Nat) (w : World) (hn : p.length + q.length ≤ 1000) (hp : Rd w w.heap.size 1 intCells (some ⟨b1, o1, none⟩) p) (hq : Rd w w.heap.size 1 intCells (some ⟨b2, o2, none⟩) q)
    (hx : Box w gb 24 2 [.slice (some ⟨b1, o1, none⟩) p.length c1, .slice (some ⟨b2, o2, none⟩) q.length c2]) :
    Calls Try.prog 38 #[.slice (some ⟨gb, 0, none⟩) 2 2] w (GivesL (p ++ q) w) := by
  have hc0 := hx.cell (j := 0) rfl
  have hc1 := hx.cell (j := 1) rfl
  have HX := Lib.hid hx
  have HP := Lib.hid hp
  have HQ := Lib.hid hq
  have hgb := hx.lt
  clear hx hp hq
  go_enter Try.func38, Try.ntmps38
  go_wp2_with fail
  go_loop [3, 5, 11] (fun s _ i => ∃ k n : Nat, i = .int .i64 k ∧ s = .int .i64 n ∧ ((k = 0 ∧ n = 0) ∨ (k = 1 ∧ n = p.length) ∨ (k = 2 ∧ n = p.length + q.length))) (fun _ _ i => 2 - (intOf i).toNat)
  case atStart => exact ⟨0, 0, rfl, rfl, .inl ⟨rfl, rfl⟩⟩
  case round =>
    obtain ⟨k, n, rfl, rfl, h⟩ := hrel
    rcases h with ⟨rfl, rfl⟩ | ⟨rfl, rfl⟩ | ⟨rfl, rfl⟩
    · go_wp2_with fail
      go_round
      case rel => exact ⟨1, p.length, rfl, by go_num, .inr (.inl ⟨rfl, rfl⟩)⟩
      case measure => simp [intOf]
    · go_wp2_with fail
      go_round
      case rel => exact ⟨2, p.length + q.length, rfl, by go_num, .inr (.inr ⟨rfl, rfl⟩)⟩
      case measure => simp [intOf]
    · go_wp2_with fail
      clear hc0 hc1
      refine (grow_c (p.length + q.length) w hn).mono ?_
      rintro e w1 ⟨v, rfl, hown, hb⟩
      have HO := Lib.hid hown
      have HB := Lib.hid hb
      clear hown hb
      go_wp2_with fail
      go_loopw [6, 8, 27] (fun v _ i wr => ∃ (k : Nat) (o : List Int), i = .int .i64 k ∧ wr.ownsRow w.heap.size 3 1 v o.length (flat intCells o) ∧ Below w.heap.size w wr ∧ ((k = 0 ∧ o = []) ∨ (k = 1 ∧ o = p) ∨ (k = 2 ∧ o = p ++ q))) (fun _ _ i _ => 2 - (intOf i).toNat)
      case atStart => exact ⟨0, [], rfl, HO.out, HB.out, .inl ⟨rfl, rfl⟩⟩
      case round =>
        obtain ⟨k, o, rfl, hown, hbel, h⟩ := hrel
        have HO := Lib.hid hown
        have HB := Lib.hid hbel
        have hX := HX.out.below hbel hgb
        have hc0 := hX.cell (j := 0) rfl
        have hc1 := hX.cell (j := 1) rfl
        have z1 := hbel.size
        clear hown hbel hX
        rcases h with ⟨rfl, rfl⟩ | ⟨rfl, rfl⟩ | ⟨rfl, rfl⟩
        · go_wp2_with (refine wpList_extend _ rfl (.tmp 31) (.tmp 32) 24 rfl w.heap.size 3 _ 1 8 Try.underlying24 info_int rfl (by decide) (by decide) _ _ _ rfl HO.out b1 o1 p.length c1 (flat intCells p) rfl (flat_len int_one p) (HP.out.news HB.out int_one (by decide)) (flat_cells int_ones p) (by simp; omega) z1 ?_; intro v2 w2 hown2 hb2 hk2; have HO2 := Lib.hid hown2; have HB2 := Lib.hid (HB.out.trans hb2); clear hown2 hb2 hk2)
          go_roundw
          case rel => exact ⟨1, p, rfl, by simpa [flat] using HO2.out, HB2.out, .inr (.inl ⟨rfl, rfl⟩)⟩
          case measure => simp [intOf]
        · go_wp2_with (refine wpList_extend _ rfl (.tmp 31) (.tmp 32) 24 rfl w.heap.size 3 _ 1 8 Try.underlying24 info_int rfl (by decide) (by decide) _ _ _ rfl HO.out b2 o2 q.length c2 (flat intCells q) rfl (flat_len int_one q) (HQ.out.news HB.out int_one (by decide)) (flat_cells int_ones q) (by omega) z1 ?_; intro v2 w2 hown2 hb2 hk2; have HO2 := Lib.hid hown2; have HB2 := Lib.hid (HB.out.trans hb2); clear hown2 hb2 hk2)
          go_roundw
          case rel => exact ⟨2, o ++ q, rfl, by rw [← flat_app, List.length_append]; exact HO2.out, HB2.out, .inr (.inr ⟨rfl, rfl⟩)⟩
          case measure => simp [intOf]
        · obtain ⟨A, cap, rfl⟩ := ownsRow_shape HO.out
          go_wp2_with fail
          go_ret
          exact ⟨A, cap, rfl, own_flat HO.out rfl rfl int_one, HB.out⟩
end Go.Proofs.Ytifmeloljkgcjaa
