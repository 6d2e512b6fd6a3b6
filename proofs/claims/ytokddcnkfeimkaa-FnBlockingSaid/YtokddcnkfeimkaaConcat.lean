/- slices.Grow of nil, and slices.Concat of two lists of tasks; no conditions beyond the length. -/
import Derived.Test.YtokddcnkfeimkaaFlat
import Derived.Test.YtokddcnkfeimkaaTasks
import Derived.Lib.AppendZeros
namespace Go.Proofs.Ytokddcnkfeimkaa
open Go.RowKit Go.Lib

theorem Tsk.four : ∀ x : Tsk, x.cells.length = 4 := fun _ => rfl
theorem Tsk.ones : ∀ x : Tsk, ∀ u ∈ x.cells, u.oneCell' = true := fun x u hu => by
  simp only [Tsk.cells, List.mem_cons, List.not_mem_nil, or_false] at hu
  rcases hu with rfl | rfl | rfl | rfl <;> rfl
def Grew (w : World) (e : Ending) (w' : World) : Prop := ∃ v, e = .returned v ∧ w'.ownsRow w.heap.size 50 4 v 0 [] ∧ Below w.heap.size w w'
theorem grow_c (n : Nat) (w : World) (hn : n ≤ 1000) : Calls Try.prog 77 #[.slice none 0 0, .int .i64 n] w (Grew w) := by
  by_cases h0 : n = 0
  · subst h0
    go_enter Try.func77, Try.ntmps77
    go_wp2_with fail
    go_ret
    exact ⟨_, rfl, ⟨by simp, .inl ⟨rfl, rfl⟩⟩, Below.refl _ _⟩
  · obtain ⟨i, hi, hz, hs, hb⟩ := info_parts info_Task
    have hge := grownCap_ge w n 0 50
    have hle := grownCap_le_maxLen w n 0 50 (by unfold maxLen; omega)
    have hrun := run_append_nil_zeros (P := Try.prog) w 25 3 25 50 i _ .i64 .i64 Try.underlying25 Try.underlying3 hi hz n (by omega) (by omega) (by omega) (by rw [hb]; omega)
    obtain ⟨c, hc⟩ : ∃ c, grownCap w n 0 50 = c := ⟨_, rfl⟩
    rw [hc] at hrun hge hle
    obtain ⟨C, hC⟩ : ∃ C, Builtin.zeroCells (Value.agg #[.int .i64 0, .int .i64 0, .int .i64 0, .int .i64 0]).cells n ++ Builtin.zeroCells (Value.agg #[.int .i64 0, .int .i64 0, .int .i64 0, .int .i64 0]).cells (c - n) = C := ⟨_, rfl⟩
    rw [hC] at hrun
    have HC := Lib.hid (show C.size = c * 4 by
      rw [← hC, Array.size_append, size_zeroCells, size_zeroCells, show (Value.agg #[.int .i64 0, .int .i64 0, .int .i64 0, .int .i64 0]).cells.size = 4 from rfl, ← Nat.add_mul, Nat.add_sub_cancel' hge])
    have HL := Lib.hid hle
    have HR := Lib.hid hrun
    have hn0 : (0 : Int) < n := by omega
    clear hrun hi hz hs hb hC hc hle
    go_enter Try.func77, Try.ntmps77
    go_wp2_with (refine wpList_append_run _ rfl (.tmp 20) (.tmp 21) 25 3 rfl _ _ rfl rfl _ _ HR.out ?_)
    go_ret
    exact ⟨_, rfl, ownsRow_room HC.out HL.out (Nat.le_refl _), ((Below.refl _ _).drew).alloc (Nat.le_refl _) _⟩
/-- What a call hands back: a list of tasks of its own. -/
def GivesT (l : List Tsk) (w : World) (e : Ending) (w' : World) : Prop := ∃ A cap, e = .returned (.slice A l.length cap) ∧ Own w' w.heap.size 50 4 Tsk.cells A l ∧ Below w.heap.size w w'
theorem concat_c (p q : List Tsk) (gb b1 o1 c1 b2 o2 c2 : Nat) (w : World) (hn : p.length + q.length ≤ 1000) (hp : Rd w w.heap.size 4 Tsk.cells (some ⟨b1, o1, none⟩) p) (hq : Rd w w.heap.size 4 Tsk.cells (some ⟨b2, o2, none⟩) q)
    (hx : Box w gb 25 2 [.slice (some ⟨b1, o1, none⟩) p.length c1, .slice (some ⟨b2, o2, none⟩) q.length c2]) :
    Calls Try.prog 66 #[.slice (some ⟨gb, 0, none⟩) 2 2] w (GivesT (p ++ q) w) := by
  have hc0 := hx.cell (j := 0) rfl
  have hc1 := hx.cell (j := 1) rfl
  have HX := Lib.hid hx
  have HP := Lib.hid hp
  have HQ := Lib.hid hq
  have hgb := hx.lt
  clear hx hp hq
  go_enter Try.func66, Try.ntmps66
  go_wp2_with fail
  go_loop [3, 5, 11] (fun s _ i => ∃ k n : Nat, i = .int .i64 k ∧ s = .int .i64 n ∧ ((k = 0 ∧ n = 0) ∨ (k = 1 ∧ n = p.length) ∨ (k = 2 ∧ n = p.length + q.length))) (fun _ _ i => 2 - (intOf i).toNat)
  case atStart => exact ⟨0, 0, rfl, rfl, .inl ⟨rfl, rfl⟩⟩
  case round =>
    obtain ⟨k, n, rfl, rfl, h⟩ := hrel
    rcases h with ⟨rfl, rfl⟩ | ⟨rfl, rfl⟩ | ⟨rfl, rfl⟩
    · go_wp2_with fail
      go_round
      case rel => exact ⟨1, p.length, rfl, by go_num, .inr (.inl ⟨rfl, rfl⟩)⟩
      case measure => simp [intOf]
    · go_wp2_with fail
      go_round
      case rel => exact ⟨2, p.length + q.length, rfl, by go_num, .inr (.inr ⟨rfl, rfl⟩)⟩
      case measure => simp [intOf]
    · go_wp2_with fail
      clear hc0 hc1
      refine (grow_c (p.length + q.length) w hn).mono ?_
      rintro e w1 ⟨v, rfl, hown, hb⟩
      have HO := Lib.hid hown
      have HB := Lib.hid hb
      clear hown hb
      go_wp2_with fail
      go_loopw [6, 8, 27] (fun v _ i wr => ∃ (k : Nat) (o : List Tsk), i = .int .i64 k ∧ wr.ownsRow w.heap.size 50 4 v o.length (flat Tsk.cells o) ∧ Below w.heap.size w wr ∧ ((k = 0 ∧ o = []) ∨ (k = 1 ∧ o = p) ∨ (k = 2 ∧ o = p ++ q))) (fun _ _ i _ => 2 - (intOf i).toNat)
      case atStart => exact ⟨0, [], rfl, HO.out, HB.out, .inl ⟨rfl, rfl⟩⟩
      case round =>
        obtain ⟨k, o, rfl, hown, hbel, h⟩ := hrel
        have HO := Lib.hid hown
        have HB := Lib.hid hbel
        have hX := HX.out.below hbel hgb
        have hc0 := hX.cell (j := 0) rfl
        have hc1 := hX.cell (j := 1) rfl
        have z1 := hbel.size
        clear hown hbel hX
        rcases h with ⟨rfl, rfl⟩ | ⟨rfl, rfl⟩ | ⟨rfl, rfl⟩
        · go_wp2_with (refine wpList_extend _ rfl (.tmp 31) (.tmp 32) 25 rfl w.heap.size 50 _ 4 32 Try.underlying25 info_Task rfl (by decide) (by decide) _ _ _ rfl HO.out b1 o1 p.length c1 (flat Tsk.cells p) rfl (flat_len Tsk.four p) (HP.out.news HB.out Tsk.four (by decide)) (flat_cells Tsk.ones p) (by simp; omega) z1 ?_; intro v2 w2 hown2 hb2 hk2; have HO2 := Lib.hid hown2; have HB2 := Lib.hid (HB.out.trans hb2); clear hown2 hb2 hk2)
          go_roundw
          case rel => exact ⟨1, p, rfl, by simpa [flat] using HO2.out, HB2.out, .inr (.inl ⟨rfl, rfl⟩)⟩
          case measure => simp [intOf]
        · go_wp2_with (refine wpList_extend _ rfl (.tmp 31) (.tmp 32) 25 rfl w.heap.size 50 _ 4 32 Try.underlying25 info_Task rfl (by decide) (by decide) _ _ _ rfl HO.out b2 o2 q.length c2 (flat Tsk.cells q) rfl (flat_len Tsk.four q) (HQ.out.news HB.out Tsk.four (by decide)) (flat_cells Tsk.ones q) (by omega) z1 ?_; intro v2 w2 hown2 hb2 hk2; have HO2 := Lib.hid hown2; have HB2 := Lib.hid (HB.out.trans hb2); clear hown2 hb2 hk2)
          go_roundw
          case rel => exact ⟨2, o ++ q, rfl, by rw [← flat_app, List.length_append]; exact HO2.out, HB2.out, .inr (.inr ⟨rfl, rfl⟩)⟩
          case measure => simp [intOf]
        · obtain ⟨A, cap, rfl⟩ := ownsRow_shape HO.out
          go_wp2_with fail
          go_ret
          exact ⟨A, cap, rfl, own_flat HO.out rfl rfl Tsk.four, HB.out⟩
end Go.Proofs.Ytokddcnkfeimkaa
