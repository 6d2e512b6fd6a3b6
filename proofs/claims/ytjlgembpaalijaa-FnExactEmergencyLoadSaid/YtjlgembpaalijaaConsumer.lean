/- Lists of consumers in memory: copied, compared, measured; no conditions beyond the length that the statements ask for. -/
import Derived.Test.YtjlgembpaalijaaRows
import Derived.Test.YtjlgembpaalijaaSlice
namespace Go.Proofs.Ytjlgembpaalijaa
open Go.RowKit
structure Cons where
  n : ByteArray
  w : Int
  r : Int
instance : Inhabited Cons := ⟨⟨ByteArray.empty, 0, 0⟩⟩
def Cons.cells (x : Cons) : List Value := [.string x.n, .int .i64 x.w, .int .i64 x.r]
theorem Cons.rd {w : World} {B : Nat} {A : Option Addr} {l : List Cons} (h : Rd w B 3 Cons.cells A l) {i : Nat} (hi : i < l.length) : ∃ b off, A = some ⟨b, off, none⟩ ∧ b < B ∧ w.cell? ⟨b, off + i * 3, none⟩ = some (.string (nth l i).n) ∧ w.cell? ⟨b, off + i * 3 + 1, none⟩ = some (.int .i64 (nth l i).w) ∧ w.cell? ⟨b, off + i * 3 + 2, none⟩ = some (.int .i64 (nth l i).r) := by
  obtain ⟨b, off, e, hlt, hc⟩ := h i hi
  exact ⟨b, off, e, hlt, by simpa using hc 0 _ rfl, hc 1 _ rfl, hc 2 _ rfl⟩
theorem toConsumer_c (x : Cons) (w : World) : Calls Try.prog 44 #[.agg #[.string x.n, .int .i64 x.w, .int .i64 x.r]] w fun e w' => e = .returned (.agg #[.string x.n, .int .i64 x.w, .int .i64 x.r]) ∧ Below w.heap.size w w' := by
  go_enter Try.func44, Try.ntmps44
  go_wp2
  exact bodyPost_ret (v := .agg #[.string x.n, .int .i64 x.w, .int .i64 x.r]) (by simp [results, Try.results44, go_sem]) rfl ⟨rfl, (by repeat (first | (with_reducible exact Below.refl _ _) | ((with_reducible refine alloc_ ?_ ?_); (focus (first | exact Nat.le_refl _ | (simp; done) | (simp; omega) | omega))) | ((with_reducible refine set_ ?_ ?_); (focus (first | exact Nat.le_refl _ | (simp; done) | (simp; omega) | omega))) | (with_reducible refine Below.drew ?_) | ((with_reducible refine after_ ?_ (by assumption) ?_); (rotate_left; (focus (first | exact Nat.le_refl _ | (simp; done) | (simp; omega) | omega))))))⟩
theorem eqConsumer_same (x : Cons) (w : World) : Calls Try.prog 48 #[.agg #[.string x.n, .int .i64 x.w, .int .i64 x.r], .agg #[.string x.n, .int .i64 x.w, .int .i64 x.r]] w fun e w' => e = .returned (.bool true) ∧ Below w.heap.size w w' := by
  go_enter Try.func48, Try.ntmps48
  go_wp2
  go_ret
  exact ⟨rfl, (by repeat (first | (with_reducible exact Below.refl _ _) | ((with_reducible refine alloc_ ?_ ?_); (focus (first | exact Nat.le_refl _ | (simp; done) | (simp; omega) | omega))) | ((with_reducible refine set_ ?_ ?_); (focus (first | exact Nat.le_refl _ | (simp; done) | (simp; omega) | omega))) | (with_reducible refine Below.drew ?_) | ((with_reducible refine after_ ?_ (by assumption) ?_); (rotate_left; (focus (first | exact Nat.le_refl _ | (simp; done) | (simp; omega) | omega))))))⟩
theorem info_Consumer : (Try.prog.info? 58).map (fun i => (i.zero, i.size, i.bytes)) = some (some (.agg #[.string ByteArray.empty, .int .i64 0, .int .i64 0]), 3, 32) := by kernel_rfl
set_option maxRecDepth 100000 in
theorem toConsumerS_c (l : List Cons) (A : Option Addr) (cap : Nat) (w : World) (hl : l.length ≤ 1048576) (hr : Rd w w.heap.size 3 Cons.cells A l) :
    Calls Try.prog 26 #[.slice A l.length cap] w fun e w' => e = .returned (.slice (some ⟨w.heap.size, 0, none⟩) l.length l.length) ∧ Row w' w.heap.size 58 3 Cons.cells l ∧ Below w.heap.size w w' := by
  have hmk := make_rows (P := Try.prog) 43 58 _ 3 32 Try.underlying43 info_Consumer l.length (by omega) (by omega)
  go_enter Try.func26, Try.ntmps26
  go_wp2_with fail
  go_loopw [4] (fun i wr => ∃ k : Nat, k ≤ l.length ∧ i = .int .i64 k ∧ Fill w wr 58 3 Cons.cells l k) (fun i _ => l.length - (intOf i).toNat)
  case atStart => exact ⟨0, Nat.zero_le _, rfl, Fill.start (made_row w _ _ _ (size_madeCells _ _)) (by repeat (first | (with_reducible exact Below.refl _ _) | ((with_reducible refine alloc_ ?_ ?_); (focus (first | exact Nat.le_refl _ | (simp; done) | (simp; omega) | omega))) | ((with_reducible refine set_ ?_ ?_); (focus (first | exact Nat.le_refl _ | (simp; done) | (simp; omega) | omega))) | (with_reducible refine Below.drew ?_) | ((with_reducible refine after_ ?_ (by assumption) ?_); (rotate_left; (focus (first | exact Nat.le_refl _ | (simp; done) | (simp; omega) | omega))))))⟩
  case round =>
    obtain ⟨k, hk, rfl, hfill⟩ := hrel
    have HF := Lib.hid hfill
    have hbel := hfill.2
    by_cases hlt : k < l.length
    · obtain ⟨b, off, rfl, hb, hc0, hc1, hc2⟩ := Cons.rd (hr.below hbel (Nat.le_refl _)) hlt
      obtain ⟨u0, hs0⟩ := hfill.cell hlt (show 0 < 3 by omega)
      obtain ⟨u1, hs1⟩ := hfill.cell hlt (show 1 < 3 by omega)
      obtain ⟨u2, hs2⟩ := hfill.cell hlt (show 2 < 3 by omega)
      have hgs := hfill.size
      simp only [Nat.add_zero] at hs0
      clear hbel hfill
      go_wp2_with fail
      refine (toConsumer_c _ _).mono ?_
      rintro e w1 ⟨rfl, hb1⟩
      have ht0 := (hb1.cell (p := ⟨w.heap.size, k * 3, none⟩) hgs).trans hs0
      have ht1 := (hb1.cell (p := ⟨w.heap.size, k * 3 + 1, none⟩) hgs).trans hs1
      have ht2 := (hb1.cell (p := ⟨w.heap.size, k * 3 + 2, none⟩) hgs).trans hs2
      have hf0 := (hb1.frozen (p := ⟨w.heap.size, k * 3, none⟩) hgs).trans (HF.out.frozen _)
      have hf1 := (hb1.frozen (p := ⟨w.heap.size, k * 3 + 1, none⟩) hgs).trans (HF.out.frozen _)
      have hf2 := (hb1.frozen (p := ⟨w.heap.size, k * 3 + 2, none⟩) hgs).trans (HF.out.frozen _)
      have HF1 := Lib.hid hb1
      clear hb1 hs0 hs1 hs2
      go_wp2_with fail
      go_roundw
      case rel => exact ⟨k + 1, by omega, by go_num, by simpa [puts, Cons.cells] using HF.out.step HF1.out hlt⟩
      case measure => simp [intOf]; omega
    · clear hbel hfill
      obtain rfl : k = l.length := by omega
      go_wp2_with fail
      go_ret
      exact ⟨rfl, HF.out.row, HF.out.2⟩
theorem eqConsumerS_same (l : List Cons) (A B : Option Addr) (cap cap' : Nat) (w : World) (hl : l.length ≤ 1048576) (hr : Rd w w.heap.size 3 Cons.cells A l) (hr' : Rd w w.heap.size 3 Cons.cells B l) :
    Calls Try.prog 28 #[.slice A l.length cap, .slice B l.length cap'] w fun e w' => e = .returned (.bool true) ∧ Below w.heap.size w w' := by
  have hb : ((l.length : Int) != l.length) = false := by simp
  go_enter Try.func28, Try.ntmps28
  go_wp2_with fail
  go_loopw [5] (fun i wr => ∃ k : Nat, k ≤ l.length ∧ i = .int .i64 k ∧ Below w.heap.size w wr) (fun i _ => l.length - (intOf i).toNat)
  case atStart => exact ⟨0, Nat.zero_le _, rfl, Below.refl _ _⟩
  case round =>
    obtain ⟨k, hk, rfl, hbel⟩ := hrel
    have HB := Lib.hid hbel
    by_cases hlt : k < l.length
    · obtain ⟨b, off, rfl, hb1, hc0, hc1, hc2⟩ := Cons.rd (hr.below hbel (Nat.le_refl _)) hlt
      obtain ⟨b', off', rfl, hb2, hd0, hd1, hd2⟩ := Cons.rd (hr'.below hbel (Nat.le_refl _)) hlt
      have z1 := hbel.size
      have l1 : b < wr.heap.size := by omega
      have l2 : b' < wr.heap.size := by omega
      have i1 : (0 : Int) ≤ (k : Int) := by omega
      have i2 : (k : Int) < l.length := by omega
      clear hbel
      go_wp2_with fail
      refine wp_region_mem (by kernel_rfl) (by kernel_rfl) ?_
      repeat (go_big_quiet_step ((go_at_call 48; exact mem_of (eqConsumer_same _ _))))
      refine wpQuiet_nil ?_
      intro _ hw'
      obtain ⟨⟨wq, hbq⟩, hw''⟩ := hw'
      obtain rfl := hw''.symm
      obtain ⟨hcq, hfq, hzq⟩ := bcell hbq
      try simp [Nat.add_one_le_iff] at hzq
      go_wp2_with fail
      go_roundw
      case rel => exact ⟨k + 1, by omega, by go_num, HB.out.trans (hbq.mono z1)⟩
      case measure => simp [intOf]; omega
    · clear hbel
      obtain rfl : k = l.length := by omega
      go_wp2_with fail
      go_ret
      exact ⟨rfl, HB.out⟩
theorem szConsumer_c (x : Cons) (left : Int) (w : World) (h0 : 0 ≤ left) (h1 : left ≤ 1048576) (hs : x.n.size ≤ maxLen) : Calls Try.prog 42 #[.agg #[.string x.n, .int .i64 x.w, .int .i64 x.r], .int .i64 left] w fun e w' => e = .returned (.int .i64 (if (x.n.size : Int) ≤ left then left - x.n.size else -1)) ∧ Below w.heap.size w w' := by
  unfold maxLen at hs
  by_cases h : (x.n.size : Int) ≤ left
  · rw [if_pos h]; go_enter Try.func42, Try.ntmps42; go_wp2_with fail; go_ret; exact ⟨rfl, (by repeat (first | (with_reducible exact Below.refl _ _) | ((with_reducible refine alloc_ ?_ ?_); (focus (first | exact Nat.le_refl _ | (simp; done) | (simp; omega) | omega))) | ((with_reducible refine set_ ?_ ?_); (focus (first | exact Nat.le_refl _ | (simp; done) | (simp; omega) | omega))) | (with_reducible refine Below.drew ?_) | ((with_reducible refine after_ ?_ (by assumption) ?_); (rotate_left; (focus (first | exact Nat.le_refl _ | (simp; done) | (simp; omega) | omega))))))⟩
  · rw [if_neg h]; go_enter Try.func42, Try.ntmps42; go_wp2_with fail; go_ret; exact ⟨rfl, (by repeat (first | (with_reducible exact Below.refl _ _) | ((with_reducible refine alloc_ ?_ ?_); (focus (first | exact Nat.le_refl _ | (simp; done) | (simp; omega) | omega))) | ((with_reducible refine set_ ?_ ?_); (focus (first | exact Nat.le_refl _ | (simp; done) | (simp; omega) | omega))) | (with_reducible refine Below.drew ?_) | ((with_reducible refine after_ ?_ (by assumption) ?_); (rotate_left; (focus (first | exact Nat.le_refl _ | (simp; done) | (simp; omega) | omega))))))⟩
def SzConsumer (l : List Cons) (left : Int) (w : World) (e : Ending) (w' : World) : Prop := ∃ r : Int, e = .returned (.int .i64 r) ∧ (r < 0 ∨ l.length ≤ left ∧ ∀ i, i < l.length → (nth l i).n.size ≤ left) ∧ Below w.heap.size w w'
theorem szConsumerS_c (l : List Cons) (A : Option Addr) (cap : Nat) (left : Int) (w : World) (h0 : 0 ≤ left) (h1 : left ≤ 1048576) (hl : l.length ≤ maxLen) (hs : ∀ i, i < l.length → (nth l i).n.size ≤ maxLen) (hr : Rd w w.heap.size 3 Cons.cells A l) :
    Calls Try.prog 24 #[.slice A l.length cap, .int .i64 left] w (SzConsumer l left w) := by
  unfold maxLen at hl
  have HS := Lib.hid hs
  clear hs
  by_cases h : (l.length : Int) ≤ left
  · go_enter Try.func24, Try.ntmps24
    go_wp2_with fail
    go_loopw [1, 5] (fun t i wr => ∃ (k : Nat) (r : Int), k ≤ l.length ∧ i = .int .i64 k ∧ t = .int .i64 r ∧ 0 ≤ r ∧ r ≤ left ∧ (∀ j, j < k → (nth l j).n.size ≤ left) ∧ Below w.heap.size w wr) (fun _ i _ => l.length - (intOf i).toNat)
    case atStart => exact ⟨0, _, Nat.zero_le _, rfl, rfl, by omega, by omega, fun j hj => absurd hj (by omega), Below.refl _ _⟩
    case round =>
      obtain ⟨k, r, hk, rfl, rfl, hr0, hr1, hall, hbel⟩ := hrel
      have HB := Lib.hid hbel
      have HA := Lib.hid hall
      clear hall
      by_cases hlt : k < l.length
      · obtain ⟨b, off, rfl, hb1, hc0, hc1, hc2⟩ := Cons.rd (hr.below hbel (Nat.le_refl _)) hlt
        have z1 := hbel.size
        clear hbel
        go_wp2_with fail
        refine (szConsumer_c _ _ _ hr0 (by omega) (HS.out k hlt)).mono ?_
        rintro e w1 ⟨rfl, hb2⟩
        have HB2 := Lib.hid (HB.out.trans (hb2.mono z1))
        clear hb2
        by_cases hq : ((nth l k).n.size : Int) ≤ r
        · rw [if_pos hq]; go_wp2_with fail
          go_roundw
          case rel => exact ⟨k + 1, _, by omega, by go_num, rfl, by omega, by omega, fun j hj => by rcases Nat.lt_succ_iff_lt_or_eq.1 hj with h | h; exact HA.out j h; subst h; omega, HB2.out⟩
          case measure => simp [intOf]; omega
        · rw [if_neg hq]; go_wp2_with fail
          go_ret
          exact ⟨-1, rfl, .inl (by omega), HB2.out⟩
      · clear hbel
        obtain rfl : k = l.length := by omega
        go_wp2_with fail
        go_ret
        exact ⟨r, rfl, .inr ⟨h, HA.out⟩, HB.out⟩
  · go_enter Try.func24, Try.ntmps24
    go_wp2_with fail
    go_ret
    exact ⟨-1, rfl, .inl (by omega), Below.refl _ _⟩
end Go.Proofs.Ytjlgembpaalijaa
