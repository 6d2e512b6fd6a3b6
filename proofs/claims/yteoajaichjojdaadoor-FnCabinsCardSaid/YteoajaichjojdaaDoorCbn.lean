/- Lists of cabins in memory, and the tests on one and on a list: the program's and the reference's return one Lean function; no conditions beyond the length that the statements ask for. -/
import Derived.Test.YteoajaichjojdaaDoorRange
import Derived.Test.YteoajaichjojdaaDoorSlice
import Derived.IntWalk
import Derived.Outline
namespace Go.Proofs.YteoajaichjojdaaDoor
open Go.RowKit
structure Cbn where
  n : Int
  s : Int
  e : Int
  t : Int
  r : Int
instance : Inhabited Cbn := ⟨⟨0, 0, 0, 0, 0⟩⟩
def Cbn.cells (x : Cbn) : List Value := [.int .i64 x.n, .int .i64 x.s, .int .i64 x.e, .int .i64 x.t, .int .i64 x.r]
theorem Cbn.rd {w : World} {B : Nat} {A : Option Addr} {l : List Cbn} (h : Rd w B 5 Cbn.cells A l) {i : Nat} (hi : i < l.length) : ∃ b off, A = some ⟨b, off, none⟩ ∧ b < B ∧ w.cell? ⟨b, off + i * 5, none⟩ = some (.int .i64 (nth l i).n) ∧ w.cell? ⟨b, off + i * 5 + 1, none⟩ = some (.int .i64 (nth l i).s) ∧ w.cell? ⟨b, off + i * 5 + 2, none⟩ = some (.int .i64 (nth l i).e) ∧ w.cell? ⟨b, off + i * 5 + 3, none⟩ = some (.int .i64 (nth l i).t) ∧ w.cell? ⟨b, off + i * 5 + 4, none⟩ = some (.int .i64 (nth l i).r) := by
  obtain ⟨b, off, e, hlt, hc⟩ := h i hi
  exact ⟨b, off, e, hlt, by simpa using hc 0 _ rfl, hc 1 _ rfl, hc 2 _ rfl, hc 3 _ rfl, hc 4 _ rfl⟩
theorem info_cbn : (Tryd.prog.info? 25).map (fun i => (i.zero, i.size, i.bytes)) = some (some (.agg #[.int .i64 0, .int .i64 0, .int .i64 0, .int .i64 0, .int .i64 0]), 5, 40) := by kernel_rfl
def Cbn.val (x : Cbn) : Value := .agg #[.int .i64 x.n, .int .i64 x.s, .int .i64 x.e, .int .i64 x.t, .int .i64 x.r]
def okC (x : Cbn) : Bool := inR x.n 1 99 && inR x.s 1 16 && inR x.e 100 2000 && inR x.t 0 3 && inR x.r 0 99999
theorem okC_true {x : Cbn} : okC x = true ↔ (1 ≤ x.n ∧ x.n ≤ 99) ∧ (1 ≤ x.s ∧ x.s ≤ 16) ∧ (100 ≤ x.e ∧ x.e ≤ 2000) ∧ (0 ≤ x.t ∧ x.t ≤ 3) ∧ (0 ≤ x.r ∧ x.r ≤ 99999) := by
  simp only [okC, Bool.and_eq_true, inR_true, and_assoc]
def prevC (l : List Cbn) (i : Nat) : Bool := decide (i = 0) || decide ((nth l (i - 1)).n < (nth l i).n)
def goodC (l : List Cbn) : Bool := allTo l.length (fun i => okC (nth l i) && prevC l i) && decide (l.length ≤ 12)
theorem goodC_no {l : List Cbn} {k : Nat} (hk : k < l.length) (h : (okC (nth l k) && prevC l k) = false) : goodC l = false := by
  have := allTo_no (p := fun i => okC (nth l i) && prevC l i) hk h
  simp [goodC, this]
theorem goodC_all {l : List Cbn} (h : ∀ i, i < l.length → (okC (nth l i) && prevC l i) = true) : goodC l = decide (l.length ≤ 12) := by
  simp only [goodC, allTo_true.2 h, Bool.true_and]
theorem goodC_true {l : List Cbn} (h : goodC l = true) : l.length ≤ 12 ∧ (∀ i, i < l.length → okC (nth l i) = true) ∧ ∀ i, i + 1 < l.length → (nth l i).n < (nth l (i + 1)).n := by
  simp only [goodC, Bool.and_eq_true, decide_eq_true_eq, allTo_true] at h
  refine ⟨h.2, fun i hi => (h.1 i hi).1, fun i hi => ?_⟩
  have := (h.1 (i + 1) hi).2
  simpa [prevC] using this
theorem wrapNat {n : Nat} (h : n ≤ 9000000) : IntKind.i64.wrap (n : Int) = n := IntWalk.i64_in _ (by omega)
theorem l5State_c (n : Int) (w : World) : Calls Tryd.prog 45 #[.int .i64 n] w fun e w' => e = .returned (.bool (inR n 0 3)) ∧ w = w' := by
  go_enter Tryd.func45, Tryd.ntmps45
  go_wp2_with (go_at_call 48; refine (l1In_c _ _ _ _).mono ?_; rintro e w' ⟨rfl, rfl⟩)
  go_ret
  exact ⟨rfl, rfl⟩
theorem IsCabin_c (x : Cbn) (w : World) : Calls Tryd.prog 8 #[.agg #[.int .i64 x.n, .int .i64 x.s, .int .i64 x.e, .int .i64 x.t, .int .i64 x.r]] w fun e w' => e = .returned (.bool (okC x)) ∧ Below w.heap.size w w' := by
  go_enter Tryd.func8, Tryd.ntmps8
  go_wp2_with (go_at_call 24; refine (within_c _ _ _ _).mono ?_; rintro e w' ⟨rfl, rfl⟩)
  all_goals (go_ret; exact ⟨retb (by simp [okC, *]), (by repeat (first | (with_reducible exact Below.refl _ _) | ((with_reducible refine alloc_ ?_ ?_); (focus (first | exact Nat.le_refl _ | (simp; done) | (simp; omega) | omega))) | ((with_reducible refine set_ ?_ ?_); (focus (first | exact Nat.le_refl _ | (simp; done) | (simp; omega) | omega))) | (with_reducible refine Below.drew ?_) | ((with_reducible refine after_ ?_ (by assumption) ?_); (rotate_left; (focus (first | exact Nat.le_refl _ | (simp; done) | (simp; omega) | omega))))))⟩)
theorem l5One_c (x : Cbn) (w : World) : Calls Tryd.prog 22 #[.agg #[.int .i64 x.n, .int .i64 x.s, .int .i64 x.e, .int .i64 x.t, .int .i64 x.r]] w fun e w' => e = .returned (.bool (okC x)) ∧ Below w.heap.size w w' := by
  go_enter Tryd.func22, Tryd.ntmps22
  go_wp2_with (first | (go_at_call 48; refine (l1In_c _ _ _ _).mono ?_; rintro e w' ⟨rfl, rfl⟩) | (go_at_call 45; refine (l5State_c _ _).mono ?_; rintro e w' ⟨rfl, rfl⟩))
  all_goals (go_ret; exact ⟨retb (by simp [okC, *]), (by repeat (first | (with_reducible exact Below.refl _ _) | ((with_reducible refine alloc_ ?_ ?_); (focus (first | exact Nat.le_refl _ | (simp; done) | (simp; omega) | omega))) | ((with_reducible refine set_ ?_ ?_); (focus (first | exact Nat.le_refl _ | (simp; done) | (simp; omega) | omega))) | (with_reducible refine Below.drew ?_) | ((with_reducible refine after_ ?_ (by assumption) ?_); (rotate_left; (focus (first | exact Nat.le_refl _ | (simp; done) | (simp; omega) | omega))))))⟩)
theorem AreCabins_c (l : List Cbn) (A : Option Addr) (cap : Nat) (w : World) (hl : l.length ≤ 1048576) (hr : Rd w w.heap.size 5 Cbn.cells A l) :
    Calls Tryd.prog 41 #[.slice A l.length cap] w fun e w' => e = .returned (.bool (goodC l)) ∧ Below w.heap.size w w' := by
  go_enter Tryd.func41, Tryd.ntmps41
  go_wp2_with fail
  go_loopw [3, 4, 7] (fun _ _ i wr => ∃ k : Nat, k ≤ l.length ∧ i = .int .i64 k ∧ (∀ j, j < k → (okC (nth l j) && prevC l j) = true) ∧ Below w.heap.size w wr) (fun _ _ i _ => l.length - (intOf i).toNat)
  case atStart => exact ⟨0, Nat.zero_le _, rfl, fun j hj => absurd hj (by omega), Below.refl _ _⟩
  case round =>
    obtain ⟨k, hk, rfl, hall, hbel⟩ := hrel
    have HB := Lib.hid hbel
    have HA := Lib.hid hall
    clear hall
    by_cases hlt : k < l.length
    · obtain ⟨b, off, rfl, hb1, hcs⟩ := Cbn.rd (hr.below hbel (Nat.le_refl _)) hlt
      have z1 := hbel.size
      have l1 : b < wr.heap.size := by omega
      have i1 : (0 : Int) ≤ (k : Int) := by omega
      have i2 : (k : Int) < l.length := by omega
      rcases h1 : okC (nth l k) with _ | _
      · have H := Lib.hid (goodC_no hlt (by simp [h1]))
        clear hbel
        go_wp2_with fail
        refine wp_region_mem (by kernel_rfl) (by kernel_rfl) ?_
        repeat (go_big_quiet_step ((go_at_call 8; exact mem_bool (IsCabin_c _ _) h1)))
        refine wpQuiet_nil ?_
        intro _ hw'
        obtain ⟨⟨wq, hbq⟩, hw''⟩ := hw'
        obtain rfl := hw''.symm
        obtain ⟨hcq, hfq, hzq⟩ := bcell hbq
        try simp [Nat.add_one_le_iff] at hzq
        go_wp2_with fail
        go_ret
        exact ⟨retb H.out.symm, (HB.out.trans (Below.mono (B := wr.heap.size) (by repeat (first | (with_reducible exact Below.refl _ _) | ((with_reducible refine alloc_ ?_ ?_); (focus (first | exact Nat.le_refl _ | (simp; done) | (simp; omega) | omega))) | ((with_reducible refine set_ ?_ ?_); (focus (first | exact Nat.le_refl _ | (simp; done) | (simp; omega) | omega))) | (with_reducible refine Below.drew ?_) | ((with_reducible refine after_ ?_ (by assumption) ?_); (rotate_left; (focus (first | exact Nat.le_refl _ | (simp; done) | (simp; omega) | omega)))))) z1))⟩
      by_cases hk0 : k = 0
      · subst hk0
        simp only [Nat.zero_mul, Nat.add_zero] at hcs
        have H := Lib.hid (show (okC (nth l 0) && prevC l 0) = true by simp [prevC, h1])
        clear hbel
        go_wp2_with fail
        refine wp_region_mem (by kernel_rfl) (by kernel_rfl) ?_
        repeat (go_big_quiet_step ((go_at_call 8; exact mem_bool (IsCabin_c _ _) h1)))
        refine wpQuiet_nil ?_
        intro _ hw'
        obtain ⟨⟨wq, hbq⟩, hw''⟩ := hw'
        obtain rfl := hw''.symm
        obtain ⟨hcq, hfq, hzq⟩ := bcell hbq
        try simp [Nat.add_one_le_iff] at hzq
        go_wp2_with fail
        go_roundw
        case rel => exact ⟨1, by omega, by first | rfl | go_num, below_add HA.out H.out, (HB.out.trans (Below.mono (B := wr.heap.size) (by repeat (first | (with_reducible exact Below.refl _ _) | ((with_reducible refine alloc_ ?_ ?_); (focus (first | exact Nat.le_refl _ | (simp; done) | (simp; omega) | omega))) | ((with_reducible refine set_ ?_ ?_); (focus (first | exact Nat.le_refl _ | (simp; done) | (simp; omega) | omega))) | (with_reducible refine Below.drew ?_) | ((with_reducible refine after_ ?_ (by assumption) ?_); (rotate_left; (focus (first | exact Nat.le_refl _ | (simp; done) | (simp; omega) | omega)))))) z1))⟩
        case measure => simp [intOf]; omega
      · obtain ⟨j, rfl⟩ : ∃ j, k = j + 1 := ⟨k - 1, by omega⟩
        obtain ⟨b', off', he, hb2, hds⟩ := Cbn.rd (hr.below hbel (Nat.le_refl _)) (show j < l.length by omega)
        simp only [Option.some.injEq, Addr.mk.injEq, and_true] at he
        obtain ⟨rfl, rfl⟩ := he
        have i3 : (0 : Int) ≤ (j : Int) := by omega
        have i4 : (j : Int) < l.length := by omega
        have i5 : decide ((0 : Int) < (j : Int) + 1) = true := by first | (simp; done) | (simp; omega)
        have wj := wrapNat (show j ≤ 9000000 by omega)
        clear hbel hk0
        by_cases hm : (nth l j).n < (nth l (j + 1)).n
        · have H := Lib.hid (show (okC (nth l (j + 1)) && prevC l (j + 1)) = true by simp [prevC, h1, hm])
          go_wp2_with fail
          refine wp_region_mem (by kernel_rfl) (by kernel_rfl) ?_
          repeat (go_big_quiet_step ((go_at_call 8; exact mem_bool (IsCabin_c _ _) h1)))
          refine wpQuiet_nil ?_
          intro _ hw'
          obtain ⟨⟨wq, hbq⟩, hw''⟩ := hw'
          obtain rfl := hw''.symm
          obtain ⟨hcq, hfq, hzq⟩ := bcell hbq
          try simp [Nat.add_one_le_iff] at hzq
          go_wp2_with fail
          go_roundw
          case rel => exact ⟨j + 1 + 1, by omega, by go_num, below_add HA.out H.out, (HB.out.trans (Below.mono (B := wr.heap.size) (by repeat (first | (with_reducible exact Below.refl _ _) | ((with_reducible refine alloc_ ?_ ?_); (focus (first | exact Nat.le_refl _ | (simp; done) | (simp; omega) | omega))) | ((with_reducible refine set_ ?_ ?_); (focus (first | exact Nat.le_refl _ | (simp; done) | (simp; omega) | omega))) | (with_reducible refine Below.drew ?_) | ((with_reducible refine after_ ?_ (by assumption) ?_); (rotate_left; (focus (first | exact Nat.le_refl _ | (simp; done) | (simp; omega) | omega)))))) z1))⟩
          case measure => simp [intOf]; omega
        · have H := Lib.hid (goodC_no hlt (by simp [prevC, hm]))
          go_wp2_with fail
          refine wp_region_mem (by kernel_rfl) (by kernel_rfl) ?_
          repeat (go_big_quiet_step ((go_at_call 8; exact mem_bool (IsCabin_c _ _) h1)))
          refine wpQuiet_nil ?_
          intro _ hw'
          obtain ⟨⟨wq, hbq⟩, hw''⟩ := hw'
          obtain rfl := hw''.symm
          obtain ⟨hcq, hfq, hzq⟩ := bcell hbq
          try simp [Nat.add_one_le_iff] at hzq
          go_wp2_with fail
          go_ret
          exact ⟨retb H.out.symm, (HB.out.trans (Below.mono (B := wr.heap.size) (by repeat (first | (with_reducible exact Below.refl _ _) | ((with_reducible refine alloc_ ?_ ?_); (focus (first | exact Nat.le_refl _ | (simp; done) | (simp; omega) | omega))) | ((with_reducible refine set_ ?_ ?_); (focus (first | exact Nat.le_refl _ | (simp; done) | (simp; omega) | omega))) | (with_reducible refine Below.drew ?_) | ((with_reducible refine after_ ?_ (by assumption) ?_); (rotate_left; (focus (first | exact Nat.le_refl _ | (simp; done) | (simp; omega) | omega)))))) z1))⟩
    · obtain rfl : k = l.length := by omega
      clear hbel
      have H := Lib.hid (goodC_all HA.out)
      go_wp2_with fail
      go_ret
      exact ⟨retb (by rw [H.out]; simp; omega), HB.out⟩
theorem l5Good_c (l : List Cbn) (A : Option Addr) (cap : Nat) (w : World) (hl : l.length ≤ 1048576) (hr : Rd w w.heap.size 5 Cbn.cells A l) :
    Calls Tryd.prog 44 #[.slice A l.length cap] w fun e w' => e = .returned (.bool (goodC l)) ∧ Below w.heap.size w w' := by
  go_enter Tryd.func44, Tryd.ntmps44
  go_wp2_with fail
  go_loopw [3] (fun i wr => ∃ k : Nat, k ≤ l.length ∧ i = .int .i64 k ∧ (∀ j, j < k → (okC (nth l j) && prevC l j) = true) ∧ Below w.heap.size w wr) (fun i _ => l.length - (intOf i).toNat)
  case atStart => exact ⟨0, Nat.zero_le _, rfl, fun j hj => absurd hj (by omega), Below.refl _ _⟩
  case round =>
    obtain ⟨k, hk, rfl, hall, hbel⟩ := hrel
    have HB := Lib.hid hbel
    have HA := Lib.hid hall
    clear hall
    by_cases hlt : k < l.length
    · obtain ⟨b, off, rfl, hb1, hcs⟩ := Cbn.rd (hr.below hbel (Nat.le_refl _)) hlt
      have z1 := hbel.size
      have l1 : b < wr.heap.size := by omega
      have i1 : (0 : Int) ≤ (k : Int) := by omega
      have i2 : (k : Int) < l.length := by omega
      rcases h1 : okC (nth l k) with _ | _
      · have H := Lib.hid (goodC_no hlt (by simp [h1]))
        clear hbel
        go_wp2_with fail
        refine wp_region_mem (by kernel_rfl) (by kernel_rfl) ?_
        repeat (go_big_quiet_step ((go_at_call 22; exact mem_bool (l5One_c _ _) h1)))
        refine wpQuiet_nil ?_
        intro _ hw'
        obtain ⟨⟨wq, hbq⟩, hw''⟩ := hw'
        obtain rfl := hw''.symm
        obtain ⟨hcq, hfq, hzq⟩ := bcell hbq
        try simp [Nat.add_one_le_iff] at hzq
        go_wp2_with fail
        go_ret
        exact ⟨retb H.out.symm, (HB.out.trans (Below.mono (B := wr.heap.size) (by repeat (first | (with_reducible exact Below.refl _ _) | ((with_reducible refine alloc_ ?_ ?_); (focus (first | exact Nat.le_refl _ | (simp; done) | (simp; omega) | omega))) | ((with_reducible refine set_ ?_ ?_); (focus (first | exact Nat.le_refl _ | (simp; done) | (simp; omega) | omega))) | (with_reducible refine Below.drew ?_) | ((with_reducible refine after_ ?_ (by assumption) ?_); (rotate_left; (focus (first | exact Nat.le_refl _ | (simp; done) | (simp; omega) | omega)))))) z1))⟩
      by_cases hk0 : k = 0
      · subst hk0
        simp only [Nat.zero_mul, Nat.add_zero] at hcs
        have H := Lib.hid (show (okC (nth l 0) && prevC l 0) = true by simp [prevC, h1])
        clear hbel
        go_wp2_with fail
        refine wp_region_mem (by kernel_rfl) (by kernel_rfl) ?_
        repeat (go_big_quiet_step ((go_at_call 22; exact mem_bool (l5One_c _ _) h1)))
        refine wpQuiet_nil ?_
        intro _ hw'
        obtain ⟨⟨wq, hbq⟩, hw''⟩ := hw'
        obtain rfl := hw''.symm
        obtain ⟨hcq, hfq, hzq⟩ := bcell hbq
        try simp [Nat.add_one_le_iff] at hzq
        go_wp2_with fail
        go_roundw
        case rel => exact ⟨1, by omega, by first | rfl | go_num, below_add HA.out H.out, (HB.out.trans (Below.mono (B := wr.heap.size) (by repeat (first | (with_reducible exact Below.refl _ _) | ((with_reducible refine alloc_ ?_ ?_); (focus (first | exact Nat.le_refl _ | (simp; done) | (simp; omega) | omega))) | ((with_reducible refine set_ ?_ ?_); (focus (first | exact Nat.le_refl _ | (simp; done) | (simp; omega) | omega))) | (with_reducible refine Below.drew ?_) | ((with_reducible refine after_ ?_ (by assumption) ?_); (rotate_left; (focus (first | exact Nat.le_refl _ | (simp; done) | (simp; omega) | omega)))))) z1))⟩
        case measure => simp [intOf]; omega
      · obtain ⟨j, rfl⟩ : ∃ j, k = j + 1 := ⟨k - 1, by omega⟩
        obtain ⟨b', off', he, hb2, hds⟩ := Cbn.rd (hr.below hbel (Nat.le_refl _)) (show j < l.length by omega)
        simp only [Option.some.injEq, Addr.mk.injEq, and_true] at he
        obtain ⟨rfl, rfl⟩ := he
        have i3 : (0 : Int) ≤ (j : Int) := by omega
        have i4 : (j : Int) < l.length := by omega
        have i5 : decide ((0 : Int) < (j : Int) + 1) = true := by first | (simp; done) | (simp; omega)
        have wj := wrapNat (show j ≤ 9000000 by omega)
        clear hbel hk0
        by_cases hm : (nth l j).n < (nth l (j + 1)).n
        · have H := Lib.hid (show (okC (nth l (j + 1)) && prevC l (j + 1)) = true by simp [prevC, h1, hm])
          go_wp2_with fail
          refine wp_region_mem (by kernel_rfl) (by kernel_rfl) ?_
          repeat (go_big_quiet_step ((go_at_call 22; exact mem_bool (l5One_c _ _) h1)))
          refine wpQuiet_nil ?_
          intro _ hw'
          obtain ⟨⟨wq, hbq⟩, hw''⟩ := hw'
          obtain rfl := hw''.symm
          obtain ⟨hcq, hfq, hzq⟩ := bcell hbq
          try simp [Nat.add_one_le_iff] at hzq
          go_wp2_with fail
          go_roundw
          case rel => exact ⟨j + 1 + 1, by omega, by go_num, below_add HA.out H.out, (HB.out.trans (Below.mono (B := wr.heap.size) (by repeat (first | (with_reducible exact Below.refl _ _) | ((with_reducible refine alloc_ ?_ ?_); (focus (first | exact Nat.le_refl _ | (simp; done) | (simp; omega) | omega))) | ((with_reducible refine set_ ?_ ?_); (focus (first | exact Nat.le_refl _ | (simp; done) | (simp; omega) | omega))) | (with_reducible refine Below.drew ?_) | ((with_reducible refine after_ ?_ (by assumption) ?_); (rotate_left; (focus (first | exact Nat.le_refl _ | (simp; done) | (simp; omega) | omega)))))) z1))⟩
          case measure => simp [intOf]; omega
        · have H := Lib.hid (goodC_no hlt (by simp [prevC, hm]))
          go_wp2_with fail
          refine wp_region_mem (by kernel_rfl) (by kernel_rfl) ?_
          repeat (go_big_quiet_step ((go_at_call 22; exact mem_bool (l5One_c _ _) h1)))
          refine wpQuiet_nil ?_
          intro _ hw'
          obtain ⟨⟨wq, hbq⟩, hw''⟩ := hw'
          obtain rfl := hw''.symm
          obtain ⟨hcq, hfq, hzq⟩ := bcell hbq
          try simp [Nat.add_one_le_iff] at hzq
          go_wp2_with fail
          go_ret
          exact ⟨retb H.out.symm, (HB.out.trans (Below.mono (B := wr.heap.size) (by repeat (first | (with_reducible exact Below.refl _ _) | ((with_reducible refine alloc_ ?_ ?_); (focus (first | exact Nat.le_refl _ | (simp; done) | (simp; omega) | omega))) | ((with_reducible refine set_ ?_ ?_); (focus (first | exact Nat.le_refl _ | (simp; done) | (simp; omega) | omega))) | (with_reducible refine Below.drew ?_) | ((with_reducible refine after_ ?_ (by assumption) ?_); (rotate_left; (focus (first | exact Nat.le_refl _ | (simp; done) | (simp; omega) | omega)))))) z1))⟩
    · obtain rfl : k = l.length := by omega
      clear hbel
      have H := Lib.hid (goodC_all HA.out)
      go_wp2_with fail
      go_ret
      exact ⟨retb (by rw [H.out]; simp; omega), HB.out⟩
end Go.Proofs.YteoajaichjojdaaDoor
