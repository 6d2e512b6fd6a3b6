/- Events on a platform, and the test on them: the program's and the reference's return one Lean function; no conditions but that the list of kinds lies where the program's text lays it. -/
import Derived.Test.YtfmemmfmalfkaaaDoorKinds
import Derived.IntWalk
namespace Go.Proofs.YtfmemmfmalfkaaaDoor
open Go.RowKit
structure Evt where
  k : ByteArray
  c : Int
instance : Inhabited Evt := ⟨⟨ByteArray.empty, 0⟩⟩
def Evt.cells (x : Evt) : List Value := [.string x.k, .int .i64 x.c]
theorem Evt.rd {w : World} {B : Nat} {A : Option Addr} {l : List Evt} (h : Rd w B 2 Evt.cells A l) {i : Nat} (hi : i < l.length) : ∃ b off, A = some ⟨b, off, none⟩ ∧ b < B ∧ w.cell? ⟨b, off + i * 2, none⟩ = some (.string (nth l i).k) ∧ w.cell? ⟨b, off + i * 2 + 1, none⟩ = some (.int .i64 (nth l i).c) := by
  obtain ⟨b, off, e, hlt, hc⟩ := h i hi
  exact ⟨b, off, e, hlt, by simpa using hc 0 _ rfl, hc 1 _ rfl⟩
theorem toBoardEvent_c (x : Evt) (w : World) : Calls Tryd.prog 8 #[.agg #[.string x.k, .int .i64 x.c]] w fun e w' => e = .returned (.agg #[.string x.k, .int .i64 x.c]) ∧ Below w.heap.size w w' := by
  go_enter Tryd.func8, Tryd.ntmps8
  go_wp2
  exact bodyPost_ret (v := .agg #[.string x.k, .int .i64 x.c]) (by simp [results, Tryd.results8, go_sem]) rfl ⟨rfl, (by repeat (first | (with_reducible exact Below.refl _ _) | ((with_reducible refine alloc_ ?_ ?_); (focus (first | exact Nat.le_refl _ | (simp; done) | (simp; omega) | omega))) | ((with_reducible refine set_ ?_ ?_); (focus (first | exact Nat.le_refl _ | (simp; done) | (simp; omega) | omega))) | (with_reducible refine Below.drew ?_) | ((with_reducible refine after_ ?_ (by assumption) ?_); (rotate_left; (focus (first | exact Nat.le_refl _ | (simp; done) | (simp; omega) | omega))))))⟩
theorem eqBoardEvent_same (x : Evt) (w : World) : Calls Tryd.prog 25 #[.agg #[.string x.k, .int .i64 x.c], .agg #[.string x.k, .int .i64 x.c]] w fun e w' => e = .returned (.bool true) ∧ Below w.heap.size w w' := by
  go_enter Tryd.func25, Tryd.ntmps25
  go_wp2
  go_ret
  exact ⟨rfl, (by repeat (first | (with_reducible exact Below.refl _ _) | ((with_reducible refine alloc_ ?_ ?_); (focus (first | exact Nat.le_refl _ | (simp; done) | (simp; omega) | omega))) | ((with_reducible refine set_ ?_ ?_); (focus (first | exact Nat.le_refl _ | (simp; done) | (simp; omega) | omega))) | (with_reducible refine Below.drew ?_) | ((with_reducible refine after_ ?_ (by assumption) ?_); (rotate_left; (focus (first | exact Nat.le_refl _ | (simp; done) | (simp; omega) | omega))))))⟩
theorem info_BoardEvent : (Tryd.prog.info? 26).map (fun i => (i.zero, i.size, i.bytes)) = some (some (.agg #[.string ByteArray.empty, .int .i64 0]), 2, 24) := by kernel_rfl
set_option maxRecDepth 100000 in
theorem toBoardEventS_c (l : List Evt) (A : Option Addr) (cap : Nat) (w : World) (hl : l.length ≤ 1048576) (hr : Rd w w.heap.size 2 Evt.cells A l) :
    Calls Tryd.prog 12 #[.slice A l.length cap] w fun e w' => e = .returned (.slice (some ⟨w.heap.size, 0, none⟩) l.length l.length) ∧ Row w' w.heap.size 26 2 Evt.cells l ∧ Below w.heap.size w w' := by
  have hmk := make_rows (P := Tryd.prog) 33 26 _ 2 24 Tryd.underlying33 info_BoardEvent l.length (by omega) (by omega)
  go_enter Tryd.func12, Tryd.ntmps12
  go_wp2_with fail
  go_loopw [4] (fun i wr => ∃ k : Nat, k ≤ l.length ∧ i = .int .i64 k ∧ Fill w wr 26 2 Evt.cells l k) (fun i _ => l.length - (intOf i).toNat)
  case atStart => exact ⟨0, Nat.zero_le _, rfl, Fill.start (made_row w _ _ _ (size_madeCells _ _)) (by repeat (first | (with_reducible exact Below.refl _ _) | ((with_reducible refine alloc_ ?_ ?_); (focus (first | exact Nat.le_refl _ | (simp; done) | (simp; omega) | omega))) | ((with_reducible refine set_ ?_ ?_); (focus (first | exact Nat.le_refl _ | (simp; done) | (simp; omega) | omega))) | (with_reducible refine Below.drew ?_) | ((with_reducible refine after_ ?_ (by assumption) ?_); (rotate_left; (focus (first | exact Nat.le_refl _ | (simp; done) | (simp; omega) | omega))))))⟩
  case round =>
    obtain ⟨k, hk, rfl, hfill⟩ := hrel
    have HF := Lib.hid hfill
    have hbel := hfill.2
    by_cases hlt : k < l.length
    · obtain ⟨b, off, rfl, hb, hc0, hc1⟩ := Evt.rd (hr.below hbel (Nat.le_refl _)) hlt
      obtain ⟨u0, hs0⟩ := hfill.cell hlt (show 0 < 2 by omega)
      obtain ⟨u1, hs1⟩ := hfill.cell hlt (show 1 < 2 by omega)
      have hgs := hfill.size
      simp only [Nat.add_zero] at hs0
      clear hbel hfill
      go_wp2_with fail
      refine (toBoardEvent_c _ _).mono ?_
      rintro e w1 ⟨rfl, hb1⟩
      have ht0 := (hb1.cell (p := ⟨w.heap.size, k * 2, none⟩) hgs).trans hs0
      have ht1 := (hb1.cell (p := ⟨w.heap.size, k * 2 + 1, none⟩) hgs).trans hs1
      have hf0 := (hb1.frozen (p := ⟨w.heap.size, k * 2, none⟩) hgs).trans (HF.out.frozen _)
      have hf1 := (hb1.frozen (p := ⟨w.heap.size, k * 2 + 1, none⟩) hgs).trans (HF.out.frozen _)
      have HF1 := Lib.hid hb1
      clear hb1 hs0 hs1
      go_wp2_with fail
      go_roundw
      case rel => exact ⟨k + 1, by omega, by go_num, by simpa [puts, Evt.cells] using HF.out.step HF1.out hlt⟩
      case measure => simp [intOf]; omega
    · clear hbel hfill
      obtain rfl : k = l.length := by omega
      go_wp2_with fail
      go_ret
      exact ⟨rfl, HF.out.row, HF.out.2⟩
theorem eqBoardEventS_same (l : List Evt) (A B : Option Addr) (cap cap' : Nat) (w : World) (hl : l.length ≤ 1048576) (hr : Rd w w.heap.size 2 Evt.cells A l) (hr' : Rd w w.heap.size 2 Evt.cells B l) :
    Calls Tryd.prog 14 #[.slice A l.length cap, .slice B l.length cap'] w fun e w' => e = .returned (.bool true) ∧ Below w.heap.size w w' := by
  have hb : ((l.length : Int) != l.length) = false := by simp
  go_enter Tryd.func14, Tryd.ntmps14
  go_wp2_with fail
  go_loopw [5] (fun i wr => ∃ k : Nat, k ≤ l.length ∧ i = .int .i64 k ∧ Below w.heap.size w wr) (fun i _ => l.length - (intOf i).toNat)
  case atStart => exact ⟨0, Nat.zero_le _, rfl, Below.refl _ _⟩
  case round =>
    obtain ⟨k, hk, rfl, hbel⟩ := hrel
    have HB := Lib.hid hbel
    by_cases hlt : k < l.length
    · obtain ⟨b, off, rfl, hb1, hc0, hc1⟩ := Evt.rd (hr.below hbel (Nat.le_refl _)) hlt
      obtain ⟨b', off', rfl, hb2, hd0, hd1⟩ := Evt.rd (hr'.below hbel (Nat.le_refl _)) hlt
      have z1 := hbel.size
      have l1 : b < wr.heap.size := by omega
      have l2 : b' < wr.heap.size := by omega
      have i1 : (0 : Int) ≤ (k : Int) := by omega
      have i2 : (k : Int) < l.length := by omega
      clear hbel
      go_wp2_with fail
      refine wp_region_mem (by kernel_rfl) (by kernel_rfl) ?_
      repeat (go_big_quiet_step ((go_at_call 25; exact mem_of (eqBoardEvent_same _ _))))
      refine wpQuiet_nil ?_
      intro _ hw'
      obtain ⟨⟨wq, hbq⟩, hw''⟩ := hw'
      obtain rfl := hw''.symm
      obtain ⟨hcq, hfq, hzq⟩ := bcell hbq
      try simp [Nat.add_one_le_iff] at hzq
      go_wp2_with fail
      go_roundw
      case rel => exact ⟨k + 1, by omega, by go_num, HB.out.trans (hbq.mono z1)⟩
      case measure => simp [intOf]; omega
    · clear hbel
      obtain rfl : k = l.length := by omega
      go_wp2_with fail
      go_ret
      exact ⟨rfl, HB.out⟩
theorem szBoardEvent_c (x : Evt) (left : Int) (w : World) (h0 : 0 ≤ left) (h1 : left ≤ 1048576) (hs : x.k.size ≤ maxLen) : Calls Tryd.prog 6 #[.agg #[.string x.k, .int .i64 x.c], .int .i64 left] w fun e w' => e = .returned (.int .i64 (if (x.k.size : Int) ≤ left then left - x.k.size else -1)) ∧ Below w.heap.size w w' := by
  unfold maxLen at hs
  by_cases h : (x.k.size : Int) ≤ left
  · rw [if_pos h]; go_enter Tryd.func6, Tryd.ntmps6; go_wp2_with fail; go_ret; exact ⟨rfl, (by repeat (first | (with_reducible exact Below.refl _ _) | ((with_reducible refine alloc_ ?_ ?_); (focus (first | exact Nat.le_refl _ | (simp; done) | (simp; omega) | omega))) | ((with_reducible refine set_ ?_ ?_); (focus (first | exact Nat.le_refl _ | (simp; done) | (simp; omega) | omega))) | (with_reducible refine Below.drew ?_) | ((with_reducible refine after_ ?_ (by assumption) ?_); (rotate_left; (focus (first | exact Nat.le_refl _ | (simp; done) | (simp; omega) | omega))))))⟩
  · rw [if_neg h]; go_enter Tryd.func6, Tryd.ntmps6; go_wp2_with fail; go_ret; exact ⟨rfl, (by repeat (first | (with_reducible exact Below.refl _ _) | ((with_reducible refine alloc_ ?_ ?_); (focus (first | exact Nat.le_refl _ | (simp; done) | (simp; omega) | omega))) | ((with_reducible refine set_ ?_ ?_); (focus (first | exact Nat.le_refl _ | (simp; done) | (simp; omega) | omega))) | (with_reducible refine Below.drew ?_) | ((with_reducible refine after_ ?_ (by assumption) ?_); (rotate_left; (focus (first | exact Nat.le_refl _ | (simp; done) | (simp; omega) | omega))))))⟩
def SzBoardEvent (l : List Evt) (left : Int) (w : World) (e : Ending) (w' : World) : Prop := ∃ r : Int, e = .returned (.int .i64 r) ∧ (r < 0 ∨ l.length ≤ left ∧ ∀ i, i < l.length → (nth l i).k.size ≤ left) ∧ Below w.heap.size w w'
theorem szBoardEventS_c (l : List Evt) (A : Option Addr) (cap : Nat) (left : Int) (w : World) (h0 : 0 ≤ left) (h1 : left ≤ 1048576) (hl : l.length ≤ maxLen) (hs : ∀ i, i < l.length → (nth l i).k.size ≤ maxLen) (hr : Rd w w.heap.size 2 Evt.cells A l) :
    Calls Tryd.prog 10 #[.slice A l.length cap, .int .i64 left] w (SzBoardEvent l left w) := by
  unfold maxLen at hl
  have HS := Lib.hid hs
  clear hs
  by_cases h : (l.length : Int) ≤ left
  · go_enter Tryd.func10, Tryd.ntmps10
    go_wp2_with fail
    go_loopw [1, 5] (fun t i wr => ∃ (k : Nat) (r : Int), k ≤ l.length ∧ i = .int .i64 k ∧ t = .int .i64 r ∧ 0 ≤ r ∧ r ≤ left ∧ (∀ j, j < k → (nth l j).k.size ≤ left) ∧ Below w.heap.size w wr) (fun _ i _ => l.length - (intOf i).toNat)
    case atStart => exact ⟨0, _, Nat.zero_le _, rfl, rfl, by omega, by omega, fun j hj => absurd hj (by omega), Below.refl _ _⟩
    case round =>
      obtain ⟨k, r, hk, rfl, rfl, hr0, hr1, hall, hbel⟩ := hrel
      have HB := Lib.hid hbel
      have HA := Lib.hid hall
      clear hall
      by_cases hlt : k < l.length
      · obtain ⟨b, off, rfl, hb1, hc0, hc1⟩ := Evt.rd (hr.below hbel (Nat.le_refl _)) hlt
        have z1 := hbel.size
        clear hbel
        go_wp2_with fail
        refine (szBoardEvent_c _ _ _ hr0 (by omega) (HS.out k hlt)).mono ?_
        rintro e w1 ⟨rfl, hb2⟩
        have HB2 := Lib.hid (HB.out.trans (hb2.mono z1))
        clear hb2
        by_cases hq : ((nth l k).k.size : Int) ≤ r
        · rw [if_pos hq]; go_wp2_with fail
          go_roundw
          case rel => exact ⟨k + 1, _, by omega, by go_num, rfl, by omega, by omega, fun j hj => by rcases Nat.lt_succ_iff_lt_or_eq.1 hj with h | h; exact HA.out j h; subst h; omega, HB2.out⟩
          case measure => simp [intOf]; omega
        · rw [if_neg hq]; go_wp2_with fail
          go_ret
          exact ⟨-1, rfl, .inl (by omega), HB2.out⟩
      · clear hbel
        obtain rfl : k = l.length := by omega
        go_wp2_with fail
        go_ret
        exact ⟨r, rfl, .inr ⟨h, HA.out⟩, HB.out⟩
  · go_enter Tryd.func10, Tryd.ntmps10
    go_wp2_with fail
    go_ret
    exact ⟨-1, rfl, .inl (by omega), Below.refl _ _⟩
def okE (x : Evt) : Bool := (decide (most x.k = 0) && decide (x.c = 0)) || (decide (0 < most x.k) && inR x.c 1 (most x.k))
theorem most_cases (s : ByteArray) : most s = 16 ∨ most s = 100 ∨ most s = 0 ∨ most s = -1 := by
  unfold most
  split
  · exact .inl rfl
  split
  · exact .inl rfl
  split
  · exact .inl rfl
  split
  · exact .inr (.inl rfl)
  split
  · exact .inr (.inr (.inl rfl))
  split
  · exact .inr (.inr (.inl rfl))
  split
  · exact .inr (.inr (.inl rfl))
  split
  · exact .inr (.inr (.inl rfl))
  · exact .inr (.inr (.inr rfl))
theorem lowHigh_most (s : ByteArray) : lowHigh s = if most s = 16 then (1, 16) else if most s = 100 then (1, 100) else (0, 0) := by
  unfold lowHigh most
  split
  · rfl
  split
  · rfl
  split
  · rfl
  split
  · rfl
  split
  · rfl
  split
  · rfl
  split
  · rfl
  split
  · rfl
  · rfl
theorem l14Event_c (x : Evt) (w : World) : Calls Tryd.prog 18 #[.agg #[.string x.k, .int .i64 x.c]] w fun e w' => e = .returned (.bool (okE x)) ∧ Below w.heap.size w w' := by
  obtain ⟨m, hm⟩ : ∃ m, most x.k = m := ⟨_, rfl⟩
  have HM := Lib.hid hm
  have H := Lib.hid (show okE x = ((decide (m = 0) && decide (x.c = 0)) || (decide (0 < m) && inR x.c 1 m)) by unfold okE; rw [hm])
  rcases most_cases x.k with h | h | h | h
  all_goals
    rw [hm] at h
    subst h
    by_cases hc : x.c = 0
    · have hc' : (x.c == 0) = true := by simp [hc]
      have HC := Lib.hid hc
      clear hm hc
      go_enter Tryd.func18, Tryd.ntmps18
      go_wp2_with (first | ((go_at_call 22); refine (l14Most_c _ _).mono ?_; rintro e w' ⟨rfl, rfl⟩; rw [HM.out]) | (go_at_call 30; refine (l1In_c _ _ _ _).mono ?_; rintro e w' ⟨rfl, rfl⟩))
      go_ret
      exact ⟨retb (by rw [H.out]; simp [HC.out, inR]), (by repeat (first | (with_reducible exact Below.refl _ _) | ((with_reducible refine alloc_ ?_ ?_); (focus (first | exact Nat.le_refl _ | (simp; done) | (simp; omega) | omega))) | ((with_reducible refine set_ ?_ ?_); (focus (first | exact Nat.le_refl _ | (simp; done) | (simp; omega) | omega))) | (with_reducible refine Below.drew ?_) | ((with_reducible refine after_ ?_ (by assumption) ?_); (rotate_left; (focus (first | exact Nat.le_refl _ | (simp; done) | (simp; omega) | omega))))))⟩
    · have hc' : (x.c == 0) = false := by simpa using hc
      clear hm
      go_enter Tryd.func18, Tryd.ntmps18
      go_wp2_with (first | ((go_at_call 22); refine (l14Most_c _ _).mono ?_; rintro e w' ⟨rfl, rfl⟩; rw [HM.out]) | (go_at_call 30; refine (l1In_c _ _ _ _).mono ?_; rintro e w' ⟨rfl, rfl⟩))
      go_ret
      exact ⟨retb (by rw [H.out]; simp [*, inR]), (by repeat (first | (with_reducible exact Below.refl _ _) | ((with_reducible refine alloc_ ?_ ?_); (focus (first | exact Nat.le_refl _ | (simp; done) | (simp; omega) | omega))) | ((with_reducible refine set_ ?_ ?_); (focus (first | exact Nat.le_refl _ | (simp; done) | (simp; omega) | omega))) | (with_reducible refine Below.drew ?_) | ((with_reducible refine after_ ?_ (by assumption) ?_); (rotate_left; (focus (first | exact Nat.le_refl _ | (simp; done) | (simp; omega) | omega))))))⟩
theorem okE_kinds (x : Evt) : okE x = (isIn kindsB x.k && inR x.c (lowHigh x.k).1 (lowHigh x.k).2) := by
  rw [isIn_kinds, lowHigh_most]
  unfold okE
  rcases most_cases x.k with h | h | h | h <;> rw [h]
  · simp [inR]
  · simp [inR]
  · rw [Bool.eq_iff_iff]; simp [inR]; omega
  · simp [inR]
theorem isBoardEvent_c (x : Evt) (w : World) (hk : Rd w w.heap.size 1 strCells (some ⟨0, 0, none⟩) kindsB) : Calls Tryd.prog 9 #[.agg #[.string x.k, .int .i64 x.c]] w fun e w' => e = .returned (.bool (okE x)) ∧ Below w.heap.size w w' := by
  have H := Lib.hid (okE_kinds x)
  have HK := Lib.hid (show ∀ W : World, Below w.heap.size w W → ∀ c, Calls Tryd.prog 20 #[.slice (some ⟨0, 0, none⟩) 8 c, .string x.k] W fun e w' => e = .returned (.bool (isIn kindsB x.k)) ∧ W = w' from fun W hW c => containsS_c kindsB _ 8 c x.k W rfl (by decide) ((hk.below hW (Nat.le_refl _)).mono hW.size))
  obtain ⟨lh, hlh⟩ : ∃ lh, lowHigh x.k = lh := ⟨_, rfl⟩
  obtain ⟨lo, hi⟩ := lh
  have HL := Lib.hid hlh
  rw [hlh] at H
  rcases hi2 : isIn kindsB x.k with _ | _
  · have HI := Lib.hid hi2
    go_enter Tryd.func9, Tryd.ntmps9
    go_wp2_with ((go_at_call 19); refine (boardCounts_c _ _).mono ?_; rintro e w' ⟨rfl, rfl⟩; rw [HL.out])
    refine wp_region_mem (by kernel_rfl) (by kernel_rfl) ?_
    repeat (go_big_quiet_step ((first | ((go_at_call 20); exact same_bool (HK.out _ (((Below.refl _ _).alloc (Nat.le_refl _) _).trans ((WIn.ok _).mono (by simp))) _) hi2))))
    refine wpQuiet_nil ?_
    intro _ hw'
    obtain ⟨⟨wq, hbq⟩, hw''⟩ := hw'
    obtain rfl := hw''.symm
    obtain ⟨hcq, hfq, hzq⟩ := bcell hbq
    try simp [Nat.add_one_le_iff] at hzq
    go_wp2_with fail
    go_ret
    exact ⟨retb (by rw [H.out, HI.out]; rfl), ((Below.refl _ _).alloc (Nat.le_refl _) _).trans (hbq.mono (by simp))⟩
  · have HI := Lib.hid hi2
    go_enter Tryd.func9, Tryd.ntmps9
    go_wp2_with ((go_at_call 19); refine (boardCounts_c _ _).mono ?_; rintro e w' ⟨rfl, rfl⟩; rw [HL.out])
    refine wp_region_mem (by kernel_rfl) (by kernel_rfl) ?_
    repeat (go_big_quiet_step ((first | ((go_at_call 20); exact same_bool (HK.out _ (((Below.refl _ _).alloc (Nat.le_refl _) _).trans ((WIn.ok _).mono (by simp))) _) hi2) | ((go_at_call 21); exact mem_same (within_c _ _ _ _)))))
    refine wpQuiet_nil ?_
    intro _ hw'
    obtain ⟨⟨wq, hbq⟩, hw''⟩ := hw'
    obtain rfl := hw''.symm
    obtain ⟨hcq, hfq, hzq⟩ := bcell hbq
    try simp [Nat.add_one_le_iff] at hzq
    go_wp2_with fail
    go_ret
    exact ⟨retb (by rw [H.out, HI.out]; simp), ((Below.refl _ _).alloc (Nat.le_refl _) _).trans (hbq.mono (by simp))⟩
theorem specIsBoardEvent_c (x : Evt) (w : World) : Calls Tryd.prog 7 #[.agg #[.string x.k, .int .i64 x.c]] w fun e w' => e = .returned (.bool (okE x)) ∧ Below w.heap.size w w' := by
  go_enter Tryd.func7, Tryd.ntmps7
  go_wp2_with fail
  refine (l14Event_c x _).mono ?_
  rintro e w1 ⟨rfl, hb1⟩
  go_wp2_with fail
  go_ret
  exact ⟨rfl, ((Below.refl _ _).alloc (Nat.le_refl _) _).trans (hb1.mono (by simp))⟩
end Go.Proofs.YtfmemmfmalfkaaaDoor
