/- The program's six rounds and the reference's rounds come to one end; LatestDeparture, LastDescents of both return one Lean function; no conditions but the length. -/
import Derived.Test.YtddnemmdlijgiaaLate
import Derived.Test.YtddnemmdlijgiaaReach
namespace Go.Proofs.Ytddnemmdlijgiaa
open Go.RowKit

def lateNet (l : List Rid) : Net := ⟨6, l.length, fun i => (nth l i).t.toNat, fun i => (nth l i).f.toNat, fun i => -(nth l i).a, fun i => -(nth l i).d⟩
theorem lateNet_ok {l : List Rid} (hg : ∀ i, i < l.length → okR (nth l i) = true) : (lateNet l).Ok := by
  refine ⟨fun i hi => ?_, fun i hi => ?_, fun i hi => ?_⟩
  all_goals
    obtain ⟨⟨e1, e2⟩, ⟨e3, e4⟩, _, ⟨e5, e6⟩, ⟨e7, e8⟩, _⟩ := okR_true.1 (hg i hi)
    simp only [lateNet]
    omega
theorem lateR_nth {o : List Int} {r : Rid} {s : Nat} (hs : s < o.length) : nth (lateR o r) s = if r.a ≤ nth o r.t.toNat ∧ s = r.f.toNat then max (nth o s) r.d else nth o s := by
  unfold lateR
  by_cases h : r.a ≤ nth o r.t.toNat
  · rw [if_pos h, nth_setI hs]
    by_cases e : r.f.toNat = s
    · subst e; rw [if_pos rfl, if_pos ⟨h, rfl⟩]
    · rw [if_neg e, if_neg (fun x => e x.2.symm)]
  · rw [if_neg h, if_neg (fun x => h x.1)]
theorem late_pass {l : List Rid} (hg : ∀ i, i < l.length → okR (nth l i) = true) {o : List Int} (ho : o.length = 6) :
    Pass (lateNet l) (fun s => -(nth o s)) (fun s => -(nth (sweep lateR l o l.length) s)) ∧ Based (lateNet l) (fun s => -(nth o s)) (fun s => -(nth (sweep lateR l o l.length) s)) := by
  refine pass_of (lateNet_ok hg) (fun k s => -(nth (sweep lateR l o k) s)) (fun k => (nth l k).a ≤ nth (sweep lateR l o k) (nth l k).t.toNat) (fun k hk h => ?_) (fun k hk h => ?_) (fun k hk s hs => ?_)
  · have : (nth l k).a ≤ nth o (nth l k).t.toNat := by simp only [lateNet, sweep] at h; omega
    -- the values only grow
    have grow : ∀ j, j ≤ k → ∀ s, s < 6 → nth o s ≤ nth (sweep lateR l o j) s := fun j => by
      induction j with
      | zero => intro _ s _; exact Int.le_refl _
      | succ j ih =>
        intro hj s hs
        have ih := ih (by omega) s hs
        have hlen := (sweep_len lateR_len l o j).trans ho
        rw [sweep, lateR_nth (by omega)]
        split <;> omega
    obtain ⟨⟨e1, e2⟩, ⟨e3, e4⟩, _, _⟩ := okR_true.1 (hg k hk)
    have := grow k (Nat.le_refl _) (nth l k).t.toNat (by omega)
    omega
  · simp only [lateNet]; omega
  · have hlen := (sweep_len lateR_len l o k).trans ho
    have hs : s < 6 := hs
    simp only [lateNet, sweep]
    rw [lateR_nth (by omega)]
    refine ⟨fun h => ?_, fun h => ?_⟩
    · rw [if_pos h]; omega
    · rw [if_neg h]
theorem list_eq {o o' : List Int} (h : o.length = 6) (h' : o'.length = 6) (he : ∀ s, s < 6 → nth o s = nth o' s) : o = o' := by
  apply List.ext_getElem
  · omega
  · intro i h1 h2
    have := he i (by omega)
    rwa [nth_eq h1, nth_eq h2] at this
theorem late_ended {l : List Rid} (hg : ∀ i, i < l.length → okR (nth l i) = true) {o0 o : List Int} (h0 : o0.length = 6) (h : Ended lateR l o0 o) : o = sweeps lateR l o0 6 := by
  obtain ⟨n, rfl, hn⟩ := h
  have hl := fun k => (sweeps_len lateR_len l o0 k).trans h0
  refine list_eq (hl n) (hl 6) fun s hs => ?_
  have := one_end (lateNet_ok hg) (o := fun k s => -(nth (sweeps lateR l o0 k) s)) (o' := fun k s => -(nth (sweeps lateR l o0 k) s)) (fun k => (late_pass hg (hl k)).1) (fun k => (late_pass hg (hl k)).2) (fun k => (late_pass hg (hl k)).1)
    (fun _ _ => rfl) (n := n) (fun s _ => by rw [sweeps, hn]) (k := 6) (.inl (by simp [lateNet])) (s := s) hs
  omega
def lateL (l : List Rid) (to : Nat) (m : Int) : List Int := sweeps lateR l (start (-1) to m) 6
theorem lateL_len (l : List Rid) (to : Nat) (m : Int) : (lateL l to m).length = 6 := (sweeps_len lateR_len _ _ _).trans (start_len _ _ _)
theorem l15Latest_c (l : List Rid) (A : Option Addr) (cap : Nat) (to : Nat) (m : Int) (w : World) (hl : l.length ≤ 1048576) (hr : Rd w w.heap.size 5 Rid.cells A l) (hg : ∀ i, i < l.length → okR (nth l i) = true) (ht : to < 6) :
    Calls Try.prog 62 #[.slice A l.length cap, .int .i64 to, .int .i64 m] w (Gives (lateL l to m) w) :=
  (l15Latest_w l A cap to m w hl hr hg ht).mono fun _ _ ⟨o, hE, hG⟩ => by
    rw [late_ended hg (start_len _ _ _) hE] at hG; exact hG

def lateD (l : List Rid) (f t m : Int) : Int × Bool := if okT l f t m then (if nth (lateL l t.toNat m) f.toNat < 0 then (0, false) else (nth (lateL l t.toNat m) f.toNat, true)) else (0, false)
theorem okT_true {l : List Rid} {f t m : Int} (h : okT l f t m = true) : goodR l = true ∧ (0 ≤ f ∧ f ≤ 5) ∧ (0 ≤ t ∧ t ≤ 5) ∧ (0 ≤ m ∧ m ≤ 1439) := by
  simp only [okT, Bool.and_eq_true, inR_true, and_assoc] at h
  exact ⟨h.1, ⟨h.2.1, h.2.2.1⟩, ⟨h.2.2.2.1, h.2.2.2.2.1⟩, h.2.2.2.2.2⟩
theorem implLatestDeparture_c (l : List Rid) (A : Option Addr) (cap : Nat) (f t m : Int) (w : World) (hl : l.length ≤ 1048576) (hr : Rd w w.heap.size 5 Rid.cells A l) :
    Calls Try.prog 26 #[.slice A l.length cap, .int .i64 f, .int .i64 t, .int .i64 m] w fun e w' => e = .returned (.tuple #[.int .i64 (lateD l f t m).1, .bool (lateD l f t m).2]) ∧ Below w.heap.size w w' := by
  rcases hg : okT l f t m with _ | _
  · have H := Lib.hid (show lateD l f t m = (0, false) by simp [lateD, hg])
    go_enter Try.func26, Try.ntmps26
    go_wp2_with fail
    refine (isTravel_c l _ _ _ _ _ _ hl hr).mono ?_
    rintro e w1 ⟨rfl, hb1⟩
    go_wp2_with fail
    go_ret2
    exact ⟨rett2 H.out rfl rfl, hb1⟩
  obtain ⟨hgood, ⟨f1, f2⟩, ⟨t1, t2⟩, m1, m2⟩ := okT_true hg
  have HG := Lib.hid (goodR_true hgood)
  clear hgood
  obtain ⟨f, rfl⟩ : ∃ f' : Nat, f = (f' : Int) := ⟨f.toNat, by omega⟩
  obtain ⟨t, rfl⟩ : ∃ t' : Nat, t = (t' : Int) := ⟨t.toNat, by omega⟩
  have HD := Lib.hid (show lateD l f t m = (if nth (lateL l t m) f < 0 then (0, false) else (nth (lateL l t m) f, true)) by simp [lateD, hg])
  obtain ⟨o, ho⟩ : ∃ o, lateL l t m = o := ⟨_, rfl⟩
  have hlen := lateL_len l t m
  rw [ho] at HD hlen
  have HO := Lib.hid ho
  have HL := Lib.hid hlen
  clear ho hlen
  go_enter Try.func26, Try.ntmps26
  go_wp2_with fail
  refine (isTravel_c l _ _ _ _ _ _ hl hr).mono ?_
  rintro e w1 ⟨rfl, hb1⟩
  have hr1 := hr.carry hb1
  have HB1 := Lib.hid hb1
  clear hb1
  go_wp2_with fail
  refine (latest_c l _ _ t m _ hr1 HG.out (by omega)).mono ?_
  rintro e w2 ⟨g, gc, rfl, hgb, harr, hb2⟩
  rw [show sweeps lateR l (start (-1) t m) 6 = o from HO.out] at harr ⊢
  have hc := harr.cell (show f < o.length by have := HL.out; omega)
  have HB2 := Lib.hid (HB1.out.trans (hb2.mono HB1.out.size))
  have i1 : (0 : Int) ≤ (f : Int) := by omega
  have i2 : (f : Int) < o.length := by have := HL.out; omega
  clear hb2 harr hg
  by_cases hneg : nth o f < 0
  · have H := Lib.hid (show lateD l f t m = (0, false) by rw [HD.out, if_pos hneg])
    go_wp2_with fail
    go_ret2
    exact ⟨rett2 H.out rfl rfl, HB2.out⟩
  · have H := Lib.hid (show lateD l f t m = (nth o f, true) by rw [HD.out, if_neg hneg])
    go_wp2_with fail
    go_ret2
    exact ⟨rett2 H.out rfl rfl, HB2.out⟩
theorem specLatestDeparture_c (l : List Rid) (A : Option Addr) (cap : Nat) (f t m : Int) (w : World) (hl : l.length ≤ 1048576) (hr : Rd w w.heap.size 5 Rid.cells A l) :
    Calls Try.prog 25 #[.slice A l.length cap, .int .i64 f, .int .i64 t, .int .i64 m] w fun e w' => e = .returned (.tuple #[.int .i64 (lateD l f t m).1, .bool (lateD l f t m).2]) ∧ Below w.heap.size w w' := by
  rcases hg : okT l f t m with _ | _
  · have H := Lib.hid (show lateD l f t m = (0, false) by simp [lateD, hg])
    go_enter Try.func25, Try.ntmps25
    go_wp2_with fail
    refine (l15Asked_c l _ _ _ _ _ _ hl hr).mono ?_
    rintro e w1 ⟨rfl, hb1⟩
    go_wp2_with fail
    go_ret2
    exact ⟨rett2 H.out rfl rfl, hb1⟩
  obtain ⟨hgood, ⟨f1, f2⟩, ⟨t1, t2⟩, m1, m2⟩ := okT_true hg
  have HG := Lib.hid (goodR_true hgood)
  clear hgood
  obtain ⟨f, rfl⟩ : ∃ f' : Nat, f = (f' : Int) := ⟨f.toNat, by omega⟩
  obtain ⟨t, rfl⟩ : ∃ t' : Nat, t = (t' : Int) := ⟨t.toNat, by omega⟩
  have HD := Lib.hid (show lateD l f t m = (if nth (lateL l t m) f < 0 then (0, false) else (nth (lateL l t m) f, true)) by simp [lateD, hg])
  obtain ⟨o, ho⟩ : ∃ o, lateL l t m = o := ⟨_, rfl⟩
  have hlen := lateL_len l t m
  rw [ho] at HD hlen
  have HO := Lib.hid ho
  have HL := Lib.hid hlen
  clear ho hlen
  go_enter Try.func25, Try.ntmps25
  go_wp2_with fail
  refine (l15Asked_c l _ _ _ _ _ _ hl hr).mono ?_
  rintro e w1 ⟨rfl, hb1⟩
  have hr1 := hr.carry hb1
  have HB1 := Lib.hid hb1
  clear hb1
  go_wp2_with fail
  refine (l15Latest_c l _ _ t m _ hl hr1 HG.out.2 (by omega)).mono ?_
  rintro e w2 ⟨g, gc, rfl, hgb, harr, hb2⟩
  rw [HO.out] at harr ⊢
  have hc := harr.cell (show f < o.length by have := HL.out; omega)
  have hr2 := hr1.carry hb2
  have HB2 := Lib.hid (HB1.out.trans (hb2.mono HB1.out.size))
  have i1 : (0 : Int) ≤ (f : Int) := by omega
  have i2 : (f : Int) < o.length := by have := HL.out; omega
  clear hb2 harr hg
  by_cases hneg : nth o f < 0
  · have H := Lib.hid (show lateD l f t m = (0, false) by rw [HD.out, if_pos hneg])
    go_wp2_with fail
    go_ret2
    exact ⟨rett2 H.out rfl rfl, HB2.out⟩
  · have H := Lib.hid (show lateD l f t m = (nth o f, true) by rw [HD.out, if_neg hneg])
    go_wp2_with fail
    refine (l15Latest_c l _ _ t m _ hl hr2 HG.out.2 (by omega)).mono ?_
    rintro e w3 ⟨g3, gc3, rfl, hgb3, harr, hb3⟩
    rw [HO.out] at harr ⊢
    have hc3 := harr.cell (show f < o.length by have := HL.out; omega)
    have HB3 := Lib.hid (HB2.out.trans (hb3.mono HB2.out.size))
    clear hb3 harr
    go_wp2_with fail
    go_ret2
    exact ⟨rett2 H.out rfl rfl, HB3.out⟩
/-- What a call hands back: a list of its own, and whether there is one. -/
def ListPost (p : List Int × Bool) (w : World) (e : Ending) (w' : World) : Prop := ∃ A cap, e = .returned (.tuple #[.slice A p.1.length cap, .bool p.2]) ∧ Own w' w.heap.size 3 1 intCells A p.1 ∧ Below w.heap.size w w'

def descents (l : List Rid) : List Int × Bool := if goodR l then (lateL l 0 1439, true) else ([], false)
theorem implLastDescents_c (l : List Rid) (A : Option Addr) (cap : Nat) (w : World) (hl : l.length ≤ 1048576) (hr : Rd w w.heap.size 5 Rid.cells A l) :
    Calls Try.prog 32 #[.slice A l.length cap] w (ListPost (descents l) w) := by
  rcases hg : goodR l with _ | _
  · have H := Lib.hid (show descents l = ([], false) by simp [descents, hg])
    go_enter Try.func32, Try.ntmps32
    go_wp2_with fail
    refine (IsTimetable_c l _ _ _ hl hr).mono ?_
    rintro e w1 ⟨rfl, hb1⟩
    go_wp2_with fail
    go_ret2
    exact ⟨none, 0, retl H.out, by rw [H.out]; exact Own.nil, hb1⟩
  have HG := Lib.hid (goodR_true hg)
  have H := Lib.hid (show descents l = (lateL l 0 1439, true) by simp [descents, hg])
  go_enter Try.func32, Try.ntmps32
  go_wp2_with fail
  refine (IsTimetable_c l _ _ _ hl hr).mono ?_
  rintro e w1 ⟨rfl, hb1⟩
  have hr1 := hr.carry hb1
  have HB1 := Lib.hid hb1
  clear hb1
  go_wp2_with fail
  refine (latest_c l _ _ 0 1439 _ hr1 HG.out (by omega)).mono ?_
  rintro e w2 ⟨g, gc, rfl, hgb, harr, hb2⟩
  have HA := Lib.hid harr
  have HB2 := Lib.hid (HB1.out.trans (hb2.mono HB1.out.size))
  clear harr hb2
  go_wp2_with fail
  go_ret2
  exact ⟨_, _, retl H.out, by rw [H.out]; exact HA.out.own (Nat.le_trans HB1.out.size hgb), HB2.out⟩
theorem specLastDescents_c (l : List Rid) (A : Option Addr) (cap : Nat) (w : World) (hl : l.length ≤ 1048576) (hr : Rd w w.heap.size 5 Rid.cells A l) :
    Calls Try.prog 31 #[.slice A l.length cap] w (ListPost (descents l) w) := by
  rcases hg : goodR l with _ | _
  · have H := Lib.hid (show descents l = ([], false) by simp [descents, hg])
    go_enter Try.func31, Try.ntmps31
    go_wp2_with fail
    refine (l15Good_c l _ _ _ hl hr).mono ?_
    rintro e w1 ⟨rfl, hb1⟩
    go_wp2_with fail
    go_ret2
    exact ⟨_, 0, retl H.out, by rw [H.out]; exact Own.nil, hb1.alloc hb1.size _⟩
  have HG := Lib.hid (goodR_true hg)
  have H := Lib.hid (show descents l = (lateL l 0 1439, true) by simp [descents, hg])
  go_enter Try.func31, Try.ntmps31
  go_wp2_with fail
  refine (l15Good_c l _ _ _ hl hr).mono ?_
  rintro e w1 ⟨rfl, hb1⟩
  have hr1 := hr.carry hb1
  have HB1 := Lib.hid hb1
  clear hb1
  go_wp2_with fail
  refine (l15Latest_c l _ _ 0 1439 _ hl hr1 HG.out.2 (by omega)).mono ?_
  rintro e w2 ⟨g, gc, rfl, hgb, harr, hb2⟩
  have HA := Lib.hid harr
  have HB2 := Lib.hid (HB1.out.trans (hb2.mono HB1.out.size))
  clear harr hb2
  go_wp2_with fail
  go_ret2
  exact ⟨_, _, retl H.out, by rw [H.out]; exact HA.out.own (Nat.le_trans HB1.out.size hgb), HB2.out⟩
end Go.Proofs.Ytddnemmdlijgiaa
