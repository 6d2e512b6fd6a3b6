/- The program's rounds and the reference's rounds come to one end; EarliestArrival of both returns one Lean function; no conditions but the length. -/
import Derived.Test.YtddnemmdlijgiaaArrv
import Derived.Test.YtddnemmdlijgiaaLateEnd
namespace Go.Proofs.Ytddnemmdlijgiaa
open Go.RowKit

def earNet (l : List Rid) : Net := ⟨6, l.length, fun i => (nth l i).f.toNat, fun i => (nth l i).t.toNat, fun i => (nth l i).d, fun i => (nth l i).a⟩
theorem earNet_ok {l : List Rid} (hg : ∀ i, i < l.length → okR (nth l i) = true) : (earNet l).Ok := by
  refine ⟨fun i hi => ?_, fun i hi => ?_, fun i hi => ?_⟩
  all_goals
    obtain ⟨⟨e1, e2⟩, ⟨e3, e4⟩, _, ⟨e5, e6⟩, ⟨e7, e8⟩, _⟩ := okR_true.1 (hg i hi)
    simp only [earNet]
    omega
theorem jacR_nth {o x : List Int} {r : Rid} {s : Nat} (hs : s < x.length) : nth (jacR o x r) s = if nth o r.f.toNat ≤ r.d ∧ s = r.t.toNat then min (nth x s) r.a else nth x s := by
  unfold jacR
  by_cases h : nth o r.f.toNat ≤ r.d
  · rw [if_pos h, nth_setI hs]
    by_cases e : r.t.toNat = s
    · subst e; rw [if_pos rfl, if_pos ⟨h, rfl⟩]
    · rw [if_neg e, if_neg (fun x => e x.2.symm)]
  · rw [if_neg h, if_neg (fun x => h x.1)]
theorem ear_pass {l : List Rid} (hg : ∀ i, i < l.length → okR (nth l i) = true) {o : List Int} (ho : o.length = 6) :
    Pass (earNet l) (fun s => nth o s) (fun s => nth (sweep earR l o l.length) s) ∧ Based (earNet l) (fun s => nth o s) (fun s => nth (sweep earR l o l.length) s) := by
  refine pass_of (earNet_ok hg) (fun k s => nth (sweep earR l o k) s) (fun k => nth (sweep earR l o k) (nth l k).f.toNat ≤ (nth l k).d) (fun k hk h => ?_) (fun k hk h => h) (fun k hk s hs => ?_)
  · have : nth o (nth l k).f.toNat ≤ (nth l k).d := h
    have sink : ∀ j, j ≤ k → ∀ s, s < 6 → nth (sweep earR l o j) s ≤ nth o s := fun j => by
      induction j with
      | zero => intro _ s _; exact Int.le_refl _
      | succ j ih =>
        intro hj s hs
        have ih := ih (by omega) s hs
        have hlen := (sweep_len earR_len l o j).trans ho
        rw [sweep, earR, jacR_nth (by omega)]
        split <;> omega
    obtain ⟨⟨e1, e2⟩, ⟨e3, e4⟩, _, _⟩ := okR_true.1 (hg k hk)
    have := sink k (Nat.le_refl _) (nth l k).f.toNat (by omega)
    omega
  · have hlen := (sweep_len earR_len l o k).trans ho
    have hs : s < 6 := hs
    simp only [earNet, sweep]
    rw [earR, jacR_nth (by omega)]
    exact ⟨fun h => if_pos h, fun h => if_neg h⟩
theorem jac_pass {l : List Rid} (hg : ∀ i, i < l.length → okR (nth l i) = true) {o : List Int} (ho : o.length = 6) :
    Pass (earNet l) (fun s => nth o s) (fun s => nth (jsweep l o l.length) s) ∧ Based (earNet l) (fun s => nth o s) (fun s => nth (jsweep l o l.length) s) := by
  refine pass_of (earNet_ok hg) (fun k s => nth (jsweep l o k) s) (fun k => nth o (nth l k).f.toNat ≤ (nth l k).d) (fun k hk h => h) (fun k hk h => ?_) (fun k hk s hs => ?_)
  · have sink : ∀ j, j ≤ k → ∀ s, s < 6 → nth (jsweep l o j) s ≤ nth o s := fun j => by
      induction j with
      | zero => intro _ s _; exact Int.le_refl _
      | succ j ih =>
        intro hj s hs
        have ih := ih (by omega) s hs
        have hlen := (jsweep_len l o j).trans ho
        rw [jsweep, jacR_nth (by omega)]
        split <;> omega
    obtain ⟨⟨e1, e2⟩, ⟨e3, e4⟩, _, _⟩ := okR_true.1 (hg k hk)
    have := sink k (Nat.le_refl _) (nth l k).f.toNat (by omega)
    simp only [earNet]
    omega
  · have hlen := (jsweep_len l o k).trans ho
    have hs : s < 6 := hs
    simp only [earNet, jsweep]
    rw [jacR_nth (by omega)]
    exact ⟨fun h => if_pos h, fun h => if_neg h⟩
theorem ear_ended {l : List Rid} (hg : ∀ i, i < l.length → okR (nth l i) = true) {o0 x : List Int} (h0 : o0.length = 6) (h : EndedE l o0 x) : x = decL (jacs l o0 6) := by
  obtain ⟨o, ⟨n, rfl, hn⟩, rfl⟩ := h
  have hl := fun k => (sweeps_len earR_len l o0 k).trans h0
  have hj := fun k => (jacs_len l o0 k).trans h0
  congr 1
  refine list_eq (hl n) (hj 6) fun s hs => ?_
  exact (one_end (earNet_ok hg) (o := fun k s => nth (sweeps earR l o0 k) s) (o' := fun k s => nth (jacs l o0 k) s) (fun k => (ear_pass hg (hl k)).1) (fun k => (ear_pass hg (hl k)).2) (fun k => (jac_pass hg (hj k)).1)
    (fun _ _ => rfl) (n := n) (fun s _ => by rw [sweeps, hn]) (k := 6) (.inl (by simp [earNet])) (s := s) hs).symm
/-- So many rounds as there are rides are enough. -/
theorem jacs_end {l : List Rid} (hg : ∀ i, i < l.length → okR (nth l i) = true) {o0 : List Int} (h0 : Mins o0) {k : Nat} (hk : l.length ≤ k) : jacs l o0 k = jacs l o0 l.length := by
  have hj := fun k => (jacs_len l o0 k).trans h0.1
  obtain ⟨n, hn⟩ := ends (N := earNet l) (fun k s => nth (jacs l o0 k) s) (fun _ => 0) (fun k => (jac_pass hg (hj k)).1) (fun k s hs => ((mins_jacs hg h0 k).2 s hs).1)
  refine list_eq (hj k) (hj _) fun s hs => ?_
  have one := fun k (hk : l.length ≤ k) => one_end (earNet_ok hg) (o := fun k s => nth (jacs l o0 k) s) (o' := fun k s => nth (jacs l o0 k) s) (fun k => (jac_pass hg (hj k)).1) (fun k => (jac_pass hg (hj k)).2) (fun k => (jac_pass hg (hj k)).1)
    (fun _ _ => rfl) (n := n) hn (k := k) (.inr hk) (s := s) hs
  exact (one k hk).trans (one l.length (Nat.le_refl _)).symm
def earL (l : List Rid) (fr : Nat) (m : Int) : List Int := jacs l (start 1440 fr m) 6
theorem earL_len (l : List Rid) (fr : Nat) (m : Int) : (earL l fr m).length = 6 := (jacs_len _ _ _).trans (start_len _ _ _)
theorem earL_mins {l : List Rid} (hg : ∀ i, i < l.length → okR (nth l i) = true) {fr : Nat} {m : Int} (h0 : 0 ≤ m) (h1 : m ≤ 1439) : Mins (earL l fr m) := mins_jacs hg (mins_start h0 h1) 6
theorem l15Arrivals_c (l : List Rid) (A : Option Addr) (cap : Nat) (fr : Nat) (m : Int) (w : World) (hl : l.length ≤ 1048576) (hr : Rd w w.heap.size 5 Rid.cells A l) (hg : ∀ i, i < l.length → okR (nth l i) = true) (ht : fr < 6) (hm : 0 ≤ m ∧ m ≤ 1439) :
    Calls Try.prog 64 #[.slice A l.length cap, .int .i64 fr, .int .i64 m] w (Gives (decL (earL l fr m)) w) :=
  (l15Arrivals_w l A cap fr m w hl hr hg ht hm).mono fun _ _ ⟨o, hE, hG⟩ => by
    rw [ear_ended hg (start_len _ _ _) hE] at hG; exact hG

def earD (l : List Rid) (f t m : Int) : Int × Bool := if okT l f t m then (if nth (earL l f.toNat m) t.toNat = 1440 then (0, false) else (nth (earL l f.toNat m) t.toNat, true)) else (0, false)
theorem implEarliestArrival_c (l : List Rid) (A : Option Addr) (cap : Nat) (f t m : Int) (w : World) (hl : l.length ≤ 1048576) (hr : Rd w w.heap.size 5 Rid.cells A l) :
    Calls Try.prog 28 #[.slice A l.length cap, .int .i64 f, .int .i64 t, .int .i64 m] w fun e w' => e = .returned (.tuple #[.int .i64 (earD l f t m).1, .bool (earD l f t m).2]) ∧ Below w.heap.size w w' := by
  rcases hg : okT l f t m with _ | _
  · have H := Lib.hid (show earD l f t m = (0, false) by simp [earD, hg])
    go_enter Try.func28, Try.ntmps28
    go_wp2_with fail
    refine (isTravel_c l _ _ _ _ _ _ hl hr).mono ?_
    rintro e w1 ⟨rfl, hb1⟩
    go_wp2_with fail
    go_ret2
    exact ⟨rett2 H.out rfl rfl, hb1⟩
  obtain ⟨hgood, ⟨f1, f2⟩, ⟨t1, t2⟩, m1, m2⟩ := okT_true hg
  have HG := Lib.hid (goodR_true hgood)
  clear hgood
  obtain ⟨f, rfl⟩ : ∃ f' : Nat, f = (f' : Int) := ⟨f.toNat, by omega⟩
  obtain ⟨t, rfl⟩ : ∃ t' : Nat, t = (t' : Int) := ⟨t.toNat, by omega⟩
  have HD := Lib.hid (show earD l f t m = (if nth (earL l f m) t = 1440 then (0, false) else (nth (earL l f m) t, true)) by simp [earD, hg])
  have hmin := (earL_mins (fr := f) HG.out.2 m1 m2).2 t (by omega)
  obtain ⟨o, ho⟩ : ∃ o, earL l f m = o := ⟨_, rfl⟩
  have hlen := earL_len l f m
  rw [ho] at HD hlen hmin
  have HO := Lib.hid ho
  have HL := Lib.hid hlen
  have HM := Lib.hid hmin
  clear ho hlen hmin
  go_enter Try.func28, Try.ntmps28
  go_wp2_with fail
  refine (isTravel_c l _ _ _ _ _ _ hl hr).mono ?_
  rintro e w1 ⟨rfl, hb1⟩
  have hr1 := hr.carry hb1
  have HB1 := Lib.hid hb1
  clear hb1
  go_wp2_with fail
  refine (earliest_c l _ _ f m 6 _ hr1 HG.out (by omega) (by omega)).mono ?_
  rintro e w2 ⟨g, gc, rfl, hgb, harr, hb2⟩
  rw [show jacs l (start 1440 f m) 6 = o from HO.out] at harr ⊢
  have hc := harr.cell (show t < o.length by have := HL.out; omega)
  have HB2 := Lib.hid (HB1.out.trans (hb2.mono HB1.out.size))
  have i1 : (0 : Int) ≤ (t : Int) := by omega
  have i2 : (t : Int) < o.length := by have := HL.out; omega
  clear hb2 harr hg
  by_cases hneg : nth o t = 1440
  · have H := Lib.hid (show earD l f t m = (0, false) by rw [HD.out, if_pos hneg])
    rw [hneg] at hc
    clear hneg
    go_wp2_with fail
    go_ret2
    exact ⟨rett2 H.out rfl rfl, HB2.out⟩
  · have H := Lib.hid (show earD l f t m = (nth o t, true) by rw [HD.out, if_neg hneg])
    have hneg' : (nth o t == 1440) = false := by simpa using hneg
    go_wp2_with fail
    go_ret2
    exact ⟨rett2 H.out rfl rfl, HB2.out⟩
theorem specEarliestArrival_c (l : List Rid) (A : Option Addr) (cap : Nat) (f t m : Int) (w : World) (hl : l.length ≤ 1048576) (hr : Rd w w.heap.size 5 Rid.cells A l) :
    Calls Try.prog 27 #[.slice A l.length cap, .int .i64 f, .int .i64 t, .int .i64 m] w fun e w' => e = .returned (.tuple #[.int .i64 (earD l f t m).1, .bool (earD l f t m).2]) ∧ Below w.heap.size w w' := by
  rcases hg : okT l f t m with _ | _
  · have H := Lib.hid (show earD l f t m = (0, false) by simp [earD, hg])
    go_enter Try.func27, Try.ntmps27
    go_wp2_with fail
    refine (l15Asked_c l _ _ _ _ _ _ hl hr).mono ?_
    rintro e w1 ⟨rfl, hb1⟩
    go_wp2_with fail
    go_ret2
    exact ⟨rett2 H.out rfl rfl, hb1⟩
  obtain ⟨hgood, ⟨f1, f2⟩, ⟨t1, t2⟩, m1, m2⟩ := okT_true hg
  have HG := Lib.hid (goodR_true hgood)
  clear hgood
  obtain ⟨f, rfl⟩ : ∃ f' : Nat, f = (f' : Int) := ⟨f.toNat, by omega⟩
  obtain ⟨t, rfl⟩ : ∃ t' : Nat, t = (t' : Int) := ⟨t.toNat, by omega⟩
  have HD := Lib.hid (show earD l f t m = (if nth (earL l f m) t = 1440 then (0, false) else (nth (earL l f m) t, true)) by simp [earD, hg])
  have hmin := (earL_mins (fr := f) HG.out.2 m1 m2).2 t (by omega)
  obtain ⟨o, ho⟩ : ∃ o, earL l f m = o := ⟨_, rfl⟩
  have hlen := earL_len l f m
  rw [ho] at HD hlen hmin
  have HO := Lib.hid ho
  have HL := Lib.hid hlen
  have HM := Lib.hid hmin
  clear ho hlen hmin
  go_enter Try.func27, Try.ntmps27
  go_wp2_with fail
  refine (l15Asked_c l _ _ _ _ _ _ hl hr).mono ?_
  rintro e w1 ⟨rfl, hb1⟩
  have hr1 := hr.carry hb1
  have HB1 := Lib.hid hb1
  clear hb1
  go_wp2_with fail
  refine (l15Arrivals_c l _ _ f m _ hl hr1 HG.out.2 (by omega) ⟨m1, m2⟩).mono ?_
  rintro e w2 ⟨g, gc, rfl, hgb, harr, hb2⟩
  rw [HO.out] at harr ⊢
  have HLd := Lib.hid (show (decL o).length = 6 by rw [decL_len]; exact HL.out)
  have hc := harr.cell (show t < (decL o).length by have := HLd.out; omega)
  rw [decL_nth (by have := HL.out; omega)] at hc
  have hr2 := hr1.carry hb2
  have HB2 := Lib.hid (HB1.out.trans (hb2.mono HB1.out.size))
  have i1 : (0 : Int) ≤ (t : Int) := by omega
  have i2 : (t : Int) < (decL o).length := by have := HLd.out; omega
  clear hb2 harr hg
  by_cases hneg : nth o t = 1440
  · have H := Lib.hid (show earD l f t m = (0, false) by rw [HD.out, if_pos hneg])
    rw [hneg, show dec 1440 = -1 from rfl] at hc
    clear hneg
    go_wp2_with fail
    go_ret2
    exact ⟨rett2 H.out rfl rfl, HB2.out⟩
  · have H := Lib.hid (show earD l f t m = (nth o t, true) by rw [HD.out, if_neg hneg])
    rw [dec, if_neg hneg] at hc
    have hpos : ¬ nth o t < 0 := by have := HM.out; omega
    go_wp2_with fail
    refine (l15Arrivals_c l _ _ f m _ hl hr2 HG.out.2 (by omega) ⟨m1, m2⟩).mono ?_
    rintro e w3 ⟨g3, gc3, rfl, hgb3, harr, hb3⟩
    rw [HO.out] at harr ⊢
    have hc3 := harr.cell (show t < (decL o).length by have := HLd.out; omega)
    rw [decL_nth (by have := HL.out; omega), dec, if_neg hneg] at hc3
    have HB3 := Lib.hid (HB2.out.trans (hb3.mono HB2.out.size))
    clear hb3 harr
    go_wp2_with fail
    go_ret2
    exact ⟨rett2 H.out rfl rfl, HB3.out⟩
end Go.Proofs.Ytddnemmdlijgiaa
