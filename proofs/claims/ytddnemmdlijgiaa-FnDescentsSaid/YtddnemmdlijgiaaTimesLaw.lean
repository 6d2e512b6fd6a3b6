/- FnTimetables returns true for all codes: who leaves at the latest departure arrives in time, and a later minute never arrives earlier; no conditions. -/
import Derived.Test.YtddnemmdlijgiaaRidesDraw
import Derived.Test.YtddnemmdlijgiaaConn
import Derived.Deep.DeepCutAuto
namespace Go.Proofs.Ytddnemmdlijgiaa
open Go.RowKit Go.Joins Go.ChangeShapes Go.WideShapes Go.ChangeAt

/-- A contract that returns a number and a yes or no, at names of one's own. -/
def NB (f : FuncId) (args : Array Value) (v : Int) (b : Bool) (W : World) : Prop := Calls Try.prog f args W fun e w' => e = .returned (.tuple #[.int .i64 v, .bool b]) ∧ Below W.heap.size W w'
theorem NB.of {f : FuncId} {args : Array Value} {p : Int × Bool} {v : Int} {b : Bool} {W : World} (h : Calls Try.prog f args W fun e w' => e = .returned (.tuple #[.int .i64 p.1, .bool p.2]) ∧ Below W.heap.size W w') (hp : p = (v, b)) : Calls Try.prog f args W fun e w' => e = .returned (.tuple #[.int .i64 v, .bool b]) ∧ Below W.heap.size W w' := by subst hp; exact h
theorem LP.of {f : FuncId} {args : Array Value} {p : List Int × Bool} {L : List Int} {b : Bool} {W : World} (h : Calls Try.prog f args W (ListPost p W)) (hp : p = (L, b)) :
    Calls Try.prog f args W fun e w' => ∃ A cap, e = .returned (.tuple #[.slice A L.length cap, .bool b]) ∧ Own w' W.heap.size 3 1 intCells A L ∧ Below W.heap.size W w' := by subst hp; exact h
set_option maxRecDepth 100000 in
set_option maxHeartbeats 4000000 in
theorem lawTimetables (code : List Int) (A : Option Addr) (n cap : Nat) (w : World) (hin : InBytes w A n code) :
    Calls Try.prog 12 #[.slice A n cap] w fun e w' => e = .returned (.bool true) ∧ Below w.heap.size w w' := by
  have kc0 : Codes w A n := ⟨code, hin⟩
  clear hin
  by_cases hn : 65536 < (n : Int)
  · go_enter Try.func12, Try.ntmps12
    go_wp2_with fail
    refine (vBig_c _ _ _ _).mono ?_
    rintro e w' ⟨rfl, rfl⟩
    go_wp2_with fail
    go_ret
    exact ⟨rfl, Below.refl _ _⟩
  go_enter Try.func12, Try.ntmps12
  go_wp2_with fail
  refine (vBig_c _ _ _ _).mono ?_
  rintro e w' ⟨rfl, rfl⟩
  go_wp2_with fail
  refine (drawLatestDeparture_c _ _ _ _ kc0).mono ?_
  rintro e w1 ⟨A1, c1, l, f, t, m, rfl, hl, o1, hb1⟩
  have hz1 := hb1.size
  try simp only [World.size_alloc] at c1
  try simp only [World.size_alloc] at l
  try simp only [World.size_alloc] at f
  try simp only [World.size_alloc] at t
  try simp only [World.size_alloc] at m
  try simp only [World.size_alloc] at hl
  try simp only [World.size_alloc] at o1
  have hB1 : Below w.heap.size w w1 := (by repeat (first | (with_reducible exact Below.refl _ _) | ((with_reducible refine alloc_ ?_ ?_); (focus (first | exact Nat.le_refl _ | (simp; done) | (simp; omega) | omega))) | ((with_reducible refine set_ ?_ ?_); (focus (first | exact Nat.le_refl _ | (simp; done) | (simp; omega) | omega))) | (with_reducible refine Below.drew ?_) | ((with_reducible refine after_ ?_ (by assumption) ?_); (rotate_left; (focus (first | exact Nat.le_refl _ | (simp; done) | (simp; omega) | omega))))))
  have hs1 := hB1.size
  have kc1 := kc0.carry hB1
  have hl1 : l.length ≤ 1048576 := by omega
  obtain ⟨⟨v, b⟩, hv⟩ : ∃ p, lateD l f t m = p := ⟨_, rfl⟩
  have HV := Lib.hid hv
  clear hv hl
  go_wp2_with fail
  refine (NB.of (implLatestDeparture_c l _ _ f t m _ hl1 (o1.rd fun _ => rfl)) HV.out).mono ?_
  rintro e w2 ⟨rfl, hb2⟩
  have hz2 := hb2.size
  have hB2 : Below w1.heap.size w1 w2 := (by repeat (first | (with_reducible exact Below.refl _ _) | ((with_reducible refine alloc_ ?_ ?_); (focus (first | exact Nat.le_refl _ | (simp; done) | (simp; omega) | omega))) | ((with_reducible refine set_ ?_ ?_); (focus (first | exact Nat.le_refl _ | (simp; done) | (simp; omega) | omega))) | (with_reducible refine Below.drew ?_) | ((with_reducible refine after_ ?_ (by assumption) ?_); (rotate_left; (focus (first | exact Nat.le_refl _ | (simp; done) | (simp; omega) | omega))))))
  have hs2 := hB2.size
  have kc2 := kc1.carry hB2
  have o2 := o1.carry hB2
  go_wp2_with fail
  refine (NB.of (specLatestDeparture_c l _ _ f t m _ hl1 (o2.rd fun _ => rfl)) HV.out).mono ?_
  rintro e w3 ⟨rfl, hb3⟩
  have hz3 := hb3.size
  have hB3 : Below w2.heap.size w2 w3 := (by repeat (first | (with_reducible exact Below.refl _ _) | ((with_reducible refine alloc_ ?_ ?_); (focus (first | exact Nat.le_refl _ | (simp; done) | (simp; omega) | omega))) | ((with_reducible refine set_ ?_ ?_); (focus (first | exact Nat.le_refl _ | (simp; done) | (simp; omega) | omega))) | (with_reducible refine Below.drew ?_) | ((with_reducible refine after_ ?_ (by assumption) ?_); (rotate_left; (focus (first | exact Nat.le_refl _ | (simp; done) | (simp; omega) | omega))))))
  have hs3 := hB3.size
  have kc3 := kc2.carry hB3
  have o3 := o2.carry hB3
  go_wp2_with fail
  refine (IsTimetable_c l _ _ _ hl1 (o3.rd fun _ => rfl)).mono ?_
  rintro e w4 ⟨rfl, hb4⟩
  have hz4 := hb4.size
  have hB4 : Below w3.heap.size w3 w4 := (by repeat (first | (with_reducible exact Below.refl _ _) | ((with_reducible refine alloc_ ?_ ?_); (focus (first | exact Nat.le_refl _ | (simp; done) | (simp; omega) | omega))) | ((with_reducible refine set_ ?_ ?_); (focus (first | exact Nat.le_refl _ | (simp; done) | (simp; omega) | omega))) | (with_reducible refine Below.drew ?_) | ((with_reducible refine after_ ?_ (by assumption) ?_); (rotate_left; (focus (first | exact Nat.le_refl _ | (simp; done) | (simp; omega) | omega))))))
  have hs4 := hB4.size
  have kc4 := kc3.carry hB4
  have o4 := o3.carry hB4
  go_wp2_with fail
  refine (specIsTimetable_c l _ _ _ hl1 (o4.rd fun _ => rfl)).mono ?_
  rintro e w5 ⟨rfl, hb5⟩
  have hz5 := hb5.size
  have hB5 : Below w4.heap.size w4 w5 := (by repeat (first | (with_reducible exact Below.refl _ _) | ((with_reducible refine alloc_ ?_ ?_); (focus (first | exact Nat.le_refl _ | (simp; done) | (simp; omega) | omega))) | ((with_reducible refine set_ ?_ ?_); (focus (first | exact Nat.le_refl _ | (simp; done) | (simp; omega) | omega))) | (with_reducible refine Below.drew ?_) | ((with_reducible refine after_ ?_ (by assumption) ?_); (rotate_left; (focus (first | exact Nat.le_refl _ | (simp; done) | (simp; omega) | omega))))))
  have hs5 := hB5.size
  have kc5 := kc4.carry hB5
  have o5 := o4.carry hB5
  go_upto_if 78 with fail
  go_cut [2] (fun s wx => s = .bool false ∧ Codes wx A n ∧ Below w.heap.size w wx)
  case first => as_aux_lemma =>
    have HB := Lib.hid (show Below w.heap.size w w5 from (by repeat (first | (with_reducible exact Below.refl _ _) | ((with_reducible refine alloc_ ?_ ?_); (focus (first | exact Nat.le_refl _ | (simp; done) | (simp; omega) | omega))) | ((with_reducible refine set_ ?_ ?_); (focus (first | exact Nat.le_refl _ | (simp; done) | (simp; omega) | omega))) | (with_reducible refine Below.drew ?_) | ((with_reducible refine after_ ?_ (by assumption) ?_); (rotate_left; (focus (first | exact Nat.le_refl _ | (simp; done) | (simp; omega) | omega)))))))
    rcases b with _ | _
    · go_wp2_with fail
      go_meet
      exact ⟨rfl, kc5, HB.out⟩
    · obtain ⟨v1, v2⟩ := lateD_bd (l := l) (f := f) (t := t) (m := m) (by rw [HV.out])
      obtain ⟨p1, p2⟩ := late_in_time (l := l) (f := f) (t := t) (m := m) (by rw [HV.out])
      have p3 := later_too_late (l := l) (f := f) (t := t) (m := m) (by rw [HV.out])
      rw [HV.out] at v1 v2 p1 p2 p3
      simp only at v1 v2 p1 p2 p3
      obtain ⟨⟨a, one⟩, ha⟩ : ∃ p, earD l f t v = p := ⟨_, rfl⟩
      obtain ⟨⟨c, two⟩, hc⟩ : ∃ p, earD l f t (v + 1) = p := ⟨_, rfl⟩
      rw [ha] at p1 p2
      rw [hc] at p3
      simp only at p1 p2 p3
      subst p1
      have HA := Lib.hid ha
      have HC := Lib.hid hc
      have P3 := Lib.hid p3
      clear ha hc p3
      go_wp2_with fail
      refine (NB.of (implEarliestArrival_c l _ _ f t v _ hl1 (o5.rd fun _ => rfl)) HA.out).mono ?_
      rintro e w6 ⟨rfl, hb6⟩
      have o6 := o5.carry hb6
      go_wp2_with fail
      refine (NB.of (implEarliestArrival_c l _ _ f t (v + 1) _ hl1 (o6.rd fun _ => rfl)) HC.out).mono ?_
      rintro e w7 ⟨rfl, hb7⟩
      have kc7 := (kc5.carry hb6).carry hb7
      rcases two with _ | _
      · go_wp2_with fail
        go_meet
        exact ⟨rfl, kc7, (HB.out.trans (hb6.mono HB.out.size)).trans (hb7.mono (Nat.le_trans HB.out.size hb6.size))⟩
      · have p4 := P3.out rfl
        go_wp2_with fail
        go_meet
        exact ⟨rfl, kc7, (HB.out.trans (hb6.mono HB.out.size)).trans (hb7.mono (Nat.le_trans HB.out.size hb6.size))⟩
  case rest => as_aux_lemma =>
    obtain ⟨rfl, kc0, hbc⟩ := hcut
    have HBC := Lib.hid hbc
    clear hbc
    obtain ⟨w0, hw0⟩ : ∃ w0, w0 = wc := ⟨_, rfl⟩
    subst hw0
    clear hb1 hz1 hB1 hs1 kc1 o1 hb2 hz2 hB2 hs2 kc2 o2 hb3 hz3 hB3 hs3 kc3 o3 hb4 hz4 hB4 hs4 kc4 o4 hb5 hz5 hB5 hs5 kc5 o5 HV
    go_wp2_with fail
    refine (drawEarliestArrival_c _ _ _ _ kc0).mono ?_
    rintro e w1 ⟨A1, c1, l, f, t, m, rfl, hl, o1, hb1⟩
    have hz1 := hb1.size
    try simp only [World.size_alloc] at c1
    try simp only [World.size_alloc] at l
    try simp only [World.size_alloc] at f
    try simp only [World.size_alloc] at t
    try simp only [World.size_alloc] at m
    try simp only [World.size_alloc] at hl
    try simp only [World.size_alloc] at o1
    have hB1 : Below w0.heap.size w0 w1 := (by repeat (first | (with_reducible exact Below.refl _ _) | ((with_reducible refine alloc_ ?_ ?_); (focus (first | exact Nat.le_refl _ | (simp; done) | (simp; omega) | omega))) | ((with_reducible refine set_ ?_ ?_); (focus (first | exact Nat.le_refl _ | (simp; done) | (simp; omega) | omega))) | (with_reducible refine Below.drew ?_) | ((with_reducible refine after_ ?_ (by assumption) ?_); (rotate_left; (focus (first | exact Nat.le_refl _ | (simp; done) | (simp; omega) | omega))))))
    have hs1 := hB1.size
    have kc1 := kc0.carry hB1
    have hl1 : l.length ≤ 1048576 := by omega
    obtain ⟨⟨v, b⟩, hv⟩ : ∃ p, earD l f t m = p := ⟨_, rfl⟩
    have HV := Lib.hid hv
    have hge := earD_ge (l := l) (f := f) (t := t) (m := m)
    rw [hv] at hge
    have HGE := Lib.hid (show b = true → m ≤ v from hge)
    have hft := few_told (l := l) (f := f) (t := t) (m := m)
    obtain ⟨⟨u, d⟩, hu⟩ : ∃ p, few l f t m = p := ⟨_, rfl⟩
    rw [hv, hu] at hft
    obtain rfl : d = b := hft.1
    have HFT := Lib.hid (show d = true → (u == 0) = (f == t) from hft.2)
    have HU := Lib.hid hu
    clear hv hl hge hft hu
    go_wp2_with fail
    refine (NB.of (implEarliestArrival_c l _ _ f t m _ hl1 (o1.rd fun _ => rfl)) HV.out).mono ?_
    rintro e w2 ⟨rfl, hb2⟩
    have hz2 := hb2.size
    have hB2 : Below w1.heap.size w1 w2 := (by repeat (first | (with_reducible exact Below.refl _ _) | ((with_reducible refine alloc_ ?_ ?_); (focus (first | exact Nat.le_refl _ | (simp; done) | (simp; omega) | omega))) | ((with_reducible refine set_ ?_ ?_); (focus (first | exact Nat.le_refl _ | (simp; done) | (simp; omega) | omega))) | (with_reducible refine Below.drew ?_) | ((with_reducible refine after_ ?_ (by assumption) ?_); (rotate_left; (focus (first | exact Nat.le_refl _ | (simp; done) | (simp; omega) | omega))))))
    have hs2 := hB2.size
    have kc2 := kc1.carry hB2
    have o2 := o1.carry hB2
    go_wp2_with fail
    refine (NB.of (specEarliestArrival_c l _ _ f t m _ hl1 (o2.rd fun _ => rfl)) HV.out).mono ?_
    rintro e w3 ⟨rfl, hb3⟩
    have hz3 := hb3.size
    have hB3 : Below w2.heap.size w2 w3 := (by repeat (first | (with_reducible exact Below.refl _ _) | ((with_reducible refine alloc_ ?_ ?_); (focus (first | exact Nat.le_refl _ | (simp; done) | (simp; omega) | omega))) | ((with_reducible refine set_ ?_ ?_); (focus (first | exact Nat.le_refl _ | (simp; done) | (simp; omega) | omega))) | (with_reducible refine Below.drew ?_) | ((with_reducible refine after_ ?_ (by assumption) ?_); (rotate_left; (focus (first | exact Nat.le_refl _ | (simp; done) | (simp; omega) | omega))))))
    have hs3 := hB3.size
    have kc3 := kc2.carry hB3
    have o3 := o2.carry hB3
    go_upto_region 18 with fail
    go_cut [147] (fun s wx => s = .bool false ∧ w3 = wx)
    case first => as_aux_lemma =>
      rcases d with _ | _
      · go_wp2_with fail
        go_meet
        exact ⟨rfl, rfl⟩
      · have := HGE.out rfl
        go_wp2_with fail
        go_meet
        exact ⟨by first | rfl | exact congrArg Value.bool (decide_eq_false (by omega)), rfl⟩
    obtain ⟨rfl, rfl⟩ := hcut
    go_wp2_with fail
    refine (NB.of (implFewestRides_c l _ _ f t m _ hl1 (o3.rd fun _ => rfl)) HU.out).mono ?_
    rintro e w4 ⟨rfl, hb4⟩
    have hz4 := hb4.size
    have hB4 : Below w3.heap.size w3 w4 := (by repeat (first | (with_reducible exact Below.refl _ _) | ((with_reducible refine alloc_ ?_ ?_); (focus (first | exact Nat.le_refl _ | (simp; done) | (simp; omega) | omega))) | ((with_reducible refine set_ ?_ ?_); (focus (first | exact Nat.le_refl _ | (simp; done) | (simp; omega) | omega))) | (with_reducible refine Below.drew ?_) | ((with_reducible refine after_ ?_ (by assumption) ?_); (rotate_left; (focus (first | exact Nat.le_refl _ | (simp; done) | (simp; omega) | omega))))))
    have hs4 := hB4.size
    have kc4 := kc3.carry hB4
    have o4 := o3.carry hB4
    go_wp2_with fail
    refine (NB.of (specFewestRides_c l _ _ f t m _ hl1 (o4.rd fun _ => rfl)) HU.out).mono ?_
    rintro e w5 ⟨rfl, hb5⟩
    have hz5 := hb5.size
    have hB5 : Below w4.heap.size w4 w5 := (by repeat (first | (with_reducible exact Below.refl _ _) | ((with_reducible refine alloc_ ?_ ?_); (focus (first | exact Nat.le_refl _ | (simp; done) | (simp; omega) | omega))) | ((with_reducible refine set_ ?_ ?_); (focus (first | exact Nat.le_refl _ | (simp; done) | (simp; omega) | omega))) | (with_reducible refine Below.drew ?_) | ((with_reducible refine after_ ?_ (by assumption) ?_); (rotate_left; (focus (first | exact Nat.le_refl _ | (simp; done) | (simp; omega) | omega))))))
    have hs5 := hB5.size
    have kc5 := kc4.carry hB5
    have o5 := o4.carry hB5
    go_upto_region 22 with fail
    go_cut [187] (fun s wx => s = .bool false ∧ w5 = wx)
    case first => as_aux_lemma =>
      rcases d with _ | _
      · go_wp2_with fail
        go_meet
        exact ⟨rfl, rfl⟩
      · rcases hft : (f == t) with _ | _
        · have hu0 := (HFT.out rfl).trans hft
          go_wp2_with fail
          go_meet
          exact ⟨rfl, rfl⟩
        · have hu0 := (HFT.out rfl).trans hft
          go_wp2_with fail
          go_meet
          exact ⟨rfl, rfl⟩
    obtain ⟨rfl, rfl⟩ := hcut
    clear HV HGE HFT HU
    go_wp2_with fail
    refine (drawReachedBy_c _ _ _ _ kc5).mono ?_
    rintro e w6 ⟨A2, c2, l2, f, m, u, rfl, hl2, q6, hb6⟩
    have hz6 := hb6.size
    try simp only [World.size_alloc] at c2
    try simp only [World.size_alloc] at l2
    try simp only [World.size_alloc] at f
    try simp only [World.size_alloc] at m
    try simp only [World.size_alloc] at u
    try simp only [World.size_alloc] at hl2
    try simp only [World.size_alloc] at q6
    have hB6 : Below w5.heap.size w5 w6 := (by repeat (first | (with_reducible exact Below.refl _ _) | ((with_reducible refine alloc_ ?_ ?_); (focus (first | exact Nat.le_refl _ | (simp; done) | (simp; omega) | omega))) | ((with_reducible refine set_ ?_ ?_); (focus (first | exact Nat.le_refl _ | (simp; done) | (simp; omega) | omega))) | (with_reducible refine Below.drew ?_) | ((with_reducible refine after_ ?_ (by assumption) ?_); (rotate_left; (focus (first | exact Nat.le_refl _ | (simp; done) | (simp; omega) | omega))))))
    have hs6 := hB6.size
    have kc6 := kc5.carry hB6
    have o6 := o5.carry hB6
    have hl3 : l2.length ≤ 1048576 := by omega
    have hhas := fun h (s : Nat) => reached_has (l := l2) (f := f) (m := m) (u := u) h (s := s)
    obtain ⟨⟨L, d⟩, hv⟩ : ∃ p, reached l2 f m u = p := ⟨_, rfl⟩
    have hLl : L.length ≤ 1048576 := by have := reached_len (l := l2) (f := f) (m := m) (u := u); rw [hv] at this; simp only at this; omega
    rw [hv] at hhas
    have HV := Lib.hid hv
    have HH := Lib.hid (show d = true → ∀ s : Nat, s < 6 → decide ((s : Int) ∈ L) = ((earD l2 f s m).2 && decide ((earD l2 f s m).1 ≤ u)) from hhas)
    clear hv hhas hl2
    go_wp2_with fail
    refine (LP.of (implReachedBy_c l2 _ _ f m u _ hl3 (q6.rd fun _ => rfl)) HV.out).mono ?_
    rintro e w7 ⟨B1, e1, rfl, r7, hb7⟩
    have hz7 := hb7.size
    try simp only [World.size_alloc] at e1
    try simp only [World.size_alloc] at r7
    have hB7 : Below w6.heap.size w6 w7 := (by repeat (first | (with_reducible exact Below.refl _ _) | ((with_reducible refine alloc_ ?_ ?_); (focus (first | exact Nat.le_refl _ | (simp; done) | (simp; omega) | omega))) | ((with_reducible refine set_ ?_ ?_); (focus (first | exact Nat.le_refl _ | (simp; done) | (simp; omega) | omega))) | (with_reducible refine Below.drew ?_) | ((with_reducible refine after_ ?_ (by assumption) ?_); (rotate_left; (focus (first | exact Nat.le_refl _ | (simp; done) | (simp; omega) | omega))))))
    have hs7 := hB7.size
    have kc7 := kc6.carry hB7
    have o7 := o6.carry hB7
    have q7 := q6.carry hB7
    go_wp2_with fail
    refine (LP.of (specReachedBy_c l2 _ _ f m u _ hl3 (q7.rd fun _ => rfl)) HV.out).mono ?_
    rintro e w8 ⟨B2, e2, rfl, s8, hb8⟩
    have hz8 := hb8.size
    try simp only [World.size_alloc] at e2
    try simp only [World.size_alloc] at s8
    have hB8 : Below w7.heap.size w7 w8 := (by repeat (first | (with_reducible exact Below.refl _ _) | ((with_reducible refine alloc_ ?_ ?_); (focus (first | exact Nat.le_refl _ | (simp; done) | (simp; omega) | omega))) | ((with_reducible refine set_ ?_ ?_); (focus (first | exact Nat.le_refl _ | (simp; done) | (simp; omega) | omega))) | (with_reducible refine Below.drew ?_) | ((with_reducible refine after_ ?_ (by assumption) ?_); (rotate_left; (focus (first | exact Nat.le_refl _ | (simp; done) | (simp; omega) | omega))))))
    have hs8 := hB8.size
    have kc8 := kc7.carry hB8
    have o8 := o7.carry hB8
    have q8 := q7.carry hB8
    have r8 := r7.carry hB8
    go_wp2_with fail
    refine (vInts_same L _ _ _ _ _ hLl (r8.rd fun _ => rfl) (s8.rd fun _ => rfl)).mono ?_
    rintro e w9 ⟨rfl, hb9⟩
    have hz9 := hb9.size
    have hB9 : Below w8.heap.size w8 w9 := (by repeat (first | (with_reducible exact Below.refl _ _) | ((with_reducible refine alloc_ ?_ ?_); (focus (first | exact Nat.le_refl _ | (simp; done) | (simp; omega) | omega))) | ((with_reducible refine set_ ?_ ?_); (focus (first | exact Nat.le_refl _ | (simp; done) | (simp; omega) | omega))) | (with_reducible refine Below.drew ?_) | ((with_reducible refine after_ ?_ (by assumption) ?_); (rotate_left; (focus (first | exact Nat.le_refl _ | (simp; done) | (simp; omega) | omega))))))
    have hs9 := hB9.size
    have kc9 := kc8.carry hB9
    have o9 := o8.carry hB9
    have q9 := q8.carry hB9
    have r9 := r8.carry hB9
    have s9 := s8.carry hB9
    have HB9 := Lib.hid (show Below w0.heap.size w0 w9 from (by repeat (first | (with_reducible exact Below.refl _ _) | ((with_reducible refine alloc_ ?_ ?_); (focus (first | exact Nat.le_refl _ | (simp; done) | (simp; omega) | omega))) | ((with_reducible refine set_ ?_ ?_); (focus (first | exact Nat.le_refl _ | (simp; done) | (simp; omega) | omega))) | (with_reducible refine Below.drew ?_) | ((with_reducible refine after_ ?_ (by assumption) ?_); (rotate_left; (focus (first | exact Nat.le_refl _ | (simp; done) | (simp; omega) | omega)))))))
    have Q9 := Lib.hid q9
    have R9 := Lib.hid r9
    go_wp2_with fail
    go_loopw [35] (fun i wr => ∃ k : Nat, k ≤ 6 ∧ i = .int .i64 k ∧ Below w9.heap.size w9 wr) (fun i _ => 6 - (intOf i).toNat)
    case atStart => exact ⟨0, by omega, rfl, Below.refl _ _⟩
    case round => as_aux_lemma =>
      obtain ⟨k, hk, rfl, hbel⟩ := hrel
      have HB := Lib.hid hbel
      have HE := Lib.hid (show Below w.heap.size w wr from (HBC.out.trans (HB9.out.mono HBC.out.size)).trans (hbel.mono (Nat.le_trans HBC.out.size HB9.out.size)))
      have z9 := hbel.size
      by_cases hlt : k < 6
      · rcases d with _ | _
        · clear hbel
          go_wp2_with fail
          go_ret
          exact ⟨rfl, HE.out⟩
        · have h6 := HH.out rfl k hlt
          obtain ⟨⟨tm, one⟩, hv⟩ : ∃ p, earD l2 f k m = p := ⟨_, rfl⟩
          rw [hv] at h6
          have HV6 := Lib.hid hv
          obtain ⟨h, hh⟩ : ∃ h, hasI L k = h := ⟨_, rfl⟩
          have h7 : h = (one && decide (tm ≤ u)) := by rw [← hh]; exact h6
          have HHI := Lib.hid hh
          clear hh hv h6
          have qr := Q9.out.carry hbel
          have rr := R9.out.carry hbel
          clear hbel
          go_wp2_with fail
          refine (NB.of (implEarliestArrival_c l2 _ _ f k m _ hl3 (qr.rd fun _ => rfl)) HV6.out).mono ?_
          rintro e w10 ⟨rfl, hb10⟩
          have rr10 := rr.carry hb10
          have HB10 := Lib.hid hb10
          have HVH := Lib.hid (vHas_c L B1 e1 k w10 hLl (rr10.rd fun _ => rfl))
          clear hb10 rr rr10 qr
          rw [HHI.out] at HVH
          go_wp2_with fail
          refine HVH.out.mono ?_
          rintro e w' ⟨rfl, rfl⟩
          rcases one with _ | _
          · subst h7
            go_wp2_with fail
            go_roundw
            case rel => exact ⟨k + 1, by omega, by go_num, HB.out.trans (HB10.out.mono z9)⟩
            case measure => simp [intOf]; omega
          · by_cases htm : tm ≤ u
            · obtain rfl : h = true := by rw [h7]; simp [htm]
              clear h7
              go_wp2_with fail
              go_roundw
              case rel => exact ⟨k + 1, by omega, by go_num, HB.out.trans (HB10.out.mono z9)⟩
              case measure => simp [intOf]; omega
            · obtain rfl : h = false := by rw [h7]; simp [htm]
              clear h7
              go_wp2_with fail
              go_roundw
              case rel => exact ⟨k + 1, by omega, by go_num, HB.out.trans (HB10.out.mono z9)⟩
              case measure => simp [intOf]; omega
      · clear hbel
        go_wp2_with fail
        go_ret
        exact ⟨rfl, HE.out⟩
namespace fnTimetables
set_option linter.unusedVariables false
theorem own : ownKnob Try.prog.godebug = none := by kernel_rfl
theorem laidOut : laidOutB Try.prog = true := by kernel_rfl
set_option maxRecDepth 100000 in
theorem lifted (os : Os) (started : os.Started) (H : Type) (enc : TypeId × Value → H) :
    ReturnsInHanded {} Try.checked os 12 .any (Rows.fnTimetablesSpec.pre6 enc Try.prog Try.f12 Rows.fnTimetablesRow.domain false) (Rows.fnTimetablesSpec.post enc Try.prog Try.f12 false true false false) := by
  refine returnsInHanded_of_change (C := Try.checked) own started (by kernel_rfl) Try.func12
    (ChangeSpec.witness6 (enc := enc) (C := Try.checked) false ⟨#[], #[.slice none 0 0], []⟩ 8 (by kernel_rfl) (by kernel_rfl) (by kernel_rfl) (by kernel_rfl)) ?_
  intro W base args ds gs before hval0 hW hcnd _
  have hval : ∀ (j : Nat) t v, Try.f12.params[j]? = some t → args[j]? = some v → Value.okWide Try.prog W .any base t v := hval0
  have hW' := hW
  obtain ⟨p, q, hA0, hV, rfl, hfz, hnd⟩ := hW
  have hA : DataW.TrodAll enc Try.prog W 0 (fun _ => true) true Try.f12.params.toList args.toList ds p := hA0
  rw [Try.params12] at hA hval
  obtain ⟨v0, vs0, d0, ds0, p0, q0, hargs, rfl, rfl, h0, r0⟩ := trodAll_cons hA
  obtain ⟨rfl, rfl, rfl⟩ := trodAll_nil r0
  obtain rfl : args = #[v0] := by cases args; simp_all
  obtain ⟨rfl, rfl⟩ := trodVars_none hV
  have k0 := h0
  have lt0 : ∀ x ∈ p0, x.block < W.heap.size := by obtain ⟨m, hm⟩ := k0; exact DataW.trod_lt m _ _ _ hm
  obtain ⟨a0, len0, cap0, rfl⟩ := okWide_slice Try.underlying45 (hval 0 45 v0 rfl rfl)
  obtain ⟨code, w0⟩ := open_byteS Try.underlying45 Try.underlying5 (by kernel_rfl) h0
  clear hA0 hval0
  refine (lawTimetables code a0 len0 cap0 W w0).mono fun e W' ⟨he, bel⟩ => ?_
  subst he
  exact ⟨_, rfl, _, _, _, [], _, [], hW', trodAll_mk1 (shut_bool Try.underlying4 _), (trodAll_cons_mk (Below.trod laidOut (by kernel_rfl) (of_decide_eq_true (by kernel_rfl)) k0 bel lt0) trodAll_mk0), rfl, bel.frame _, fun h => by cases h⟩
theorem over : Rows.fnTimetablesRow.holds Try.pinned (OpenSpec.ofChange Rows.fnTimetablesSpec) :=
  OpenClaim.holds_of_wide 12 Try.f12 rfl rfl rfl rfl rfl rfl rfl ⟨rfl, rfl, rfl, rfl, rfl⟩ rfl rfl rfl rfl rfl (by kernel_rfl) Try.func12 (by kernel_rfl)
    (of_decide_eq_true (by kernel_rfl)) (by unfold Func.isWrapper; first | (rw [if_pos (by decide +kernel)]; kernel_rfl) | (rw [if_neg (by decide +kernel)]; exact ⟨rfl, rfl⟩))
    (fun os started H enc _ => lifted os started H enc)
/-- The given statement. -/
theorem proved : Rows.FnTimetablesSaid := over
#print axioms proved
end fnTimetables
end Go.Proofs.Ytddnemmdlijgiaa
