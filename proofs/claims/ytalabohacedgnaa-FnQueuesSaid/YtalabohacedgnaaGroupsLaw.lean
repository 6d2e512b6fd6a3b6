/- FnGroups returns true for all codes: splitting loses nobody, and the least number of cabins has room for all; no conditions. -/
import Derived.Test.YtalabohacedgnaaGroupsDraw
import Derived.Test.YtalabohacedgnaaQueueWays
import Derived.Test.YtalabohacedgnaaVGroups
import Derived.Test.YtalabohacedgnaaQueueLaw
import Derived.Test.YtalabohacedgnaaPackImpl
import Derived.Deep.DeepCutAuto
namespace Go.Proofs.Ytalabohacedgnaa
open Go.RowKit Go.Joins Go.ChangeShapes Go.WideShapes Go.ChangeAt

section
variable {f : FuncId} {args : Array Value} {W : World}
theorem lp_of {p : List Int × Bool} {L : List Int} {b : Bool} (h : Calls Try.prog f args W (ListPost p W)) (hp : p = (L, b)) :
    Calls Try.prog f args W fun e w' => ∃ A cap, e = .returned (.tuple #[.slice A L.length cap, .bool b]) ∧ Own w' W.heap.size 3 1 intCells A L ∧ Below W.heap.size W w' := by subst hp; exact h
theorem gp_of {p : List Gro × Bool} {L : List Gro} {b : Bool} (h : Calls Try.prog f args W (GroPost p W)) (hp : p = (L, b)) :
    Calls Try.prog f args W fun e w' => ∃ A cap, e = .returned (.tuple #[.slice A L.length cap, .bool b]) ∧ Own w' W.heap.size 52 2 Gro.cells A L ∧ Below W.heap.size W w' := by subst hp; exact h
theorem pp_of {p : Ppl} {a q : Int} {b : Bool} (h : Calls Try.prog f args W fun e w' => e = .returned (.tuple #[.int .i64 p.a, .int .i64 p.q, .bool p.ok]) ∧ Below W.heap.size W w') (hp : p = ⟨a, q, b⟩) :
    Calls Try.prog f args W fun e w' => e = .returned (.tuple #[.int .i64 a, .int .i64 q, .bool b]) ∧ Below W.heap.size W w' := by subst hp; exact h
end
theorem people_yes {l : List Gro} (h : goodG l = true) : people l = ⟨peopleTo l l.length, quickTo l l.length, true⟩ := by rw [people, if_pos h]
theorem fit_good {l : List Gro} {s : Int} (h : fitG l s = true) : goodG l = true := by
  simp only [fitG, Bool.and_eq_true] at h; exact h.1.1
theorem split_len {l : List Gro} {s : Int} : (split l s).1.length ≤ 12 := by
  unfold split
  split
  · next h => simp only [Bool.and_eq_true, decide_eq_true_eq] at h; exact h.2
  · simp
theorem least_told {l : List Gro} {s v : Int} (h : leastP l s = (v, true)) : fitG l s = true ∧ v = leastN (zOf l) l.length s := by
  unfold leastP at h
  by_cases h1 : (fitG l s && decide (l.length ≤ 8)) = true
  · rw [if_pos h1] at h
    simp only [Bool.and_eq_true] at h1
    exact ⟨h1.1, (congrArg Prod.fst h).symm⟩
  · rw [if_neg h1] at h; simp at h
theorem cabF_len {l : List Gro} {s : Int} : (cabF l s).1.length ≤ 12 := by
  unfold cabF
  split
  · next h => exact fillL_len h
  · simp
set_option maxRecDepth 100000 in
set_option maxHeartbeats 16000000 in
theorem lawGroups (code : List Int) (A : Option Addr) (n cap : Nat) (w : World) (hin : InBytes w A n code) :
    Calls Try.prog 12 #[.slice A n cap] w fun e w' => e = .returned (.bool true) ∧ Below w.heap.size w w' := by
  have kc0 : Codes w A n := ⟨code, hin⟩
  clear hin
  by_cases hn : 65536 < (n : Int)
  · go_enter Try.func12, Try.ntmps12
    go_wp2_with fail
    refine (vBig_c _ _ _ _).mono ?_
    rintro e w' ⟨rfl, rfl⟩
    go_wp2_with fail
    go_ret
    exact ⟨rfl, Below.refl _ _⟩
  go_enter Try.func12, Try.ntmps12
  go_wp2_with fail
  refine (vBig_c _ _ _ _).mono ?_
  rintro e w' ⟨rfl, rfl⟩
  go_wp2_with fail
  refine (drawSplitGroups_c _ _ _ _ kc0).mono ?_
  rintro e w1 ⟨A1, c1, l, s, rfl, hl, o1, hb1⟩
  have hz1 := hb1.size
  try simp only [World.size_alloc] at c1
  try simp only [World.size_alloc] at l
  try simp only [World.size_alloc] at s
  try simp only [World.size_alloc] at hl
  try simp only [World.size_alloc] at o1
  have hB1 : Below w.heap.size w w1 := (by repeat (first | (with_reducible exact Below.refl _ _) | ((with_reducible refine alloc_ ?_ ?_); (focus (first | exact Nat.le_refl _ | (simp; done) | (simp; omega) | omega))) | ((with_reducible refine set_ ?_ ?_); (focus (first | exact Nat.le_refl _ | (simp; done) | (simp; omega) | omega))) | (with_reducible refine Below.drew ?_) | ((with_reducible refine after_ ?_ (by assumption) ?_); (rotate_left; (focus (first | exact Nat.le_refl _ | (simp; done) | (simp; omega) | omega))))))
  have hs1 := hB1.size
  have kc1 := kc0.carry hB1
  have hl1 : l.length ≤ 1048576 := by omega
  have hsp := split_all (l := l) (s := s)
  have hsl := split_len (l := l) (s := s)
  obtain ⟨⟨G, d⟩, hv⟩ : ∃ p, split l s = p := ⟨_, rfl⟩
  rw [hv] at hsp hsl
  have hG1 : G.length ≤ 1048576 := by simp only at hsl; omega
  have HV := Lib.hid hv
  have HSP := Lib.hid (show d = true → fitG G s = true ∧ goodG l = true ∧ peopleTo G G.length = peopleTo l l.length ∧ quickTo G G.length = quickTo l l.length ∧ split G s = (G, true) from hsp)
  obtain ⟨gd, hgd⟩ : ∃ b, goodG l = b := ⟨_, rfl⟩
  have HGD := Lib.hid hgd
  clear hv hsp hl hsl hgd
  go_wp2_with fail
  refine (gp_of (implSplitGroups_c l _ _ s _ hl1 (o1.rd fun _ => rfl)) HV.out).mono ?_
  rintro e w2 ⟨B1, e1, rfl, p2, hb2⟩
  have hz2 := hb2.size
  try simp only [World.size_alloc] at e1
  try simp only [World.size_alloc] at p2
  have hB2 : Below w1.heap.size w1 w2 := (by repeat (first | (with_reducible exact Below.refl _ _) | ((with_reducible refine alloc_ ?_ ?_); (focus (first | exact Nat.le_refl _ | (simp; done) | (simp; omega) | omega))) | ((with_reducible refine set_ ?_ ?_); (focus (first | exact Nat.le_refl _ | (simp; done) | (simp; omega) | omega))) | (with_reducible refine Below.drew ?_) | ((with_reducible refine after_ ?_ (by assumption) ?_); (rotate_left; (focus (first | exact Nat.le_refl _ | (simp; done) | (simp; omega) | omega))))))
  have hs2 := hB2.size
  have kc2 := kc1.carry hB2
  have o2 := o1.carry hB2
  go_wp2_with fail
  refine (gp_of (specSplitGroups_c l _ _ s _ hl1 (o2.rd fun _ => rfl)) HV.out).mono ?_
  rintro e w3 ⟨B2, e2, rfl, q3, hb3⟩
  have hz3 := hb3.size
  try simp only [World.size_alloc] at e2
  try simp only [World.size_alloc] at q3
  have hB3 : Below w2.heap.size w2 w3 := (by repeat (first | (with_reducible exact Below.refl _ _) | ((with_reducible refine alloc_ ?_ ?_); (focus (first | exact Nat.le_refl _ | (simp; done) | (simp; omega) | omega))) | ((with_reducible refine set_ ?_ ?_); (focus (first | exact Nat.le_refl _ | (simp; done) | (simp; omega) | omega))) | (with_reducible refine Below.drew ?_) | ((with_reducible refine after_ ?_ (by assumption) ?_); (rotate_left; (focus (first | exact Nat.le_refl _ | (simp; done) | (simp; omega) | omega))))))
  have hs3 := hB3.size
  have kc3 := kc2.carry hB3
  have o3 := o2.carry hB3
  have p3 := p2.carry hB3
  go_wp2_with fail
  refine (vGroups_same G _ _ _ _ _ hG1 (p3.rd fun _ => rfl) (q3.rd fun _ => rfl)).mono ?_
  rintro e w4 ⟨rfl, hb4⟩
  have hz4 := hb4.size
  have hB4 : Below w3.heap.size w3 w4 := (by repeat (first | (with_reducible exact Below.refl _ _) | ((with_reducible refine alloc_ ?_ ?_); (focus (first | exact Nat.le_refl _ | (simp; done) | (simp; omega) | omega))) | ((with_reducible refine set_ ?_ ?_); (focus (first | exact Nat.le_refl _ | (simp; done) | (simp; omega) | omega))) | (with_reducible refine Below.drew ?_) | ((with_reducible refine after_ ?_ (by assumption) ?_); (rotate_left; (focus (first | exact Nat.le_refl _ | (simp; done) | (simp; omega) | omega))))))
  have hs4 := hB4.size
  have kc4 := kc3.carry hB4
  have o4 := o3.carry hB4
  have p4 := p3.carry hB4
  have q4 := q3.carry hB4
  go_wp2_with fail
  refine (b_of (IsQueue_c l _ _ _ hl1 (o4.rd fun _ => rfl)) HGD.out).mono ?_
  rintro e w5 ⟨rfl, hb5⟩
  have hz5 := hb5.size
  have hB5 : Below w4.heap.size w4 w5 := (by repeat (first | (with_reducible exact Below.refl _ _) | ((with_reducible refine alloc_ ?_ ?_); (focus (first | exact Nat.le_refl _ | (simp; done) | (simp; omega) | omega))) | ((with_reducible refine set_ ?_ ?_); (focus (first | exact Nat.le_refl _ | (simp; done) | (simp; omega) | omega))) | (with_reducible refine Below.drew ?_) | ((with_reducible refine after_ ?_ (by assumption) ?_); (rotate_left; (focus (first | exact Nat.le_refl _ | (simp; done) | (simp; omega) | omega))))))
  have hs5 := hB5.size
  have kc5 := kc4.carry hB5
  have o5 := o4.carry hB5
  have p5 := p4.carry hB5
  have q5 := q4.carry hB5
  go_wp2_with fail
  refine (b_of (specIsQueue_c l _ _ _ hl1 (o5.rd fun _ => rfl)) HGD.out).mono ?_
  rintro e w6 ⟨rfl, hb6⟩
  have hz6 := hb6.size
  have hB6 : Below w5.heap.size w5 w6 := (by repeat (first | (with_reducible exact Below.refl _ _) | ((with_reducible refine alloc_ ?_ ?_); (focus (first | exact Nat.le_refl _ | (simp; done) | (simp; omega) | omega))) | ((with_reducible refine set_ ?_ ?_); (focus (first | exact Nat.le_refl _ | (simp; done) | (simp; omega) | omega))) | (with_reducible refine Below.drew ?_) | ((with_reducible refine after_ ?_ (by assumption) ?_); (rotate_left; (focus (first | exact Nat.le_refl _ | (simp; done) | (simp; omega) | omega))))))
  have hs6 := hB6.size
  have kc6 := kc5.carry hB6
  have o6 := o5.carry hB6
  have p6 := p5.carry hB6
  have q6 := q5.carry hB6
  go_upto_if 76 with fail
  go_cut [2] (fun s wx => s = .bool false ∧ Codes wx A n ∧ Below w.heap.size w wx)
  case first => as_aux_lemma =>
    have HB := Lib.hid (show Below w.heap.size w w6 from (by repeat (first | (with_reducible exact Below.refl _ _) | ((with_reducible refine alloc_ ?_ ?_); (focus (first | exact Nat.le_refl _ | (simp; done) | (simp; omega) | omega))) | ((with_reducible refine set_ ?_ ?_); (focus (first | exact Nat.le_refl _ | (simp; done) | (simp; omega) | omega))) | (with_reducible refine Below.drew ?_) | ((with_reducible refine after_ ?_ (by assumption) ?_); (rotate_left; (focus (first | exact Nat.le_refl _ | (simp; done) | (simp; omega) | omega)))))))
    clear hB1 hB2 hB3 hB4 hB5 hB6 q3 q4 q5 q6
    rcases d with _ | _
    · go_wp2_with fail
      go_meet
      exact ⟨rfl, kc6, HB.out⟩
    · obtain ⟨s1, s2, s3, s4, s5⟩ := HSP.out rfl
      have H1 := Lib.hid (people_yes s2)
      have H2 := Lib.hid ((people_yes (fit_good s1)).trans (by rw [s3, s4] : (⟨peopleTo G G.length, quickTo G G.length, true⟩ : Ppl) = ⟨peopleTo l l.length, quickTo l l.length, true⟩))
      have H3 := Lib.hid s5
      have H4 := Lib.hid (show needF G s = ((cabs G s).2, true) by rw [needF, if_pos s1])
      clear s1 s2 s3 s4 s5
      obtain ⟨pa, hpa⟩ : ∃ pa, peopleTo l l.length = pa := ⟨_, rfl⟩
      obtain ⟨pq, hpq⟩ : ∃ pq, quickTo l l.length = pq := ⟨_, rfl⟩
      rw [hpa, hpq] at H1 H2
      go_wp2_with fail
      refine (pp_of (implPeopleIn_c l _ _ _ hl1 (o6.rd fun _ => rfl)) H1.out).mono ?_
      rintro e w7 ⟨rfl, hb7⟩
      have p7 := p6.carry hb7
      go_wp2_with fail
      refine (pp_of (implPeopleIn_c G _ _ _ hG1 (p7.rd fun _ => rfl)) H2.out).mono ?_
      rintro e w8 ⟨rfl, hb8⟩
      have p8 := p7.carry hb8
      go_wp2_with fail
      refine (gp_of (implSplitGroups_c G _ _ s _ hG1 (p8.rd fun _ => rfl)) H3.out).mono ?_
      rintro e w9 ⟨B3, e3, rfl, r9, hb9⟩
      have p9 := p8.carry hb9
      go_wp2_with fail
      refine (nb_of (implCabinsNeeded_c G _ _ s _ hG1 (p9.rd fun _ => rfl)) H4.out).mono ?_
      rintro e wa ⟨rfl, hba⟩
      have pa' := p9.carry hba
      have ra := r9.carry hba
      go_wp2_with fail
      refine (vGroups_same G _ _ _ _ _ hG1 (ra.rd fun _ => rfl) (pa'.rd fun _ => rfl)).mono ?_
      rintro e wb ⟨rfl, hbb⟩
      have kcb := ((((kc6.carry hb7).carry hb8).carry hb9).carry hba).carry hbb
      have z1 := HB.out.size
      have z2 := hb7.size
      have z3 := hb8.size
      have z4 := hb9.size
      have z5 := hba.size
      have HBb := Lib.hid (((((HB.out.trans (hb7.mono z1)).trans (hb8.mono (by omega))).trans (hb9.mono (by omega))).trans (hba.mono (by omega))).trans (hbb.mono (by omega)))
      clear z1 z2 z3 z4 z5 hb7 hb8 hb9 hba hbb p7 p8 p9 r9 pa' ra
      go_wp2_with fail
      go_meet
      exact ⟨rfl, kcb, HBb.out⟩
  case rest => as_aux_lemma =>
    obtain ⟨rfl, kc0, hbc⟩ := hcut
    have HBC := Lib.hid hbc
    clear hbc
    obtain ⟨w0, hw0⟩ : ∃ w0, w0 = wc := ⟨_, rfl⟩
    subst hw0
    clear hb1 hb2 hb3 hb4 hb5 hb6 hB1 hB2 hB3 hB4 hB5 hB6 o1 o2 o3 o4 o5 o6 p2 p3 p4 p5 p6 q3 q4 q5 q6 HSP HV HGD kc1 kc2 kc3 kc4 kc5 kc6
    go_wp2_with fail
    refine (drawLeastCabins_c _ _ _ _ kc0).mono ?_
    rintro e w1 ⟨A1, c1, l, s, rfl, hl, o1, hb1⟩
    have hz1 := hb1.size
    try simp only [World.size_alloc] at c1
    try simp only [World.size_alloc] at l
    try simp only [World.size_alloc] at s
    try simp only [World.size_alloc] at hl
    try simp only [World.size_alloc] at o1
    have hB1 : Below w0.heap.size w0 w1 := (by repeat (first | (with_reducible exact Below.refl _ _) | ((with_reducible refine alloc_ ?_ ?_); (focus (first | exact Nat.le_refl _ | (simp; done) | (simp; omega) | omega))) | ((with_reducible refine set_ ?_ ?_); (focus (first | exact Nat.le_refl _ | (simp; done) | (simp; omega) | omega))) | (with_reducible refine Below.drew ?_) | ((with_reducible refine after_ ?_ (by assumption) ?_); (rotate_left; (focus (first | exact Nat.le_refl _ | (simp; done) | (simp; omega) | omega))))))
    have hs1 := hB1.size
    have kc1 := kc0.carry hB1
    have hl1 : l.length ≤ 1048576 := by omega
    obtain ⟨⟨v, b⟩, hv⟩ : ∃ p, leastP l s = p := ⟨_, rfl⟩
    have HV := Lib.hid hv
    clear hv hl
    go_wp2_with fail
    refine (nb_of (implLeastCabins_c l _ _ s _ hl1 (o1.rd fun _ => rfl)) HV.out).mono ?_
    rintro e w2 ⟨rfl, hb2⟩
    have hz2 := hb2.size
    have hB2 : Below w1.heap.size w1 w2 := (by repeat (first | (with_reducible exact Below.refl _ _) | ((with_reducible refine alloc_ ?_ ?_); (focus (first | exact Nat.le_refl _ | (simp; done) | (simp; omega) | omega))) | ((with_reducible refine set_ ?_ ?_); (focus (first | exact Nat.le_refl _ | (simp; done) | (simp; omega) | omega))) | (with_reducible refine Below.drew ?_) | ((with_reducible refine after_ ?_ (by assumption) ?_); (rotate_left; (focus (first | exact Nat.le_refl _ | (simp; done) | (simp; omega) | omega))))))
    have hs2 := hB2.size
    have kc2 := kc1.carry hB2
    have o2 := o1.carry hB2
    go_wp2_with fail
    refine (nb_of (specLeastCabins_c l _ _ s _ hl1 (o2.rd fun _ => rfl)) HV.out).mono ?_
    rintro e w3 ⟨rfl, hb3⟩
    have hz3 := hb3.size
    have hB3 : Below w2.heap.size w2 w3 := (by repeat (first | (with_reducible exact Below.refl _ _) | ((with_reducible refine alloc_ ?_ ?_); (focus (first | exact Nat.le_refl _ | (simp; done) | (simp; omega) | omega))) | ((with_reducible refine set_ ?_ ?_); (focus (first | exact Nat.le_refl _ | (simp; done) | (simp; omega) | omega))) | (with_reducible refine Below.drew ?_) | ((with_reducible refine after_ ?_ (by assumption) ?_); (rotate_left; (focus (first | exact Nat.le_refl _ | (simp; done) | (simp; omega) | omega))))))
    have hs3 := hB3.size
    have kc3 := kc2.carry hB3
    have o3 := o2.carry hB3
    go_upto_if 156 with fail
    go_cut [2] (fun s wx => s = .bool false ∧ Codes wx A n ∧ Below w0.heap.size w0 wx)
    case first => as_aux_lemma =>
      have HB := Lib.hid (show Below w0.heap.size w0 w3 from (by repeat (first | (with_reducible exact Below.refl _ _) | ((with_reducible refine alloc_ ?_ ?_); (focus (first | exact Nat.le_refl _ | (simp; done) | (simp; omega) | omega))) | ((with_reducible refine set_ ?_ ?_); (focus (first | exact Nat.le_refl _ | (simp; done) | (simp; omega) | omega))) | (with_reducible refine Below.drew ?_) | ((with_reducible refine after_ ?_ (by assumption) ?_); (rotate_left; (focus (first | exact Nat.le_refl _ | (simp; done) | (simp; omega) | omega)))))))
      rcases b with _ | _
      · go_wp2_with fail
        go_meet
        exact ⟨rfl, kc3, HB.out⟩
      · obtain ⟨f1, f2⟩ := least_told HV.out
        obtain ⟨r1, r2⟩ := least_room f1
        obtain ⟨_, ⟨s1, s2⟩, _⟩ := fitG_true f1
        have hbd := (fit_of f1).bd
        have H1 := Lib.hid (people_yes (fit_good f1))
        obtain ⟨pa, hpa⟩ : ∃ pa, peopleTo l l.length = pa := ⟨_, rfl⟩
        obtain ⟨pq, hpq⟩ : ∃ pq, quickTo l l.length = pq := ⟨_, rfl⟩
        rw [hpa, hpq] at H1
        rw [← f2, hpa] at r1
        rw [← f2] at r2
        have v0 : 0 ≤ v := by omega
        have v1 : v ≤ 13 := by omega
        have m0 : 0 ≤ v * s := Int.mul_nonneg v0 (by omega)
        have m1 : v * s ≤ 13 * 10 := Int.mul_le_mul v1 s2 (by omega) (by omega)
        obtain ⟨vs, hvs⟩ : ∃ vs, v * s = vs := ⟨_, rfl⟩
        rw [hvs] at m0 m1 r1
        have hw : IntKind.i64.wrap vs = vs := IntWalk.i64_in _ (by omega)
        have HW := Lib.hid hw
        have HVS := Lib.hid hvs
        have R1 := Lib.hid r1
        clear hbd hpa hpq f1 f2 r1 r2 hw hvs
        go_wp2_with fail
        refine (pp_of (implPeopleIn_c l _ _ _ hl1 (o3.rd fun _ => rfl)) H1.out).mono ?_
        rintro e w4 ⟨rfl, hb4⟩
        have kc4 := kc3.carry hb4
        have HB4 := Lib.hid (HB.out.trans (hb4.mono HB.out.size))
        have hvs := HVS.out
        have r1 := R1.out
        have hvs2 : IntKind.i64.wrap (v * s) = vs := by rw [hvs]; exact HW.out
        clear hb4
        go_wp2_with fail
        go_meet
        exact ⟨rfl, kc4, HB4.out⟩
    case rest => as_aux_lemma =>
      obtain ⟨rfl, kd0, hbd⟩ := hcut
      have HBD := Lib.hid (HBC.out.trans (hbd.mono HBC.out.size))
      clear hbd HBC HV kc0 kc1 kc2 kc3 hb1 hb2 hb3 hB1 hB2 hB3 o1 o2 o3
      obtain ⟨w0, hw0⟩ : ∃ w0, w0 = wc := ⟨_, rfl⟩
      subst hw0
      go_wp2_with fail
      refine (drawFillCabin_c _ _ _ _ kd0).mono ?_
      rintro e w1 ⟨A1, c1, l, s, rfl, hl, o1, hb1⟩
      have hz1 := hb1.size
      try simp only [World.size_alloc] at c1
      try simp only [World.size_alloc] at l
      try simp only [World.size_alloc] at s
      try simp only [World.size_alloc] at hl
      try simp only [World.size_alloc] at o1
      have hB1 : Below w0.heap.size w0 w1 := (by repeat (first | (with_reducible exact Below.refl _ _) | ((with_reducible refine alloc_ ?_ ?_); (focus (first | exact Nat.le_refl _ | (simp; done) | (simp; omega) | omega))) | ((with_reducible refine set_ ?_ ?_); (focus (first | exact Nat.le_refl _ | (simp; done) | (simp; omega) | omega))) | (with_reducible refine Below.drew ?_) | ((with_reducible refine after_ ?_ (by assumption) ?_); (rotate_left; (focus (first | exact Nat.le_refl _ | (simp; done) | (simp; omega) | omega))))))
      have hs1 := hB1.size
      have kd1 := kd0.carry hB1
      have hl1 : l.length ≤ 1048576 := by omega
      have hcl := cabF_len (l := l) (s := s)
      obtain ⟨⟨L, b⟩, hv⟩ : ∃ p, cabF l s = p := ⟨_, rfl⟩
      rw [hv] at hcl
      have hL1 : L.length ≤ 1048576 := by simp only at hcl; omega
      have HV := Lib.hid hv
      clear hv hl hcl
      go_wp2_with fail
      refine (lp_of (implFillCabin_c l _ _ s _ hl1 (o1.rd fun _ => rfl)) HV.out).mono ?_
      rintro e w2 ⟨B1, e1, rfl, p2, hb2⟩
      have hz2 := hb2.size
      try simp only [World.size_alloc] at e1
      try simp only [World.size_alloc] at p2
      have hB2 : Below w1.heap.size w1 w2 := (by repeat (first | (with_reducible exact Below.refl _ _) | ((with_reducible refine alloc_ ?_ ?_); (focus (first | exact Nat.le_refl _ | (simp; done) | (simp; omega) | omega))) | ((with_reducible refine set_ ?_ ?_); (focus (first | exact Nat.le_refl _ | (simp; done) | (simp; omega) | omega))) | (with_reducible refine Below.drew ?_) | ((with_reducible refine after_ ?_ (by assumption) ?_); (rotate_left; (focus (first | exact Nat.le_refl _ | (simp; done) | (simp; omega) | omega))))))
      have hs2 := hB2.size
      have kd2 := kd1.carry hB2
      have o2 := o1.carry hB2
      go_wp2_with fail
      refine (lp_of (specFillCabin_c l _ _ s _ hl1 (o2.rd fun _ => rfl)) HV.out).mono ?_
      rintro e w3 ⟨B2, e2, rfl, q3, hb3⟩
      have hz3 := hb3.size
      try simp only [World.size_alloc] at e2
      try simp only [World.size_alloc] at q3
      have hB3 : Below w2.heap.size w2 w3 := (by repeat (first | (with_reducible exact Below.refl _ _) | ((with_reducible refine alloc_ ?_ ?_); (focus (first | exact Nat.le_refl _ | (simp; done) | (simp; omega) | omega))) | ((with_reducible refine set_ ?_ ?_); (focus (first | exact Nat.le_refl _ | (simp; done) | (simp; omega) | omega))) | (with_reducible refine Below.drew ?_) | ((with_reducible refine after_ ?_ (by assumption) ?_); (rotate_left; (focus (first | exact Nat.le_refl _ | (simp; done) | (simp; omega) | omega))))))
      have hs3 := hB3.size
      have kd3 := kd2.carry hB3
      have o3 := o2.carry hB3
      have p3 := p2.carry hB3
      go_wp2_with fail
      refine (vInts_same L _ _ _ _ _ hL1 (p3.rd fun _ => rfl) (q3.rd fun _ => rfl)).mono ?_
      rintro e w4 ⟨rfl, hb4⟩
      have hz4 := hb4.size
      have hB4 : Below w3.heap.size w3 w4 := (by repeat (first | (with_reducible exact Below.refl _ _) | ((with_reducible refine alloc_ ?_ ?_); (focus (first | exact Nat.le_refl _ | (simp; done) | (simp; omega) | omega))) | ((with_reducible refine set_ ?_ ?_); (focus (first | exact Nat.le_refl _ | (simp; done) | (simp; omega) | omega))) | (with_reducible refine Below.drew ?_) | ((with_reducible refine after_ ?_ (by assumption) ?_); (rotate_left; (focus (first | exact Nat.le_refl _ | (simp; done) | (simp; omega) | omega))))))
      have hs4 := hB4.size
      have kd4 := kd3.carry hB4
      have o4 := o3.carry hB4
      have p4 := p3.carry hB4
      have q4 := q3.carry hB4
      go_wp2_with fail
      refine (drawPeopleIn_c _ _ _ _ kd4).mono ?_
      rintro e w5 ⟨A2, c2, l2, rfl, hl2, r5, hb5⟩
      have hz5 := hb5.size
      try simp only [World.size_alloc] at c2
      try simp only [World.size_alloc] at l2
      try simp only [World.size_alloc] at hl2
      try simp only [World.size_alloc] at r5
      have hB5 : Below w4.heap.size w4 w5 := (by repeat (first | (with_reducible exact Below.refl _ _) | ((with_reducible refine alloc_ ?_ ?_); (focus (first | exact Nat.le_refl _ | (simp; done) | (simp; omega) | omega))) | ((with_reducible refine set_ ?_ ?_); (focus (first | exact Nat.le_refl _ | (simp; done) | (simp; omega) | omega))) | (with_reducible refine Below.drew ?_) | ((with_reducible refine after_ ?_ (by assumption) ?_); (rotate_left; (focus (first | exact Nat.le_refl _ | (simp; done) | (simp; omega) | omega))))))
      have hs5 := hB5.size
      have kd5 := kd4.carry hB5
      have o5 := o4.carry hB5
      have p5 := p4.carry hB5
      have q5 := q4.carry hB5
      have hl3 : l2.length ≤ 1048576 := by omega
      obtain ⟨⟨a, q, b2⟩, hv2⟩ : ∃ p, people l2 = p := ⟨_, rfl⟩
      have HV2 := Lib.hid hv2
      clear hv2 hl2
      go_wp2_with fail
      refine (pp_of (implPeopleIn_c l2 _ _ _ hl3 (r5.rd fun _ => rfl)) HV2.out).mono ?_
      rintro e w6 ⟨rfl, hb6⟩
      have hz6 := hb6.size
      have hB6 : Below w5.heap.size w5 w6 := (by repeat (first | (with_reducible exact Below.refl _ _) | ((with_reducible refine alloc_ ?_ ?_); (focus (first | exact Nat.le_refl _ | (simp; done) | (simp; omega) | omega))) | ((with_reducible refine set_ ?_ ?_); (focus (first | exact Nat.le_refl _ | (simp; done) | (simp; omega) | omega))) | (with_reducible refine Below.drew ?_) | ((with_reducible refine after_ ?_ (by assumption) ?_); (rotate_left; (focus (first | exact Nat.le_refl _ | (simp; done) | (simp; omega) | omega))))))
      have hs6 := hB6.size
      have kd6 := kd5.carry hB6
      have o6 := o5.carry hB6
      have p6 := p5.carry hB6
      have q6 := q5.carry hB6
      have r6 := r5.carry hB6
      go_wp2_with fail
      refine (pp_of (specPeopleIn_c l2 _ _ _ hl3 (r6.rd fun _ => rfl)) HV2.out).mono ?_
      rintro e w7 ⟨rfl, hb7⟩
      have hz7 := hb7.size
      have hB7 : Below w6.heap.size w6 w7 := (by repeat (first | (with_reducible exact Below.refl _ _) | ((with_reducible refine alloc_ ?_ ?_); (focus (first | exact Nat.le_refl _ | (simp; done) | (simp; omega) | omega))) | ((with_reducible refine set_ ?_ ?_); (focus (first | exact Nat.le_refl _ | (simp; done) | (simp; omega) | omega))) | (with_reducible refine Below.drew ?_) | ((with_reducible refine after_ ?_ (by assumption) ?_); (rotate_left; (focus (first | exact Nat.le_refl _ | (simp; done) | (simp; omega) | omega))))))
      have hs7 := hB7.size
      have kd7 := kd6.carry hB7
      have o7 := o6.carry hB7
      have p7 := p6.carry hB7
      have q7 := q6.carry hB7
      have r7 := r6.carry hB7
      have HE := Lib.hid (HBD.out.trans (Below.mono (B := w0.heap.size) (show Below w0.heap.size w0 w7 from (by repeat (first | (with_reducible exact Below.refl _ _) | ((with_reducible refine alloc_ ?_ ?_); (focus (first | exact Nat.le_refl _ | (simp; done) | (simp; omega) | omega))) | ((with_reducible refine set_ ?_ ?_); (focus (first | exact Nat.le_refl _ | (simp; done) | (simp; omega) | omega))) | (with_reducible refine Below.drew ?_) | ((with_reducible refine after_ ?_ (by assumption) ?_); (rotate_left; (focus (first | exact Nat.le_refl _ | (simp; done) | (simp; omega) | omega))))))) HBD.out.size))
      rcases b2 with _ | _
      all_goals
        go_wp2_with fail
        go_ret
        exact ⟨rfl, HE.out⟩
namespace fnGroups
set_option linter.unusedVariables false
theorem own : ownKnob Try.prog.godebug = none := by kernel_rfl
theorem laidOut : laidOutB Try.prog = true := by kernel_rfl
set_option maxRecDepth 100000 in
theorem lifted (os : Os) (started : os.Started) (H : Type) (enc : TypeId × Value → H) :
    ReturnsInHanded {} Try.checked os 12 .any (Rows.fnGroupsSpec.pre6 enc Try.prog Try.f12 Rows.fnGroupsRow.domain false) (Rows.fnGroupsSpec.post enc Try.prog Try.f12 false true false false) := by
  refine returnsInHanded_of_change (C := Try.checked) own started (by kernel_rfl) Try.func12
    (ChangeSpec.witness6 (enc := enc) (C := Try.checked) false ⟨#[], #[.slice none 0 0], []⟩ 8 (by kernel_rfl) (by kernel_rfl) (by kernel_rfl) (by kernel_rfl)) ?_
  intro W base args ds gs before hval0 hW hcnd _
  have hval : ∀ (j : Nat) t v, Try.f12.params[j]? = some t → args[j]? = some v → Value.okWide Try.prog W .any base t v := hval0
  have hW' := hW
  obtain ⟨p, q, hA0, hV, rfl, hfz, hnd⟩ := hW
  have hA : DataW.TrodAll enc Try.prog W 0 (fun _ => true) true Try.f12.params.toList args.toList ds p := hA0
  rw [Try.params12] at hA hval
  obtain ⟨v0, vs0, d0, ds0, p0, q0, hargs, rfl, rfl, h0, r0⟩ := trodAll_cons hA
  obtain ⟨rfl, rfl, rfl⟩ := trodAll_nil r0
  obtain rfl : args = #[v0] := by cases args; simp_all
  obtain ⟨rfl, rfl⟩ := trodVars_none hV
  have k0 := h0
  have lt0 : ∀ x ∈ p0, x.block < W.heap.size := by obtain ⟨m, hm⟩ := k0; exact DataW.trod_lt m _ _ _ hm
  obtain ⟨a0, len0, cap0, rfl⟩ := okWide_slice Try.underlying46 (hval 0 46 v0 rfl rfl)
  obtain ⟨code, w0⟩ := open_byteS Try.underlying46 Try.underlying5 (by kernel_rfl) h0
  clear hA0 hval0
  refine (lawGroups code a0 len0 cap0 W w0).mono fun e W' ⟨he, bel⟩ => ?_
  subst he
  exact ⟨_, rfl, _, _, _, [], _, [], hW', trodAll_mk1 (shut_bool Try.underlying4 _), (trodAll_cons_mk (Below.trod laidOut (by kernel_rfl) (of_decide_eq_true (by kernel_rfl)) k0 bel lt0) trodAll_mk0), rfl, bel.frame _, fun h => by cases h⟩
theorem over : Rows.fnGroupsRow.holds Try.pinned (OpenSpec.ofChange Rows.fnGroupsSpec) :=
  OpenClaim.holds_of_wide 12 Try.f12 rfl rfl rfl rfl rfl rfl rfl ⟨rfl, rfl, rfl, rfl, rfl⟩ rfl rfl rfl rfl rfl (by kernel_rfl) Try.func12 (by kernel_rfl)
    (of_decide_eq_true (by kernel_rfl)) (by unfold Func.isWrapper; first | (rw [if_pos (by decide +kernel)]; kernel_rfl) | (rw [if_neg (by decide +kernel)]; exact ⟨rfl, rfl⟩))
    (fun os started H enc _ => lifted os started H enc)
/-- The given statement. -/
theorem proved : Rows.FnGroupsSaid := over
#print axioms proved
end fnGroups
end Go.Proofs.Ytalabohacedgnaa
