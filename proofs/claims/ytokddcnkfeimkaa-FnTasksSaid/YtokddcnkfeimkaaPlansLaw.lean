/- FnTasks returns true for all codes: if tasks can be planned by due there is a plan, and no plan ends before the earliest end; no conditions. -/
import Derived.Test.YtokddcnkfeimkaaPlanDraw
import Derived.Test.YtokddcnkfeimkaaPairs
import Derived.Test.YtokddcnkfeimkaaPlanLaw
import Derived.Test.YtokddcnkfeimkaaBusy
import Derived.Deep.DeepCutAuto
namespace Go.Proofs.Ytokddcnkfeimkaa
open Go.RowKit Go.Joins Go.ChangeShapes Go.WideShapes Go.ChangeAt

theorem lp_of {f : FuncId} {args : Array Value} {W : World} {p : List Int × Bool} {L : List Int} {b : Bool} (h : Calls Try.prog f args W (ListPost p W)) (hp : p = (L, b)) :
    Calls Try.prog f args W fun e w' => ∃ A cap, e = .returned (.tuple #[.slice A L.length cap, .bool b]) ∧ Own w' W.heap.size 3 1 intCells A L ∧ Below W.heap.size W w' := by subst hp; exact h
theorem isPlan_yes {l : List Tsk} {p : List Int} (h : (isPlan l p).1 = true) : goodK l = true ∧ planB l p = true := by
  unfold isPlan at h
  by_cases h1 : goodK l = true
  · rw [if_pos h1] at h; exact ⟨h1, h⟩
  · rw [if_neg h1] at h; cases h
theorem isPlan_mk {l : List Tsk} {p : List Int} (h : goodK l = true) (h2 : planB l p = true) : isPlan l p = (true, true) := by rw [isPlan, if_pos h, h2]
theorem lateTo_bd {l : List Tsk} {p : List Int} (hg : ∀ i, i < l.length → okK (nth l i) = true) (h : planB l p = true) : ∀ k, k ≤ l.length → 0 ≤ lateTo l p k ∧ lateTo l p k ≤ 400
  | 0, _ => by simp [lateTo]
  | k + 1, hk => by
    have ih := lateTo_bd hg h k (by omega)
    obtain ⟨_, ⟨d1, d2⟩, ⟨f1, _⟩, ⟨u1, u2⟩⟩ := okK_true.1 (hg k (by omega))
    obtain ⟨q1, q2⟩ := (planB_in h).2 k (by omega)
    unfold lastS at q2
    rw [lateTo]; split <;> omega
set_option maxRecDepth 100000 in
set_option maxHeartbeats 16000000 in
theorem lawPlans (code : List Int) (A : Option Addr) (n cap : Nat) (w : World) (hin : InBytes w A n code) :
    Calls Try.prog 12 #[.slice A n cap] w fun e w' => e = .returned (.bool true) ∧ Below w.heap.size w w' := by
  have kc0 : Codes w A n := ⟨code, hin⟩
  clear hin
  by_cases hn : 65536 < (n : Int)
  · go_enter Try.func12, Try.ntmps12
    go_wp2_with fail
    refine (vBig_c _ _ _ _).mono ?_
    rintro e w' ⟨rfl, rfl⟩
    go_wp2_with fail
    go_ret
    exact ⟨rfl, Below.refl _ _⟩
  go_enter Try.func12, Try.ntmps12
  go_wp2_with fail
  refine (vBig_c _ _ _ _).mono ?_
  rintro e w' ⟨rfl, rfl⟩
  go_wp2_with fail
  refine (drawPlanByDue_c _ _ _ _ kc0).mono ?_
  rintro e w1 ⟨g1, c1, l, rfl, hc1, hl, o1, hb1⟩
  have hz1 := hb1.size
  try simp only [World.size_alloc] at g1
  try simp only [World.size_alloc] at c1
  try simp only [World.size_alloc] at l
  try simp only [World.size_alloc] at hc1
  try simp only [World.size_alloc] at hl
  try simp only [World.size_alloc] at o1
  have hB1 : Below w.heap.size w w1 := (by repeat (first | (with_reducible exact Below.refl _ _) | ((with_reducible refine alloc_ ?_ ?_); (focus (first | exact Nat.le_refl _ | (simp; done) | (simp; omega) | omega))) | ((with_reducible refine set_ ?_ ?_); (focus (first | exact Nat.le_refl _ | (simp; done) | (simp; omega) | omega))) | (with_reducible refine Below.drew ?_) | ((with_reducible refine after_ ?_ (by assumption) ?_); (rotate_left; (focus (first | exact Nat.le_refl _ | (simp; done) | (simp; omega) | omega))))))
  have hs1 := hB1.size
  have kc1 := kc0.carry hB1
  have hl1 : l.length ≤ 1048576 := by omega
  have hdl := dueP_len (l := l)
  have hdp := due_plan (l := l)
  have het := endP_told (l := l)
  have hho := fun p (h : goodK l = true) (h2 : planB l p = true) => hasP_of (l := l) (p := p) h h2
  have hel := fun p (h : goodK l = true) (h2 : planB l p = true) => endP_le (l := l) (p := p) h h2
  obtain ⟨⟨P, ok⟩, hv⟩ : ∃ p, dueP l = p := ⟨_, rfl⟩
  obtain ⟨⟨hb, ht⟩, hu⟩ : ∃ p, hasP l = p := ⟨_, rfl⟩
  obtain ⟨⟨en, ef⟩, he⟩ : ∃ p, endP l = p := ⟨_, rfl⟩
  rw [hv] at hdl hdp
  rw [hu] at het hho
  rw [he] at het hel
  obtain rfl : ef = hb := het
  have hP1 : P.length ≤ 1048576 := by simp only at hdl; omega
  have HV := Lib.hid hv
  have HU := Lib.hid hu
  have HE := Lib.hid he
  have HDP := Lib.hid (show ok = true → goodK l = true ∧ planB l P = true ∧ P.length = l.length from hdp)
  have HOK := Lib.hid (show ok = true → ef = true from fun h => congrArg Prod.fst (hho P (hdp h).1 (hdp h).2.1))
  have HEL := Lib.hid (show ok = true → en ≤ lateTo l P l.length from fun h => hel P (hdp h).1 (hdp h).2.1)
  obtain ⟨gd, hgd⟩ : ∃ b, goodK l = b := ⟨_, rfl⟩
  have HGD := Lib.hid hgd
  clear hv hu he hdl hdp hho hel hl hgd
  go_wp2_with fail
  refine (lp_of (implPlanByDue_c l _ _ _ hl1 (o1.rd fun _ => rfl)) HV.out).mono ?_
  rintro e w2 ⟨B1, e1, rfl, p2, hb2⟩
  have hz2 := hb2.size
  try simp only [World.size_alloc] at e1
  try simp only [World.size_alloc] at p2
  have hB2 : Below w1.heap.size w1 w2 := (by repeat (first | (with_reducible exact Below.refl _ _) | ((with_reducible refine alloc_ ?_ ?_); (focus (first | exact Nat.le_refl _ | (simp; done) | (simp; omega) | omega))) | ((with_reducible refine set_ ?_ ?_); (focus (first | exact Nat.le_refl _ | (simp; done) | (simp; omega) | omega))) | (with_reducible refine Below.drew ?_) | ((with_reducible refine after_ ?_ (by assumption) ?_); (rotate_left; (focus (first | exact Nat.le_refl _ | (simp; done) | (simp; omega) | omega))))))
  have hs2 := hB2.size
  have kc2 := kc1.carry hB2
  have o2 := o1.carry hB2
  go_wp2_with fail
  refine (lp_of (specPlanByDue_c l _ _ _ hl1 (o2.rd fun _ => rfl)) HV.out).mono ?_
  rintro e w3 ⟨B2, e2, rfl, q3, hb3⟩
  have hz3 := hb3.size
  try simp only [World.size_alloc] at e2
  try simp only [World.size_alloc] at q3
  have hB3 : Below w2.heap.size w2 w3 := (by repeat (first | (with_reducible exact Below.refl _ _) | ((with_reducible refine alloc_ ?_ ?_); (focus (first | exact Nat.le_refl _ | (simp; done) | (simp; omega) | omega))) | ((with_reducible refine set_ ?_ ?_); (focus (first | exact Nat.le_refl _ | (simp; done) | (simp; omega) | omega))) | (with_reducible refine Below.drew ?_) | ((with_reducible refine after_ ?_ (by assumption) ?_); (rotate_left; (focus (first | exact Nat.le_refl _ | (simp; done) | (simp; omega) | omega))))))
  have hs3 := hB3.size
  have kc3 := kc2.carry hB3
  have o3 := o2.carry hB3
  have p3 := p2.carry hB3
  go_wp2_with fail
  refine (vInts_same P _ _ _ _ _ hP1 (p3.rd fun _ => rfl) (q3.rd fun _ => rfl)).mono ?_
  rintro e w4 ⟨rfl, hb4⟩
  have hz4 := hb4.size
  have hB4 : Below w3.heap.size w3 w4 := (by repeat (first | (with_reducible exact Below.refl _ _) | ((with_reducible refine alloc_ ?_ ?_); (focus (first | exact Nat.le_refl _ | (simp; done) | (simp; omega) | omega))) | ((with_reducible refine set_ ?_ ?_); (focus (first | exact Nat.le_refl _ | (simp; done) | (simp; omega) | omega))) | (with_reducible refine Below.drew ?_) | ((with_reducible refine after_ ?_ (by assumption) ?_); (rotate_left; (focus (first | exact Nat.le_refl _ | (simp; done) | (simp; omega) | omega))))))
  have hs4 := hB4.size
  have kc4 := kc3.carry hB4
  have o4 := o3.carry hB4
  have p4 := p3.carry hB4
  have q4 := q3.carry hB4
  go_wp2_with fail
  refine (b_of (AreTasks_c l _ _ _ hl1 (o4.rd fun _ => rfl)) HGD.out).mono ?_
  rintro e w5 ⟨rfl, hb5⟩
  have hz5 := hb5.size
  have hB5 : Below w4.heap.size w4 w5 := (by repeat (first | (with_reducible exact Below.refl _ _) | ((with_reducible refine alloc_ ?_ ?_); (focus (first | exact Nat.le_refl _ | (simp; done) | (simp; omega) | omega))) | ((with_reducible refine set_ ?_ ?_); (focus (first | exact Nat.le_refl _ | (simp; done) | (simp; omega) | omega))) | (with_reducible refine Below.drew ?_) | ((with_reducible refine after_ ?_ (by assumption) ?_); (rotate_left; (focus (first | exact Nat.le_refl _ | (simp; done) | (simp; omega) | omega))))))
  have hs5 := hB5.size
  have kc5 := kc4.carry hB5
  have o5 := o4.carry hB5
  have p5 := p4.carry hB5
  have q5 := q4.carry hB5
  go_wp2_with fail
  refine (b_of (specAreTasks_c l _ _ _ hl1 (o5.rd fun _ => rfl)) HGD.out).mono ?_
  rintro e w6 ⟨rfl, hb6⟩
  have hz6 := hb6.size
  have hB6 : Below w5.heap.size w5 w6 := (by repeat (first | (with_reducible exact Below.refl _ _) | ((with_reducible refine alloc_ ?_ ?_); (focus (first | exact Nat.le_refl _ | (simp; done) | (simp; omega) | omega))) | ((with_reducible refine set_ ?_ ?_); (focus (first | exact Nat.le_refl _ | (simp; done) | (simp; omega) | omega))) | (with_reducible refine Below.drew ?_) | ((with_reducible refine after_ ?_ (by assumption) ?_); (rotate_left; (focus (first | exact Nat.le_refl _ | (simp; done) | (simp; omega) | omega))))))
  have hs6 := hB6.size
  have kc6 := kc5.carry hB6
  have o6 := o5.carry hB6
  have p6 := p5.carry hB6
  have q6 := q5.carry hB6
  go_wp2_with fail
  refine (bb_of (implHasTaskPlan_c l _ _ _ hl1 (o6.rd fun _ => rfl)) HU.out).mono ?_
  rintro e w7 ⟨rfl, hb7⟩
  have hz7 := hb7.size
  have hB7 : Below w6.heap.size w6 w7 := (by repeat (first | (with_reducible exact Below.refl _ _) | ((with_reducible refine alloc_ ?_ ?_); (focus (first | exact Nat.le_refl _ | (simp; done) | (simp; omega) | omega))) | ((with_reducible refine set_ ?_ ?_); (focus (first | exact Nat.le_refl _ | (simp; done) | (simp; omega) | omega))) | (with_reducible refine Below.drew ?_) | ((with_reducible refine after_ ?_ (by assumption) ?_); (rotate_left; (focus (first | exact Nat.le_refl _ | (simp; done) | (simp; omega) | omega))))))
  have hs7 := hB7.size
  have kc7 := kc6.carry hB7
  have o7 := o6.carry hB7
  have p7 := p6.carry hB7
  have q7 := q6.carry hB7
  go_wp2_with fail
  refine (bb_of (specHasTaskPlan_c l _ _ _ hl1 (o7.rd fun _ => rfl)) HU.out).mono ?_
  rintro e w8 ⟨rfl, hb8⟩
  have hz8 := hb8.size
  have hB8 : Below w7.heap.size w7 w8 := (by repeat (first | (with_reducible exact Below.refl _ _) | ((with_reducible refine alloc_ ?_ ?_); (focus (first | exact Nat.le_refl _ | (simp; done) | (simp; omega) | omega))) | ((with_reducible refine set_ ?_ ?_); (focus (first | exact Nat.le_refl _ | (simp; done) | (simp; omega) | omega))) | (with_reducible refine Below.drew ?_) | ((with_reducible refine after_ ?_ (by assumption) ?_); (rotate_left; (focus (first | exact Nat.le_refl _ | (simp; done) | (simp; omega) | omega))))))
  have hs8 := hB8.size
  have kc8 := kc7.carry hB8
  have o8 := o7.carry hB8
  have p8 := p7.carry hB8
  have q8 := q7.carry hB8
  go_upto_region 10 with fail
  go_cut [93] (fun s wx => s = .bool false ∧ w8 = wx)
  case first => as_aux_lemma =>
    rcases ok with _ | _
    · go_wp2_with fail
      go_meet
      exact ⟨rfl, rfl⟩
    · obtain rfl := HOK.out rfl
      go_wp2_with fail
      go_meet
      exact ⟨rfl, rfl⟩
  obtain ⟨rfl, rfl⟩ := hcut
  go_wp2_with fail
  refine (nb_of (implEarliestEnd_c l _ _ _ hl1 (o8.rd fun _ => rfl)) HE.out).mono ?_
  rintro e w9 ⟨rfl, hb9⟩
  have hz9 := hb9.size
  have hB9 : Below w8.heap.size w8 w9 := (by repeat (first | (with_reducible exact Below.refl _ _) | ((with_reducible refine alloc_ ?_ ?_); (focus (first | exact Nat.le_refl _ | (simp; done) | (simp; omega) | omega))) | ((with_reducible refine set_ ?_ ?_); (focus (first | exact Nat.le_refl _ | (simp; done) | (simp; omega) | omega))) | (with_reducible refine Below.drew ?_) | ((with_reducible refine after_ ?_ (by assumption) ?_); (rotate_left; (focus (first | exact Nat.le_refl _ | (simp; done) | (simp; omega) | omega))))))
  have hs9 := hB9.size
  have kc9 := kc8.carry hB9
  have o9 := o8.carry hB9
  have p9 := p8.carry hB9
  have q9 := q8.carry hB9
  go_wp2_with fail
  refine (nb_of (specEarliestEnd_c l _ _ _ hl1 (o9.rd fun _ => rfl)) HE.out).mono ?_
  rintro e w10 ⟨rfl, hb10⟩
  have hz10 := hb10.size
  have hB10 : Below w9.heap.size w9 w10 := (by repeat (first | (with_reducible exact Below.refl _ _) | ((with_reducible refine alloc_ ?_ ?_); (focus (first | exact Nat.le_refl _ | (simp; done) | (simp; omega) | omega))) | ((with_reducible refine set_ ?_ ?_); (focus (first | exact Nat.le_refl _ | (simp; done) | (simp; omega) | omega))) | (with_reducible refine Below.drew ?_) | ((with_reducible refine after_ ?_ (by assumption) ?_); (rotate_left; (focus (first | exact Nat.le_refl _ | (simp; done) | (simp; omega) | omega))))))
  have hs10 := hB10.size
  have kc10 := kc9.carry hB10
  have o10 := o9.carry hB10
  have p10 := p9.carry hB10
  have q10 := q9.carry hB10
  have HBA := Lib.hid (show Below w.heap.size w w10 from (by repeat (first | (with_reducible exact Below.refl _ _) | ((with_reducible refine alloc_ ?_ ?_); (focus (first | exact Nat.le_refl _ | (simp; done) | (simp; omega) | omega))) | ((with_reducible refine set_ ?_ ?_); (focus (first | exact Nat.le_refl _ | (simp; done) | (simp; omega) | omega))) | (with_reducible refine Below.drew ?_) | ((with_reducible refine after_ ?_ (by assumption) ?_); (rotate_left; (focus (first | exact Nat.le_refl _ | (simp; done) | (simp; omega) | omega)))))))
  clear hb1 hb2 hb3 hb4 hb5 hb6 hb7 hb8 hb9 hb10 hB1 hB2 hB3 hB4 hB5 hB6 hB7 hB8 hB9 hB10 o1 o2 o3 o4 o5 o6 o7 o8 o9 p2 p3 p4 p5 p6 p7 p8 p9 q3 q4 q5 q6 q7 q8 q9 q10 kc1 kc2 kc3 kc4 kc5 kc6 kc7 kc8 kc9 HV HU HE HGD
  go_upto_if 117 with fail
  go_cut [2] (fun s wx => s = .bool false ∧ Codes wx A n ∧ Below w.heap.size w wx)
  case first => as_aux_lemma =>
    rcases ok with _ | _
    · go_wp2_with fail
      go_meet
      exact ⟨rfl, kc10, HBA.out⟩
    · obtain ⟨hg, hpl, hpn⟩ := HDP.out rfl
      have hgk := goodK_true hg
      have HPL := Lib.hid (isPlan_mk hg hpl)
      have HBS := Lib.hid (busy_plan hg hpl)
      have HIN := Lib.hid (planB_in hpl).2
      have HG := Lib.hid hgk.2
      have HDB := Lib.hid (fun k hk => daysTo_bd (l := l) hgk.2 k hk)
      have HLB := Lib.hid (fun k hk => lateTo_bd (l := l) (p := P) hgk.2 hpl k hk)
      have hl8 := hgk.1
      have HEN := Lib.hid (HEL.out rfl)
      have HPN := Lib.hid hpn
      clear hg hpl hgk hpn
      go_wp2_with fail
      refine (bb_of (implIsTaskPlan_c l P _ _ _ _ _ hl1 hP1 (o10.rd fun _ => rfl) (p10.rd fun _ => rfl)) HPL.out).mono ?_
      rintro e w11 ⟨rfl, hb11⟩
      have o11 := o10.carry hb11
      have p11 := p10.carry hb11
      have kc11 := kc10.carry hb11
      have HB11 := Lib.hid (HBA.out.trans (hb11.mono HBA.out.size))
      clear hb11
      go_wp2_with fail
      refine (nb_of (implBusyDays_c l P _ _ _ _ 0 400 _ hl1 hP1 (o11.rd fun _ => rfl) (p11.rd fun _ => rfl)) HBS.out).mono ?_
      rintro e w12 ⟨rfl, hb12⟩
      have O12 := Lib.hid (o11.carry hb12)
      have P12 := Lib.hid (p11.carry hb12)
      have K12 := Lib.hid (kc11.carry hb12)
      have HB12 := Lib.hid (HB11.out.trans (hb12.mono HB11.out.size))
      clear hb12 o11 p11 o10 p10 kc11 kc10
      go_wp2_with fail
      go_loopw [20, 21, 22] (fun dy lt i wr => ∃ k : Nat, k ≤ l.length ∧ i = .int .i64 k ∧ dy = .int .i64 (daysTo l k) ∧ lt = .int .i64 (lateTo l P k) ∧ Below w12.heap.size w12 wr) (fun _ _ i _ => l.length - (intOf i).toNat)
      case atStart => exact ⟨0, Nat.zero_le _, rfl, rfl, rfl, Below.refl _ _⟩
      case round =>
        obtain ⟨k, hk, rfl, rfl, rfl, hbel⟩ := hrel
        have HB := Lib.hid hbel
        have z9 := hbel.size
        obtain ⟨d1, d2⟩ := HDB.out k hk
        obtain ⟨e1, e2⟩ := HLB.out k hk
        by_cases hlt : k < l.length
        · obtain ⟨b, off, he, hb1, t0, t1, t2, t3⟩ := Tsk.rd ((O12.out.carry hbel).rd fun _ => rfl) hlt
          cases he
          simp only [Nat.zero_add] at t0 t1 t2 t3
          obtain ⟨b', off', rfl, hb2, hc'⟩ := Rd.int ((P12.out.carry hbel).rd fun _ => rfl) (show k < P.length by have := HPN.out; omega)
          obtain ⟨_, ⟨m1, m2⟩, ⟨m3, _⟩, ⟨m5, m6⟩⟩ := okK_true.1 (HG.out k hlt)
          obtain ⟨q1, q2⟩ := HIN.out k hlt
          unfold lastS at q2
          have n1 : 0 ≤ nth P k := by omega
          have n2 : nth P k ≤ 400 := by omega
          have hd3 : daysTo l (k + 1) = daysTo l k + (nth l k).d := rfl
          have hd4 : lateTo l P (k + 1) = if lateTo l P k < nth P k + (nth l k).d - 1 then nth P k + (nth l k).d - 1 else lateTo l P k := rfl
          have HD3 := Lib.hid hd3
          have HD4 := Lib.hid hd4
          obtain ⟨dk, hdk⟩ : ∃ x, daysTo l k = x := ⟨_, rfl⟩
          obtain ⟨lk, hlk⟩ : ∃ x, lateTo l P k = x := ⟨_, rfl⟩
          obtain ⟨x, hx⟩ : ∃ x, nth P k = x := ⟨_, rfl⟩
          obtain ⟨y, hy⟩ : ∃ x, (nth l k).d = x := ⟨_, rfl⟩
          rw [hdk] at d1 d2 HD3 ⊢
          rw [hlk] at e1 e2 HD4 ⊢
          rw [hx] at n1 n2 hc' HD4
          rw [hy] at m1 m2 t3 HD3 HD4
          have ik : (k : Int) < l.length := by omega
          have ip : (k : Int) < P.length := by have := HPN.out; omega
          have i0 : (0 : Int) ≤ (k : Int) := by omega
          have w1' : IntKind.i64.wrap (x + y) = x + y := IntWalk.i64_in _ (by omega)
          have w2' : IntKind.i64.wrap (x + y - 1) = x + y - 1 := IntWalk.i64_in _ (by omega)
          have l3 : g1 < wr.heap.size := hb1
          clear hbel t0 t1 t2 m3 m5 m6 q1 q2 hd3 hd4 hdk hlk hx hy
          by_cases hlate : lk < x + y - 1
          · have HD5 := Lib.hid (HD4.out.trans (if_pos hlate))
            go_wp2_with fail
            refine wp_region_mem (by kernel_rfl) (by kernel_rfl) ?_
            repeat (go_big_quiet_step (fail))
            refine wpQuiet_nil ?_
            intro _ hw'
            obtain ⟨⟨wq, hbq⟩, hw''⟩ := hw'
            obtain rfl := hw''.symm
            obtain ⟨hcq, hfq, hzq⟩ := bcell hbq
            try simp [Nat.add_one_le_iff] at hzq
            have u1 := (hbq.cell (p := ⟨g1, k * 4 + 3, none⟩) l3).trans t3
            have u2 := (hbq.cell (p := ⟨b', off' + k, none⟩) hb2).trans hc'
            have u3 : g1 < wq.heap.size := Nat.lt_of_lt_of_le l3 hbq.size
            have u4 : b' < wq.heap.size := Nat.lt_of_lt_of_le hb2 hbq.size
            go_wp2_with fail
            refine wp_region_mem (by kernel_rfl) (by kernel_rfl) ?_
            repeat (go_big_quiet_step (fail))
            refine wpQuiet_nil ?_
            intro _ hw'
            obtain ⟨⟨wr, hbr⟩, hw''⟩ := hw'
            obtain rfl := hw''.symm
            obtain ⟨hcr, hfr, hzr⟩ := bcell hbr
            try simp [Nat.add_one_le_iff] at hzr
            go_wp2_with fail
            go_roundw
            case rel => exact ⟨k + 1, by omega, by go_num, by rw [HD3.out], by rw [HD5.out], (HB.out.trans (hbq.mono z9)).trans (hbr.mono (Nat.le_trans z9 hbq.size))⟩
            case measure => simp [intOf]; omega
          · have HD5 := Lib.hid (HD4.out.trans (if_neg hlate))
            go_wp2_with fail
            refine wp_region_mem (by kernel_rfl) (by kernel_rfl) ?_
            repeat (go_big_quiet_step (fail))
            refine wpQuiet_nil ?_
            intro _ hw'
            obtain ⟨⟨wq, hbq⟩, hw''⟩ := hw'
            obtain rfl := hw''.symm
            obtain ⟨hcq, hfq, hzq⟩ := bcell hbq
            try simp [Nat.add_one_le_iff] at hzq
            go_wp2_with fail
            go_roundw
            case rel => exact ⟨k + 1, by omega, by go_num, by rw [HD3.out], by rw [HD5.out], HB.out.trans (hbq.mono z9)⟩
            case measure => simp [intOf]; omega
        · obtain rfl : k = l.length := by omega
          have hen := HEN.out
          have kcz := K12.out.carry hbel
          clear hbel
          go_wp2_with fail
          go_meet
          exact ⟨rfl, kcz, HB12.out.trans (HB.out.mono HB12.out.size)⟩
  case rest => as_aux_lemma =>
    obtain ⟨rfl, kd0, hbc⟩ := hcut
    have HBC := Lib.hid hbc
    clear hbc HDP HOK HEL HBA kc0 kc10 o10 p10
    obtain ⟨w0, hw0⟩ : ∃ w0, w0 = wc := ⟨_, rfl⟩
    subst hw0
    go_wp2_with fail
    refine (drawIsTaskPlan_c _ _ _ _ kd0).mono ?_
    rintro e w1 ⟨g1, c1, l, B, d, p, rfl, hl, hp, o1, p1, hb1⟩
    have hz1 := hb1.size
    try simp only [World.size_alloc] at g1
    try simp only [World.size_alloc] at c1
    try simp only [World.size_alloc] at l
    try simp only [World.size_alloc] at d
    try simp only [World.size_alloc] at p
    try simp only [World.size_alloc] at hl
    try simp only [World.size_alloc] at hp
    try simp only [World.size_alloc] at o1
    try simp only [World.size_alloc] at p1
    have hB1 : Below w0.heap.size w0 w1 := (by repeat (first | (with_reducible exact Below.refl _ _) | ((with_reducible refine alloc_ ?_ ?_); (focus (first | exact Nat.le_refl _ | (simp; done) | (simp; omega) | omega))) | ((with_reducible refine set_ ?_ ?_); (focus (first | exact Nat.le_refl _ | (simp; done) | (simp; omega) | omega))) | (with_reducible refine Below.drew ?_) | ((with_reducible refine after_ ?_ (by assumption) ?_); (rotate_left; (focus (first | exact Nat.le_refl _ | (simp; done) | (simp; omega) | omega))))))
    have hs1 := hB1.size
    have kd1 := kd0.carry hB1
    have hl1 : l.length ≤ 1048576 := by omega
    have hp1 : p.length ≤ 1048576 := by omega
    have hyp := isPlan_yes (l := l) (p := p)
    obtain ⟨⟨yes, known⟩, hv⟩ : ∃ x, isPlan l p = x := ⟨_, rfl⟩
    rw [hv] at hyp
    have HV := Lib.hid hv
    have HYP := Lib.hid (show yes = true → hasP l = (true, true) from fun h => hasP_of (hyp h).1 (hyp h).2)
    clear hv hyp hl hp
    go_wp2_with fail
    refine (bb_of (implIsTaskPlan_c l p _ _ _ _ _ hl1 hp1 (o1.rd fun _ => rfl) (p1.rd fun _ => rfl)) HV.out).mono ?_
    rintro e w2 ⟨rfl, hb2⟩
    have hz2 := hb2.size
    have hB2 : Below w1.heap.size w1 w2 := (by repeat (first | (with_reducible exact Below.refl _ _) | ((with_reducible refine alloc_ ?_ ?_); (focus (first | exact Nat.le_refl _ | (simp; done) | (simp; omega) | omega))) | ((with_reducible refine set_ ?_ ?_); (focus (first | exact Nat.le_refl _ | (simp; done) | (simp; omega) | omega))) | (with_reducible refine Below.drew ?_) | ((with_reducible refine after_ ?_ (by assumption) ?_); (rotate_left; (focus (first | exact Nat.le_refl _ | (simp; done) | (simp; omega) | omega))))))
    have hs2 := hB2.size
    have kd2 := kd1.carry hB2
    have o2 := o1.carry hB2
    have p2 := p1.carry hB2
    go_wp2_with fail
    refine (bb_of (specIsTaskPlan_c l p _ _ _ _ _ hl1 hp1 (o2.rd fun _ => rfl) (p2.rd fun _ => rfl)) HV.out).mono ?_
    rintro e w3 ⟨rfl, hb3⟩
    have hz3 := hb3.size
    have hB3 : Below w2.heap.size w2 w3 := (by repeat (first | (with_reducible exact Below.refl _ _) | ((with_reducible refine alloc_ ?_ ?_); (focus (first | exact Nat.le_refl _ | (simp; done) | (simp; omega) | omega))) | ((with_reducible refine set_ ?_ ?_); (focus (first | exact Nat.le_refl _ | (simp; done) | (simp; omega) | omega))) | (with_reducible refine Below.drew ?_) | ((with_reducible refine after_ ?_ (by assumption) ?_); (rotate_left; (focus (first | exact Nat.le_refl _ | (simp; done) | (simp; omega) | omega))))))
    have hs3 := hB3.size
    have kd3 := kd2.carry hB3
    have o3 := o2.carry hB3
    have p3 := p2.carry hB3
    go_upto_if 212 with fail
    go_cut [2] (fun s wx => s = .bool false ∧ Codes wx A n ∧ Below w0.heap.size w0 wx)
    case first => as_aux_lemma =>
      have HB := Lib.hid (show Below w0.heap.size w0 w3 from (by repeat (first | (with_reducible exact Below.refl _ _) | ((with_reducible refine alloc_ ?_ ?_); (focus (first | exact Nat.le_refl _ | (simp; done) | (simp; omega) | omega))) | ((with_reducible refine set_ ?_ ?_); (focus (first | exact Nat.le_refl _ | (simp; done) | (simp; omega) | omega))) | (with_reducible refine Below.drew ?_) | ((with_reducible refine after_ ?_ (by assumption) ?_); (rotate_left; (focus (first | exact Nat.le_refl _ | (simp; done) | (simp; omega) | omega)))))))
      rcases yes with _ | _
      · go_wp2_with fail
        go_meet
        exact ⟨rfl, kd3, HB.out⟩
      · have HH := Lib.hid (HYP.out rfl)
        go_wp2_with fail
        refine (bb_of (implHasTaskPlan_c l _ _ _ hl1 (o3.rd fun _ => rfl)) HH.out).mono ?_
        rintro e w4 ⟨rfl, hb4⟩
        have kd4 := kd3.carry hb4
        have HB4 := Lib.hid (HB.out.trans (hb4.mono HB.out.size))
        clear hb4
        go_wp2_with fail
        go_meet
        exact ⟨rfl, kd4, HB4.out⟩
    case rest => as_aux_lemma =>
      obtain ⟨rfl, ke0, hbd⟩ := hcut
      have HBD := Lib.hid (HBC.out.trans (hbd.mono HBC.out.size))
      clear hbd HBC HV HYP kd0 kd1 kd2 kd3 hb1 hb2 hb3 hB1 hB2 hB3 o1 o2 o3 p1 p2 p3
      obtain ⟨w0, hw0⟩ : ∃ w0, w0 = wc := ⟨_, rfl⟩
      subst hw0
      go_wp2_with fail
      refine (drawBusyDays_c _ _ _ _ ke0).mono ?_
      rintro e w1 ⟨g1, c1, l, B, d, p, f, t, rfl, hl, hp, o1, p1, hb1⟩
      have hz1 := hb1.size
      try simp only [World.size_alloc] at g1
      try simp only [World.size_alloc] at c1
      try simp only [World.size_alloc] at l
      try simp only [World.size_alloc] at d
      try simp only [World.size_alloc] at p
      try simp only [World.size_alloc] at f
      try simp only [World.size_alloc] at t
      try simp only [World.size_alloc] at hl
      try simp only [World.size_alloc] at hp
      try simp only [World.size_alloc] at o1
      try simp only [World.size_alloc] at p1
      have hB1 : Below w0.heap.size w0 w1 := (by repeat (first | (with_reducible exact Below.refl _ _) | ((with_reducible refine alloc_ ?_ ?_); (focus (first | exact Nat.le_refl _ | (simp; done) | (simp; omega) | omega))) | ((with_reducible refine set_ ?_ ?_); (focus (first | exact Nat.le_refl _ | (simp; done) | (simp; omega) | omega))) | (with_reducible refine Below.drew ?_) | ((with_reducible refine after_ ?_ (by assumption) ?_); (rotate_left; (focus (first | exact Nat.le_refl _ | (simp; done) | (simp; omega) | omega))))))
      have hs1 := hB1.size
      have ke1 := ke0.carry hB1
      have hl1 : l.length ≤ 1048576 := by omega
      have hp1 : p.length ≤ 1048576 := by omega
      obtain ⟨⟨v, b⟩, hv⟩ : ∃ x, busy l p f t = x := ⟨_, rfl⟩
      have HV := Lib.hid hv
      clear hv hl hp
      go_wp2_with fail
      refine (nb_of (implBusyDays_c l p _ _ _ _ f t _ hl1 hp1 (o1.rd fun _ => rfl) (p1.rd fun _ => rfl)) HV.out).mono ?_
      rintro e w2 ⟨rfl, hb2⟩
      have hz2 := hb2.size
      have hB2 : Below w1.heap.size w1 w2 := (by repeat (first | (with_reducible exact Below.refl _ _) | ((with_reducible refine alloc_ ?_ ?_); (focus (first | exact Nat.le_refl _ | (simp; done) | (simp; omega) | omega))) | ((with_reducible refine set_ ?_ ?_); (focus (first | exact Nat.le_refl _ | (simp; done) | (simp; omega) | omega))) | (with_reducible refine Below.drew ?_) | ((with_reducible refine after_ ?_ (by assumption) ?_); (rotate_left; (focus (first | exact Nat.le_refl _ | (simp; done) | (simp; omega) | omega))))))
      have hs2 := hB2.size
      have ke2 := ke1.carry hB2
      have o2 := o1.carry hB2
      have p2 := p1.carry hB2
      go_wp2_with fail
      refine (nb_of (specBusyDays_c l p _ _ _ _ f t _ hl1 hp1 (o2.rd fun _ => rfl) (p2.rd fun _ => rfl)) HV.out).mono ?_
      rintro e w3 ⟨rfl, hb3⟩
      have hz3 := hb3.size
      have hB3 : Below w2.heap.size w2 w3 := (by repeat (first | (with_reducible exact Below.refl _ _) | ((with_reducible refine alloc_ ?_ ?_); (focus (first | exact Nat.le_refl _ | (simp; done) | (simp; omega) | omega))) | ((with_reducible refine set_ ?_ ?_); (focus (first | exact Nat.le_refl _ | (simp; done) | (simp; omega) | omega))) | (with_reducible refine Below.drew ?_) | ((with_reducible refine after_ ?_ (by assumption) ?_); (rotate_left; (focus (first | exact Nat.le_refl _ | (simp; done) | (simp; omega) | omega))))))
      have hs3 := hB3.size
      have ke3 := ke2.carry hB3
      have o3 := o2.carry hB3
      have p3 := p2.carry hB3
      have HE := Lib.hid (HBD.out.trans (Below.mono (B := w0.heap.size) (show Below w0.heap.size w0 w3 from (by repeat (first | (with_reducible exact Below.refl _ _) | ((with_reducible refine alloc_ ?_ ?_); (focus (first | exact Nat.le_refl _ | (simp; done) | (simp; omega) | omega))) | ((with_reducible refine set_ ?_ ?_); (focus (first | exact Nat.le_refl _ | (simp; done) | (simp; omega) | omega))) | (with_reducible refine Below.drew ?_) | ((with_reducible refine after_ ?_ (by assumption) ?_); (rotate_left; (focus (first | exact Nat.le_refl _ | (simp; done) | (simp; omega) | omega))))))) HBD.out.size))
      rcases b with _ | _
      all_goals
        go_wp2_with fail
        go_ret
        exact ⟨rfl, HE.out⟩
namespace fnTasks
set_option linter.unusedVariables false
theorem own : ownKnob Try.prog.godebug = none := by kernel_rfl
theorem laidOut : laidOutB Try.prog = true := by kernel_rfl
set_option maxRecDepth 100000 in
theorem lifted (os : Os) (started : os.Started) (H : Type) (enc : TypeId × Value → H) :
    ReturnsInHanded {} Try.checked os 12 .any (Rows.fnTasksSpec.pre6 enc Try.prog Try.f12 Rows.fnTasksRow.domain false) (Rows.fnTasksSpec.post enc Try.prog Try.f12 false true false false) := by
  refine returnsInHanded_of_change (C := Try.checked) own started (by kernel_rfl) Try.func12
    (ChangeSpec.witness6 (enc := enc) (C := Try.checked) false ⟨#[], #[.slice none 0 0], []⟩ 8 (by kernel_rfl) (by kernel_rfl) (by kernel_rfl) (by kernel_rfl)) ?_
  intro W base args ds gs before hval0 hW hcnd _
  have hval : ∀ (j : Nat) t v, Try.f12.params[j]? = some t → args[j]? = some v → Value.okWide Try.prog W .any base t v := hval0
  have hW' := hW
  obtain ⟨p, q, hA0, hV, rfl, hfz, hnd⟩ := hW
  have hA : DataW.TrodAll enc Try.prog W 0 (fun _ => true) true Try.f12.params.toList args.toList ds p := hA0
  rw [Try.params12] at hA hval
  obtain ⟨v0, vs0, d0, ds0, p0, q0, hargs, rfl, rfl, h0, r0⟩ := trodAll_cons hA
  obtain ⟨rfl, rfl, rfl⟩ := trodAll_nil r0
  obtain rfl : args = #[v0] := by cases args; simp_all
  obtain ⟨rfl, rfl⟩ := trodVars_none hV
  have k0 := h0
  have lt0 : ∀ x ∈ p0, x.block < W.heap.size := by obtain ⟨m, hm⟩ := k0; exact DataW.trod_lt m _ _ _ hm
  obtain ⟨a0, len0, cap0, rfl⟩ := okWide_slice Try.underlying53 (hval 0 53 v0 rfl rfl)
  obtain ⟨code, w0⟩ := open_byteS Try.underlying53 Try.underlying5 (by kernel_rfl) h0
  clear hA0 hval0
  refine (lawPlans code a0 len0 cap0 W w0).mono fun e W' ⟨he, bel⟩ => ?_
  subst he
  exact ⟨_, rfl, _, _, _, [], _, [], hW', trodAll_mk1 (shut_bool Try.underlying4 _), (trodAll_cons_mk (Below.trod laidOut (by kernel_rfl) (of_decide_eq_true (by kernel_rfl)) k0 bel lt0) trodAll_mk0), rfl, bel.frame _, fun h => by cases h⟩
theorem over : Rows.fnTasksRow.holds Try.pinned (OpenSpec.ofChange Rows.fnTasksSpec) :=
  OpenClaim.holds_of_wide 12 Try.f12 rfl rfl rfl rfl rfl rfl rfl ⟨rfl, rfl, rfl, rfl, rfl⟩ rfl rfl rfl rfl rfl (by kernel_rfl) Try.func12 (by kernel_rfl)
    (of_decide_eq_true (by kernel_rfl)) (by unfold Func.isWrapper; first | (rw [if_pos (by decide +kernel)]; kernel_rfl) | (rw [if_neg (by decide +kernel)]; exact ⟨rfl, rfl⟩))
    (fun os started H enc _ => lifted os started H enc)
/-- The given statement. -/
theorem proved : Rows.FnTasksSaid := over
#print axioms proved
end fnTasks
end Go.Proofs.Ytokddcnkfeimkaa
