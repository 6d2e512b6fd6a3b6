/- FnDescents returns true for all codes: who leaves at the last descent comes down to the valley, and after a stranded ride nobody does; no conditions. -/
import Derived.Test.YtddnemmdlijgiaaTimesLaw
import Derived.Test.YtddnemmdlijgiaaJourD
import Derived.Test.YtddnemmdlijgiaaJourneySpec
import Derived.Deep.CutBlock
namespace Go.Proofs.Ytddnemmdlijgiaa
open Go.RowKit Go.Joins Go.ChangeShapes Go.WideShapes Go.ChangeAt

theorem BB.of {f : FuncId} {args : Array Value} {p : Bool × Bool} {v b : Bool} {W : World} (h : Calls Try.prog f args W fun e w' => e = .returned (.tuple #[.bool p.1, .bool p.2]) ∧ Below W.heap.size W w') (hp : p = (v, b)) : Calls Try.prog f args W fun e w' => e = .returned (.tuple #[.bool v, .bool b]) ∧ Below W.heap.size W w' := by subst hp; exact h
set_option maxRecDepth 100000 in
set_option maxHeartbeats 4000000 in
theorem lawDescents (code : List Int) (A : Option Addr) (n cap : Nat) (w : World) (hin : InBytes w A n code) :
    Calls Try.prog 13 #[.slice A n cap] w fun e w' => e = .returned (.bool true) ∧ Below w.heap.size w w' := by
  have kc0 : Codes w A n := ⟨code, hin⟩
  clear hin
  by_cases hn : 65536 < (n : Int)
  · go_enter Try.func13, Try.ntmps13
    go_wp2_with fail
    refine (vBig_c _ _ _ _).mono ?_
    rintro e w' ⟨rfl, rfl⟩
    go_wp2_with fail
    go_ret
    exact ⟨rfl, Below.refl _ _⟩
  go_enter Try.func13, Try.ntmps13
  go_wp2_with fail
  refine (vBig_c _ _ _ _).mono ?_
  rintro e w' ⟨rfl, rfl⟩
  go_wp2_with fail
  refine (drawLastDescents_c _ _ _ _ kc0).mono ?_
  rintro e w1 ⟨A1, c1, l, rfl, hl, o1, hb1⟩
  have hz1 := hb1.size
  try simp only [World.size_alloc] at c1
  try simp only [World.size_alloc] at l
  try simp only [World.size_alloc] at hl
  try simp only [World.size_alloc] at o1
  have hB1 : Below w.heap.size w w1 := (by repeat (first | (with_reducible exact Below.refl _ _) | ((with_reducible refine alloc_ ?_ ?_); (focus (first | exact Nat.le_refl _ | (simp; done) | (simp; omega) | omega))) | ((with_reducible refine set_ ?_ ?_); (focus (first | exact Nat.le_refl _ | (simp; done) | (simp; omega) | omega))) | (with_reducible refine Below.drew ?_) | ((with_reducible refine after_ ?_ (by assumption) ?_); (rotate_left; (focus (first | exact Nat.le_refl _ | (simp; done) | (simp; omega) | omega))))))
  have hs1 := hB1.size
  have kc1 := kc0.carry hB1
  have hl1 : l.length ≤ 1048576 := by omega
  have hsix := descents_six (l := l)
  have hnone := descents_none (l := l)
  have hgood := descents_good (l := l)
  have hdown := fun s (hs : s < 6) => descent_down (l := l) hs
  have hsl := stranded_len (l := l)
  have htold := stranded_told (l := l)
  have hstr := fun h i => stranded_down (l := l) h (i := i)
  obtain ⟨⟨L, d⟩, hv⟩ : ∃ p, descents l = p := ⟨_, rfl⟩
  rw [hv] at hsix hnone hgood hdown htold
  obtain ⟨⟨S, d2⟩, hu⟩ : ∃ p, stranded l = p := ⟨_, rfl⟩
  rw [hu] at htold hstr hsl
  obtain rfl : d2 = d := htold
  have HV := Lib.hid hv
  have HU := Lib.hid hu
  have HSIX := Lib.hid (show d2 = true → L.length = 6 from hsix)
  have HNONE := Lib.hid (show d2 = false → L = [] from hnone)
  have HDOWN := Lib.hid (show ∀ s : Nat, s < 6 → d2 = true → 0 ≤ nth L s → (earD l s 0 (nth L s)).2 = true ∧ (earD l s 0 (nth L s)).1 ≤ 1439 from hdown)
  have HSTR := Lib.hid (show d2 = true → ∀ i : Nat, i < l.length → decide ((i : Int) ∈ S) = !(earD l (nth l i).t 0 (nth l i).a).2 from fun h i hi => hstr (hgood h) i hi)
  have hLl : L.length ≤ 1048576 := by rcases d2 with _ | _; rw [HNONE.out rfl]; simp; rw [HSIX.out rfl]; omega
  have hSl : S.length ≤ 1048576 := by simp only at hsl; omega
  clear hv hu hsix hnone hdown hstr hgood hsl
  go_wp2_with fail
  refine (LP.of (implLastDescents_c l _ _ _ hl1 (o1.rd fun _ => rfl)) HV.out).mono ?_
  rintro e w2 ⟨B1, e1, rfl, r2, hb2⟩
  have hz2 := hb2.size
  try simp only [World.size_alloc] at e1
  try simp only [World.size_alloc] at r2
  have hB2 : Below w1.heap.size w1 w2 := (by repeat (first | (with_reducible exact Below.refl _ _) | ((with_reducible refine alloc_ ?_ ?_); (focus (first | exact Nat.le_refl _ | (simp; done) | (simp; omega) | omega))) | ((with_reducible refine set_ ?_ ?_); (focus (first | exact Nat.le_refl _ | (simp; done) | (simp; omega) | omega))) | (with_reducible refine Below.drew ?_) | ((with_reducible refine after_ ?_ (by assumption) ?_); (rotate_left; (focus (first | exact Nat.le_refl _ | (simp; done) | (simp; omega) | omega))))))
  have hs2 := hB2.size
  have kc2 := kc1.carry hB2
  have o2 := o1.carry hB2
  go_wp2_with fail
  refine (LP.of (specLastDescents_c l _ _ _ hl1 (o2.rd fun _ => rfl)) HV.out).mono ?_
  rintro e w3 ⟨B2, e2, rfl, s3, hb3⟩
  have hz3 := hb3.size
  try simp only [World.size_alloc] at e2
  try simp only [World.size_alloc] at s3
  have hB3 : Below w2.heap.size w2 w3 := (by repeat (first | (with_reducible exact Below.refl _ _) | ((with_reducible refine alloc_ ?_ ?_); (focus (first | exact Nat.le_refl _ | (simp; done) | (simp; omega) | omega))) | ((with_reducible refine set_ ?_ ?_); (focus (first | exact Nat.le_refl _ | (simp; done) | (simp; omega) | omega))) | (with_reducible refine Below.drew ?_) | ((with_reducible refine after_ ?_ (by assumption) ?_); (rotate_left; (focus (first | exact Nat.le_refl _ | (simp; done) | (simp; omega) | omega))))))
  have hs3 := hB3.size
  have kc3 := kc2.carry hB3
  have o3 := o2.carry hB3
  have r3 := r2.carry hB3
  go_wp2_with fail
  refine (vInts_same L _ _ _ _ _ hLl (r3.rd fun _ => rfl) (s3.rd fun _ => rfl)).mono ?_
  rintro e w4 ⟨rfl, hb4⟩
  have hz4 := hb4.size
  have hB4 : Below w3.heap.size w3 w4 := (by repeat (first | (with_reducible exact Below.refl _ _) | ((with_reducible refine alloc_ ?_ ?_); (focus (first | exact Nat.le_refl _ | (simp; done) | (simp; omega) | omega))) | ((with_reducible refine set_ ?_ ?_); (focus (first | exact Nat.le_refl _ | (simp; done) | (simp; omega) | omega))) | (with_reducible refine Below.drew ?_) | ((with_reducible refine after_ ?_ (by assumption) ?_); (rotate_left; (focus (first | exact Nat.le_refl _ | (simp; done) | (simp; omega) | omega))))))
  have hs4 := hB4.size
  have kc4 := kc3.carry hB4
  have o4 := o3.carry hB4
  have r4 := r3.carry hB4
  have s4 := s3.carry hB4
  go_wp2_with fail
  refine (LP.of (implStrandedRides_c l _ _ _ hl1 (o4.rd fun _ => rfl)) HU.out).mono ?_
  rintro e w5 ⟨B3, e3, rfl, p5, hb5⟩
  have hz5 := hb5.size
  try simp only [World.size_alloc] at e3
  try simp only [World.size_alloc] at p5
  have hB5 : Below w4.heap.size w4 w5 := (by repeat (first | (with_reducible exact Below.refl _ _) | ((with_reducible refine alloc_ ?_ ?_); (focus (first | exact Nat.le_refl _ | (simp; done) | (simp; omega) | omega))) | ((with_reducible refine set_ ?_ ?_); (focus (first | exact Nat.le_refl _ | (simp; done) | (simp; omega) | omega))) | (with_reducible refine Below.drew ?_) | ((with_reducible refine after_ ?_ (by assumption) ?_); (rotate_left; (focus (first | exact Nat.le_refl _ | (simp; done) | (simp; omega) | omega))))))
  have hs5 := hB5.size
  have kc5 := kc4.carry hB5
  have o5 := o4.carry hB5
  have r5 := r4.carry hB5
  have s5 := s4.carry hB5
  go_wp2_with fail
  refine (LP.of (specStrandedRides_c l _ _ _ hl1 (o5.rd fun _ => rfl)) HU.out).mono ?_
  rintro e w6 ⟨B4, e4, rfl, q6, hb6⟩
  have hz6 := hb6.size
  try simp only [World.size_alloc] at e4
  try simp only [World.size_alloc] at q6
  have hB6 : Below w5.heap.size w5 w6 := (by repeat (first | (with_reducible exact Below.refl _ _) | ((with_reducible refine alloc_ ?_ ?_); (focus (first | exact Nat.le_refl _ | (simp; done) | (simp; omega) | omega))) | ((with_reducible refine set_ ?_ ?_); (focus (first | exact Nat.le_refl _ | (simp; done) | (simp; omega) | omega))) | (with_reducible refine Below.drew ?_) | ((with_reducible refine after_ ?_ (by assumption) ?_); (rotate_left; (focus (first | exact Nat.le_refl _ | (simp; done) | (simp; omega) | omega))))))
  have hs6 := hB6.size
  have kc6 := kc5.carry hB6
  have o6 := o5.carry hB6
  have r6 := r5.carry hB6
  have s6 := s5.carry hB6
  have p6 := p5.carry hB6
  go_wp2_with fail
  refine (vInts_same S _ _ _ _ _ hSl (p6.rd fun _ => rfl) (q6.rd fun _ => rfl)).mono ?_
  rintro e w7 ⟨rfl, hb7⟩
  have hz7 := hb7.size
  have hB7 : Below w6.heap.size w6 w7 := (by repeat (first | (with_reducible exact Below.refl _ _) | ((with_reducible refine alloc_ ?_ ?_); (focus (first | exact Nat.le_refl _ | (simp; done) | (simp; omega) | omega))) | ((with_reducible refine set_ ?_ ?_); (focus (first | exact Nat.le_refl _ | (simp; done) | (simp; omega) | omega))) | (with_reducible refine Below.drew ?_) | ((with_reducible refine after_ ?_ (by assumption) ?_); (rotate_left; (focus (first | exact Nat.le_refl _ | (simp; done) | (simp; omega) | omega))))))
  have hs7 := hB7.size
  have kc7 := kc6.carry hB7
  have o7 := o6.carry hB7
  have r7 := r6.carry hB7
  have s7 := s6.carry hB7
  have p7 := p6.carry hB7
  have q7 := q6.carry hB7
  have HB7 := Lib.hid (show Below w.heap.size w w7 from (by repeat (first | (with_reducible exact Below.refl _ _) | ((with_reducible refine alloc_ ?_ ?_); (focus (first | exact Nat.le_refl _ | (simp; done) | (simp; omega) | omega))) | ((with_reducible refine set_ ?_ ?_); (focus (first | exact Nat.le_refl _ | (simp; done) | (simp; omega) | omega))) | (with_reducible refine Below.drew ?_) | ((with_reducible refine after_ ?_ (by assumption) ?_); (rotate_left; (focus (first | exact Nat.le_refl _ | (simp; done) | (simp; omega) | omega)))))))
  have O7 := Lib.hid o7
  have R7 := Lib.hid r7
  have P7 := Lib.hid p7
  have K7 := Lib.hid kc7
  clear HV HU
  go_upto_block 0 with fail
  go_cut [2] (fun s wx => s = .bool false ∧ Below w7.heap.size w7 wx)
  case first => as_aux_lemma =>
    clear HSTR P7 K7
    go_wp2_with fail
    go_loopw [2, 12] (fun s i wr => ∃ k : Nat, k ≤ L.length ∧ s = .bool false ∧ i = .int .i64 k ∧ Below w7.heap.size w7 wr) (fun _ i _ => L.length - (intOf i).toNat)
    case atStart => exact ⟨0, Nat.zero_le _, rfl, rfl, Below.refl _ _⟩
    case round =>
      obtain ⟨k, hk, rfl, rfl, hbel⟩ := hrel
      have HB := Lib.hid hbel
      have z9 := hbel.size
      by_cases hlt : k < L.length
      · have hd2 : d2 = true := by
          rcases d2 with _ | _
          · rw [HNONE.out rfl] at hlt; simp at hlt
          · rfl
        subst hd2
        have h6 : k < 6 := by rw [HSIX.out rfl] at hlt; exact hlt
        have qr := O7.out.carry hbel
        obtain ⟨b, off, rfl, hb1, hc1⟩ := (Rd.int ((R7.out.carry hbel).rd fun _ => rfl) hlt)
        obtain ⟨v, hv⟩ : ∃ v, nth L k = v := ⟨_, rfl⟩
        have hdn := HDOWN.out k h6 rfl
        rw [hv] at hc1 hdn
        have HDN := Lib.hid hdn
        have i1 : (0 : Int) ≤ (k : Int) := by omega
        have i2 : (k : Int) < L.length := by omega
        clear hbel hdn hv
        by_cases hneg : v < 0
        · go_wp2_with fail
          go_roundw
          case rel => exact ⟨k + 1, by omega, rfl, by go_num, HB.out⟩
          case measure => simp [intOf]; omega
        · obtain ⟨p1, p2⟩ := HDN.out (by omega)
          obtain ⟨⟨a, one⟩, ha⟩ : ∃ p, earD l k 0 v = p := ⟨_, rfl⟩
          rw [ha] at p1 p2
          simp only at p1 p2
          subst p1
          have HA := Lib.hid ha
          clear ha
          go_wp2_with fail
          refine (NB.of (implEarliestArrival_c l _ _ k 0 v _ hl1 (qr.rd fun _ => rfl)) HA.out).mono ?_
          rintro e w10 ⟨rfl, hb10⟩
          have HB10 := Lib.hid hb10
          clear hb10 qr
          go_wp2_with fail
          go_roundw
          case rel => exact ⟨k + 1, by omega, rfl, by go_num, HB.out.trans (HB10.out.mono z9)⟩
          case measure => simp [intOf]; omega
      · clear hbel
        go_wp2_with fail
        go_meet
        exact ⟨rfl, HB.out⟩
  case rest => as_aux_lemma =>
    obtain ⟨rfl, hbc⟩ := hcut
    have O8 := Lib.hid (O7.out.carry hbc)
    have P8 := Lib.hid (P7.out.carry hbc)
    have K8 := Lib.hid (K7.out.carry hbc)
    have HB8 := Lib.hid (HB7.out.trans (hbc.mono HB7.out.size))
    clear hbc O7 P7 K7 R7 HB7
    go_upto_block 2 with fail
    go_cut [2] (fun s wx => s = .bool false ∧ Below wc.heap.size wc wx)
    case first => as_aux_lemma =>
      clear K8
      go_wp2_with fail
      go_loopw [2, 15] (fun s i wr => ∃ k : Nat, k ≤ l.length ∧ s = .bool false ∧ i = .int .i64 k ∧ Below wc.heap.size wc wr) (fun _ i _ => l.length - (intOf i).toNat)
      case atStart => exact ⟨0, Nat.zero_le _, rfl, rfl, Below.refl _ _⟩
      case round =>
        obtain ⟨k, hk, rfl, rfl, hbel⟩ := hrel
        have HB := Lib.hid hbel
        have z9 := hbel.size
        by_cases hlt : k < l.length
        · rcases d2 with _ | _
          · clear hbel
            go_wp2_with fail
            go_meet
            exact ⟨rfl, HB.out⟩
          · have hst := HSTR.out rfl k hlt
            have rr := (O8.out.carry hbel).rd (fun _ => rfl)
            have pr := P8.out.carry hbel
            obtain ⟨b, off, rfl, hb1, hc⟩ := Rid.rd rr hlt
            obtain ⟨⟨a, down⟩, ha⟩ : ∃ p, earD l (nth l k).t 0 (nth l k).a = p := ⟨_, rfl⟩
            rw [ha] at hst
            obtain ⟨h, hh⟩ : ∃ h, hasI S k = h := ⟨_, rfl⟩
            have h7 : h = !down := by rw [← hh]; exact hst
            have HE := Lib.hid (fun W (hW : Below wr.heap.size wr W) => NB.of (implEarliestArrival_c l (some ⟨b, off, none⟩) c1 (nth l k).t 0 (nth l k).a W hl1 (rr.carry hW)) ha)
            have HH := Lib.hid (fun W (hW : Below wr.heap.size wr W) => by have := vHas_c S B3 e3 k W hSl ((pr.carry hW).rd fun _ => rfl); rw [hh] at this; exact this)
            have i1 : (0 : Int) ≤ (k : Int) := by omega
            have i2 : (k : Int) < l.length := by omega
            clear hbel hst ha hh rr pr
            subst h7
            go_wp2_with fail
            refine wp_region_mem (by kernel_rfl) (by kernel_rfl) ?_
            repeat (go_big_quiet_step ((go_at_call 28; exact mem_of (HE.out _ (WIn.ok _)))))
            refine wpQuiet_nil ?_
            intro _ hw'
            obtain ⟨⟨wq, hbq⟩, hw''⟩ := hw'
            obtain rfl := hw''.symm
            obtain ⟨hcq, hfq, hzq⟩ := bcell hbq
            try simp [Nat.add_one_le_iff] at hzq
            have HBq := Lib.hid hbq
            have HHq := Lib.hid (HH.out wq hbq)
            clear hcq hfq hzq
            go_wp2_with fail
            refine HHq.out.mono ?_
            rintro e w' ⟨rfl, rfl⟩
            rcases down with _ | _
            · go_wp2_with fail
              go_roundw
              case rel => exact ⟨k + 1, by omega, rfl, by go_num, HB.out.trans (HBq.out.mono z9)⟩
              case measure => simp [intOf]; omega
            · go_wp2_with fail
              go_roundw
              case rel => exact ⟨k + 1, by omega, rfl, by go_num, HB.out.trans (HBq.out.mono z9)⟩
              case measure => simp [intOf]; omega
        · clear hbel
          go_wp2_with fail
          go_meet
          exact ⟨rfl, HB.out⟩
    case rest => as_aux_lemma =>
      obtain ⟨rfl, hbc⟩ := hcut
      have kc0 := K8.out.carry hbc
      have HBC := Lib.hid (HB8.out.trans (hbc.mono HB8.out.size))
      clear hbc HSTR K8 HB8 O8 P8
      obtain ⟨w0, hw0⟩ : ∃ w0, w0 = wc := ⟨_, rfl⟩
      subst hw0
      go_wp2_with fail
      refine (drawIsJourney_c _ _ _ _ kc0).mono ?_
      rintro e w1 ⟨A1, c1, l, B, d, js, f, t, rfl, hl, hj, o1, p1, hb1⟩
      have hz1 := hb1.size
      try simp only [World.size_alloc] at c1
      try simp only [World.size_alloc] at l
      try simp only [World.size_alloc] at d
      try simp only [World.size_alloc] at js
      try simp only [World.size_alloc] at f
      try simp only [World.size_alloc] at t
      try simp only [World.size_alloc] at hl
      try simp only [World.size_alloc] at hj
      try simp only [World.size_alloc] at o1
      try simp only [World.size_alloc] at p1
      have hB1 : Below w0.heap.size w0 w1 := (by repeat (first | (with_reducible exact Below.refl _ _) | ((with_reducible refine alloc_ ?_ ?_); (focus (first | exact Nat.le_refl _ | (simp; done) | (simp; omega) | omega))) | ((with_reducible refine set_ ?_ ?_); (focus (first | exact Nat.le_refl _ | (simp; done) | (simp; omega) | omega))) | (with_reducible refine Below.drew ?_) | ((with_reducible refine after_ ?_ (by assumption) ?_); (rotate_left; (focus (first | exact Nat.le_refl _ | (simp; done) | (simp; omega) | omega))))))
      have hs1 := hB1.size
      have kc1 := kc0.carry hB1
      have hl1 : l.length ≤ 1048576 := by omega
      have hj1 : js.length ≤ 1048576 := by omega
      have hje := journey_ear (l := l) (js := js) (f := f) (t := t)
      obtain ⟨⟨yes, fine⟩, hv⟩ : ∃ p, jour l js f t = p := ⟨_, rfl⟩
      rw [hv] at hje
      have HV := Lib.hid hv
      have HJE := Lib.hid (show yes = true → 0 < js.length → ∃ q : Nat, nth js (js.length - 1) = q ∧ q < l.length ∧ (earD l f t 0).2 = true ∧ (earD l f t 0).1 ≤ (nth l q).a from hje)
      clear hv hje
      go_wp2_with fail
      refine (BB.of (implIsJourney_c l js _ _ _ _ f t _ hl1 hj1 (o1.rd fun _ => rfl) (p1.rd fun _ => rfl)) HV.out).mono ?_
      rintro e w2 ⟨rfl, hb2⟩
      have hz2 := hb2.size
      have hB2 : Below w1.heap.size w1 w2 := (by repeat (first | (with_reducible exact Below.refl _ _) | ((with_reducible refine alloc_ ?_ ?_); (focus (first | exact Nat.le_refl _ | (simp; done) | (simp; omega) | omega))) | ((with_reducible refine set_ ?_ ?_); (focus (first | exact Nat.le_refl _ | (simp; done) | (simp; omega) | omega))) | (with_reducible refine Below.drew ?_) | ((with_reducible refine after_ ?_ (by assumption) ?_); (rotate_left; (focus (first | exact Nat.le_refl _ | (simp; done) | (simp; omega) | omega))))))
      have hs2 := hB2.size
      have kc2 := kc1.carry hB2
      have o2 := o1.carry hB2
      have p2 := p1.carry hB2
      go_wp2_with fail
      refine (BB.of (specIsJourney_c l js _ _ _ _ f t _ hl1 hj1 (o2.rd fun _ => rfl) (p2.rd fun _ => rfl)) HV.out).mono ?_
      rintro e w3 ⟨rfl, hb3⟩
      have hz3 := hb3.size
      have hB3 : Below w2.heap.size w2 w3 := (by repeat (first | (with_reducible exact Below.refl _ _) | ((with_reducible refine alloc_ ?_ ?_); (focus (first | exact Nat.le_refl _ | (simp; done) | (simp; omega) | omega))) | ((with_reducible refine set_ ?_ ?_); (focus (first | exact Nat.le_refl _ | (simp; done) | (simp; omega) | omega))) | (with_reducible refine Below.drew ?_) | ((with_reducible refine after_ ?_ (by assumption) ?_); (rotate_left; (focus (first | exact Nat.le_refl _ | (simp; done) | (simp; omega) | omega))))))
      have hs3 := hB3.size
      have kc3 := kc2.carry hB3
      have o3 := o2.carry hB3
      have p3 := p2.carry hB3
      have HB3 := Lib.hid (show Below w0.heap.size w0 w3 from (by repeat (first | (with_reducible exact Below.refl _ _) | ((with_reducible refine alloc_ ?_ ?_); (focus (first | exact Nat.le_refl _ | (simp; done) | (simp; omega) | omega))) | ((with_reducible refine set_ ?_ ?_); (focus (first | exact Nat.le_refl _ | (simp; done) | (simp; omega) | omega))) | (with_reducible refine Below.drew ?_) | ((with_reducible refine after_ ?_ (by assumption) ?_); (rotate_left; (focus (first | exact Nat.le_refl _ | (simp; done) | (simp; omega) | omega)))))))
      go_upto_region 30 with fail
      go_cut [173] (fun s wx => s = .bool (yes && decide (0 < js.length)) ∧ w3 = wx)
      case first => as_aux_lemma =>
        rcases yes with _ | _
        · go_wp2_with fail
          go_meet
          exact ⟨rfl, rfl⟩
        · rcases hz : decide (0 < js.length) with _ | _
          · have hz' : ¬ 0 < js.length := of_decide_eq_false hz
            go_wp2_with fail
            go_meet
            exact ⟨by rw [hz]; rfl, rfl⟩
          · have hz' : 0 < js.length := of_decide_eq_true hz
            go_wp2_with fail
            go_meet
            exact ⟨by rw [hz]; rfl, rfl⟩
      obtain ⟨rfl, rfl⟩ := hcut
      go_upto_if 173 with fail
      go_cut [2] (fun s wx => s = .bool false ∧ Codes wx A n ∧ Below w0.heap.size w0 wx)
      case first => as_aux_lemma =>
        rcases hyes : (yes && decide (0 < js.length)) with _ | _
        · go_wp2_with fail
          go_meet
          exact ⟨rfl, kc3, HB3.out⟩
        · simp only [Bool.and_eq_true, decide_eq_true_eq] at hyes
          obtain ⟨rfl, hpos⟩ := hyes
          obtain ⟨q, hq, hql, y1, y2⟩ := HJE.out rfl hpos
          obtain ⟨⟨a, one⟩, ha⟩ : ∃ p, earD l f t 0 = p := ⟨_, rfl⟩
          rw [ha] at y1 y2
          simp only at y1 y2
          subst y1
          have HA := Lib.hid ha
          clear ha
          go_wp2_with fail
          refine (NB.of (implEarliestArrival_c l _ _ f t 0 _ hl1 (o3.rd fun _ => rfl)) HA.out).mono ?_
          rintro e w4 ⟨rfl, hb4⟩
          have kc4 := kc3.carry hb4
          have HB4 := Lib.hid (HB3.out.trans (hb4.mono HB3.out.size))
          obtain ⟨b, off, rfl, hb1, hc⟩ := Rid.rd ((o3.carry hb4).rd fun _ => rfl) hql
          obtain ⟨m, hm⟩ : ∃ m, js.length - 1 = m := ⟨_, rfl⟩
          obtain ⟨b', off', rfl, hb1', hc'⟩ := Rd.int ((p3.carry hb4).rd fun _ => rfl) (show m < js.length by omega)
          rw [hm] at hq
          rw [hq] at hc'
          have e1 : ((js.length : Int) - 1).toNat = m := by omega
          have e2 : (js.length : Int) - 1 < js.length := by omega
          have e3 : 1 ≤ (js.length : Int) := by omega
          have e4 : (q : Int) < l.length := by omega
          clear hb4 hq
          go_wp2_with fail
          go_meet
          exact ⟨rfl, kc4, HB4.out⟩
      obtain ⟨rfl, kd0, hbc⟩ := hcut
      have HBD := Lib.hid (HBC.out.trans (hbc.mono HBC.out.size))
      clear hbc HB3 HJE HV HBC kc0 kc1 kc2 kc3 o1 o2 o3 p1 p2 p3 hb1 hb2 hb3 hB1 hB2 hB3
      obtain ⟨wd, hwd⟩ : ∃ wd, wd = wc := ⟨_, rfl⟩
      subst hwd
      go_wp2_with fail
      refine (drawSeatsDown_c _ _ _ _ kd0).mono ?_
      rintro e wa ⟨A2, c2, l2, m, rfl, hl2, oa, hba⟩
      have hl3 : l2.length ≤ 1048576 := by omega
      obtain ⟨⟨v, b⟩, hv⟩ : ∃ p, seats l2 m = p := ⟨_, rfl⟩
      have HV := Lib.hid hv
      have HBA := Lib.hid (HBD.out.trans (hba.mono HBD.out.size))
      clear hv hba
      go_wp2_with fail
      refine (NB.of (implSeatsDown_c l2 _ _ m _ hl3 (oa.rd fun _ => rfl)) HV.out).mono ?_
      rintro e wb ⟨rfl, hbb⟩
      have ob := oa.carry hbb
      have HBB := Lib.hid (HBA.out.trans (hbb.mono HBA.out.size))
      clear hbb oa
      go_wp2_with fail
      refine (NB.of (specSeatsDown_c l2 _ _ m _ hl3 (ob.rd fun _ => rfl)) HV.out).mono ?_
      rintro e wf ⟨rfl, hbf⟩
      have HBF := Lib.hid (HBB.out.trans (hbf.mono HBB.out.size))
      clear hbf ob
      rcases b with _ | _
      all_goals
        go_wp2_with fail
        go_ret
        exact ⟨rfl, HBF.out⟩
namespace fnDescents
set_option linter.unusedVariables false
theorem own : ownKnob Try.prog.godebug = none := by kernel_rfl
theorem laidOut : laidOutB Try.prog = true := by kernel_rfl
set_option maxRecDepth 100000 in
theorem lifted (os : Os) (started : os.Started) (H : Type) (enc : TypeId × Value → H) :
    ReturnsInHanded {} Try.checked os 13 .any (Rows.fnDescentsSpec.pre6 enc Try.prog Try.f13 Rows.fnDescentsRow.domain false) (Rows.fnDescentsSpec.post enc Try.prog Try.f13 false true false false) := by
  refine returnsInHanded_of_change (C := Try.checked) own started (by kernel_rfl) Try.func13
    (ChangeSpec.witness6 (enc := enc) (C := Try.checked) false ⟨#[], #[.slice none 0 0], []⟩ 8 (by kernel_rfl) (by kernel_rfl) (by kernel_rfl) (by kernel_rfl)) ?_
  intro W base args ds gs before hval0 hW hcnd _
  have hval : ∀ (j : Nat) t v, Try.f13.params[j]? = some t → args[j]? = some v → Value.okWide Try.prog W .any base t v := hval0
  have hW' := hW
  obtain ⟨p, q, hA0, hV, rfl, hfz, hnd⟩ := hW
  have hA : DataW.TrodAll enc Try.prog W 0 (fun _ => true) true Try.f13.params.toList args.toList ds p := hA0
  rw [Try.params13] at hA hval
  obtain ⟨v0, vs0, d0, ds0, p0, q0, hargs, rfl, rfl, h0, r0⟩ := trodAll_cons hA
  obtain ⟨rfl, rfl, rfl⟩ := trodAll_nil r0
  obtain rfl : args = #[v0] := by cases args; simp_all
  obtain ⟨rfl, rfl⟩ := trodVars_none hV
  have k0 := h0
  have lt0 : ∀ x ∈ p0, x.block < W.heap.size := by obtain ⟨m, hm⟩ := k0; exact DataW.trod_lt m _ _ _ hm
  obtain ⟨a0, len0, cap0, rfl⟩ := okWide_slice Try.underlying45 (hval 0 45 v0 rfl rfl)
  obtain ⟨code, w0⟩ := open_byteS Try.underlying45 Try.underlying5 (by kernel_rfl) h0
  clear hA0 hval0
  refine (lawDescents code a0 len0 cap0 W w0).mono fun e W' ⟨he, bel⟩ => ?_
  subst he
  exact ⟨_, rfl, _, _, _, [], _, [], hW', trodAll_mk1 (shut_bool Try.underlying4 _), (trodAll_cons_mk (Below.trod laidOut (by kernel_rfl) (of_decide_eq_true (by kernel_rfl)) k0 bel lt0) trodAll_mk0), rfl, bel.frame _, fun h => by cases h⟩
theorem over : Rows.fnDescentsRow.holds Try.pinned (OpenSpec.ofChange Rows.fnDescentsSpec) :=
  OpenClaim.holds_of_wide 13 Try.f13 rfl rfl rfl rfl rfl rfl rfl ⟨rfl, rfl, rfl, rfl, rfl⟩ rfl rfl rfl rfl rfl (by kernel_rfl) Try.func13 (by kernel_rfl)
    (of_decide_eq_true (by kernel_rfl)) (by unfold Func.isWrapper; first | (rw [if_pos (by decide +kernel)]; kernel_rfl) | (rw [if_neg (by decide +kernel)]; exact ⟨rfl, rfl⟩))
    (fun os started H enc _ => lifted os started H enc)
/-- The given statement. -/
theorem proved : Rows.FnDescentsSaid := over
#print axioms proved
end fnDescents
end Go.Proofs.Ytddnemmdlijgiaa
