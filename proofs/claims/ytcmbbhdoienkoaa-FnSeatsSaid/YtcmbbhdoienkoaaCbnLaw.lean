/- FnSeats returns true for all codes: the fewest cabins have enough seats and one less has not, the next one out is ready, and worn cabins have made the trips; no conditions. -/
import Derived.Test.YtcmbbhdoienkoaaCbnDraw
import Derived.Test.YtcmbbhdoienkoaaCbnSpec
import Derived.Test.YtcmbbhdoienkoaaCbnMove
import Derived.Test.YtcmbbhdoienkoaaPairs
import Derived.Deep.DeepCutAuto
namespace Go.Proofs.Ytcmbbhdoienkoaa
open Go.RowKit Go.Joins Go.ChangeShapes Go.WideShapes Go.ChangeAt

section
variable {f : FuncId} {args : Array Value} {W : World}
theorem lp_of {p : List Int × Bool} {L : List Int} {b : Bool} (h : Calls Try.prog f args W (ListPost p W)) (hp : p = (L, b)) :
    Calls Try.prog f args W fun e w' => ∃ A cap, e = .returned (.tuple #[.slice A L.length cap, .bool b]) ∧ Own w' W.heap.size 3 1 intCells A L ∧ Below W.heap.size W w' := by subst hp; exact h
theorem cp_of {p : List Cbn × Bool} {L : List Cbn} {b : Bool} (h : Calls Try.prog f args W (CbnPost p W)) (hp : p = (L, b)) :
    Calls Try.prog f args W fun e w' => ∃ A cap, e = .returned (.tuple #[.slice A L.length cap, .bool b]) ∧ Own w' W.heap.size 33 5 Cbn.cells A L ∧ Below W.heap.size W w' := by subst hp; exact h
end
theorem fewest_len {l : List Cbn} {p : Int} : (fewest l p).1.length ≤ 1048576 := by
  unfold fewest
  split
  · next h =>
    simp only [Bool.and_eq_true] at h
    have hl := (goodC_true h.1.1).1
    simp only
    rw [isort_len]
    have := pick_len (o := ordC Cbn.s l) (p := p) (ordC Cbn.s l).length (Nat.le_refl _)
    rw [List.take_length] at this
    have := ordC_len (key := Cbn.s) l
    omega
  · simp
theorem worn_len {l : List Cbn} {m : Int} : (wornC l m).1.length ≤ 1048576 := by
  unfold wornC
  split
  · next h =>
    simp only [Bool.and_eq_true] at h
    have hl := (goodC_true h.1).1
    simp only
    rw [List.length_map]
    have := List.length_filter_le (fun c : Cbn => !decide (c.t = 3) && decide (m ≤ c.r)) (ordC Cbn.r l)
    have := ordC_len (key := Cbn.r) l
    omega
  · simp
theorem load_law {x : Cbn} {p v : Int} (h : loadC x p = (v, true)) : x.e ≤ v := by
  unfold loadC at h
  split at h
  · next c =>
    simp only [Bool.and_eq_true, inR_true] at c
    have : x.e + 80 * p = v := congrArg Prod.fst h
    omega
  · cases h
theorem seatsOn_told {l : List Cbn} : (seatsOn l).2 = goodC l := by
  unfold seatsOn
  rcases h : goodC l with _ | _ <;> simp
set_option maxRecDepth 100000 in
set_option maxHeartbeats 32000000 in
theorem lawSeats (code : List Int) (A : Option Addr) (n cap : Nat) (w : World) (hin : InBytes w A n code) :
    Calls Try.prog 3 #[.slice A n cap] w fun e w' => e = .returned (.bool true) ∧ Below w.heap.size w w' := by
  have kc0 : Codes w A n := ⟨code, hin⟩
  clear hin
  by_cases hn : 65536 < (n : Int)
  · go_enter Try.func3, Try.ntmps3
    go_wp2_with fail
    refine (vBig_c _ _ _ _).mono ?_
    rintro e w' ⟨rfl, rfl⟩
    go_wp2_with fail
    go_ret
    exact ⟨rfl, Below.refl _ _⟩
  go_enter Try.func3, Try.ntmps3
  go_wp2_with fail
  refine (vBig_c _ _ _ _).mono ?_
  rintro e w' ⟨rfl, rfl⟩
  go_wp2_with fail
  refine (drawFewestCabins_c _ _ _ _ kc0).mono ?_
  rintro e w1 ⟨g1, c1, l, p, rfl, hcl, hl, hp, o1, hb1⟩
  have hz1 := hb1.size
  try simp only [World.size_alloc] at g1
  try simp only [World.size_alloc] at c1
  try simp only [World.size_alloc] at l
  try simp only [World.size_alloc] at p
  try simp only [World.size_alloc] at hcl
  try simp only [World.size_alloc] at hl
  try simp only [World.size_alloc] at hp
  try simp only [World.size_alloc] at o1
  have hB1 : Below w.heap.size w w1 := (by repeat (first | (with_reducible exact Below.refl _ _) | ((with_reducible refine alloc_ ?_ ?_); (focus (first | exact Nat.le_refl _ | (simp; done) | (simp; omega) | omega))) | ((with_reducible refine set_ ?_ ?_); (focus (first | exact Nat.le_refl _ | (simp; done) | (simp; omega) | omega))) | (with_reducible refine Below.drew ?_) | ((with_reducible refine after_ ?_ (by assumption) ?_); (rotate_left; (focus (first | exact Nat.le_refl _ | (simp; done) | (simp; omega) | omega))))))
  have hs1 := hB1.size
  have kc1 := kc0.carry hB1
  have hl1 : l.length ≤ 1048576 := by omega
  have hG1 := fewest_len (l := l) (p := p)
  obtain ⟨⟨L, d⟩, hv⟩ : ∃ q, fewest l p = q := ⟨_, rfl⟩
  rw [hv] at hG1
  simp only at hG1
  have HV := Lib.hid hv
  clear hv
  go_wp2_with fail
  refine (lp_of (implFewestCabins_c l _ _ _ p _ hl1 (o1.rd fun _ => rfl)) HV.out).mono ?_
  rintro e w2 ⟨B1, e1, rfl, p2, hb2⟩
  have hz2 := hb2.size
  try simp only [World.size_alloc] at e1
  try simp only [World.size_alloc] at p2
  have hB2 : Below w1.heap.size w1 w2 := (by repeat (first | (with_reducible exact Below.refl _ _) | ((with_reducible refine alloc_ ?_ ?_); (focus (first | exact Nat.le_refl _ | (simp; done) | (simp; omega) | omega))) | ((with_reducible refine set_ ?_ ?_); (focus (first | exact Nat.le_refl _ | (simp; done) | (simp; omega) | omega))) | (with_reducible refine Below.drew ?_) | ((with_reducible refine after_ ?_ (by assumption) ?_); (rotate_left; (focus (first | exact Nat.le_refl _ | (simp; done) | (simp; omega) | omega))))))
  have hs2 := hB2.size
  have kc2 := kc1.carry hB2
  have o2 := o1.carry hB2
  go_wp2_with fail
  refine (lp_of (specFewestCabins_c l _ _ p _ hl1 (o2.rd fun _ => rfl)) HV.out).mono ?_
  rintro e w3 ⟨B2, e2, rfl, q3, hb3⟩
  have hz3 := hb3.size
  try simp only [World.size_alloc] at e2
  try simp only [World.size_alloc] at q3
  have hB3 : Below w2.heap.size w2 w3 := (by repeat (first | (with_reducible exact Below.refl _ _) | ((with_reducible refine alloc_ ?_ ?_); (focus (first | exact Nat.le_refl _ | (simp; done) | (simp; omega) | omega))) | ((with_reducible refine set_ ?_ ?_); (focus (first | exact Nat.le_refl _ | (simp; done) | (simp; omega) | omega))) | (with_reducible refine Below.drew ?_) | ((with_reducible refine after_ ?_ (by assumption) ?_); (rotate_left; (focus (first | exact Nat.le_refl _ | (simp; done) | (simp; omega) | omega))))))
  have hs3 := hB3.size
  have kc3 := kc2.carry hB3
  have o3 := o2.carry hB3
  have p3 := p2.carry hB3
  go_wp2_with fail
  refine (vInts_same L _ _ _ _ _ hG1 (p3.rd fun _ => rfl) (q3.rd fun _ => rfl)).mono ?_
  rintro e w4 ⟨rfl, hb4⟩
  have hz4 := hb4.size
  have hB4 : Below w3.heap.size w3 w4 := (by repeat (first | (with_reducible exact Below.refl _ _) | ((with_reducible refine alloc_ ?_ ?_); (focus (first | exact Nat.le_refl _ | (simp; done) | (simp; omega) | omega))) | ((with_reducible refine set_ ?_ ?_); (focus (first | exact Nat.le_refl _ | (simp; done) | (simp; omega) | omega))) | (with_reducible refine Below.drew ?_) | ((with_reducible refine after_ ?_ (by assumption) ?_); (rotate_left; (focus (first | exact Nat.le_refl _ | (simp; done) | (simp; omega) | omega))))))
  have hs4 := hB4.size
  have kc4 := kc3.carry hB4
  have o4 := o3.carry hB4
  have p4 := p3.carry hB4
  have q4 := q3.carry hB4
  go_upto_if 71 with fail
  go_cut [2] (fun s wx => s = .bool false ∧ Codes wx A n ∧ Below w.heap.size w wx)
  case first => as_aux_lemma =>
    have HB := Lib.hid (show Below w.heap.size w w4 from (by repeat (first | (with_reducible exact Below.refl _ _) | ((with_reducible refine alloc_ ?_ ?_); (focus (first | exact Nat.le_refl _ | (simp; done) | (simp; omega) | omega))) | ((with_reducible refine set_ ?_ ?_); (focus (first | exact Nat.le_refl _ | (simp; done) | (simp; omega) | omega))) | (with_reducible refine Below.drew ?_) | ((with_reducible refine after_ ?_ (by assumption) ?_); (rotate_left; (focus (first | exact Nat.le_refl _ | (simp; done) | (simp; omega) | omega)))))))
    clear hB1 hB2 hB3 hB4 q3 q4
    rcases d with _ | _
    · go_wp2_with fail
      go_meet
      exact ⟨rfl, kc4, HB.out⟩
    · obtain ⟨f1, f2, f3, f4⟩ := fewest_law HV.out
      have HF1 := Lib.hid f1
      have G2 := Lib.hid (goodC_true f1).2.1
      have G1 := (goodC_true f1).1
      have hP := p4.rd fun _ => rfl
      have hO := o4.rd fun _ => rfl
      clear f1
      go_wp2_with fail
      go_loop [9, 10, 11] (fun s t i => ∃ k : Nat, k ≤ l.length ∧ i = .int .i64 k ∧ s = .int .i64 (heldTo L l k).1 ∧ t = .int .i64 (heldTo L l k).2) (fun _ _ i => l.length - (intOf i).toNat)
      case atStart => exact ⟨0, Nat.zero_le _, rfl, rfl, rfl⟩
      case round =>
        obtain ⟨k, hk, rfl, rfl, rfl⟩ := hrel
        obtain ⟨b1, b2, b3, b4⟩ := heldTo_bd (u := L) G2.out k hk
        by_cases hlt : k < l.length
        · obtain ⟨b', off', he, hb', hc0, hc1, hc2, hc3, hc4⟩ := Cbn.rd hO hlt
          simp only [Option.some.injEq, Addr.mk.injEq, and_true] at he
          obtain ⟨rfl, rfl⟩ := he
          obtain ⟨_, ⟨s1, s2⟩, _⟩ := okC_true.1 (G2.out k hlt)
          have HS := Lib.hid (show heldTo L l (k + 1) = if hasI L (nth l k).n then ((heldTo L l k).1 + (nth l k).s, if (nth l k).s < (heldTo L l k).2 then (nth l k).s else (heldTo L l k).2) else heldTo L l k from rfl)
          obtain ⟨x, hx⟩ : ∃ x, nth l k = x := ⟨_, rfl⟩
          rw [hx] at hc0 hc1 hc2 hc3 hc4 s1 s2 HS
          rw [Nat.zero_add] at hc0 hc1 hc2 hc3 hc4
          obtain ⟨S, hS⟩ : ∃ S, heldTo L l k = S := ⟨_, rfl⟩
          rw [hS] at b1 b2 b3 b4 HS ⊢
          obtain ⟨u, t⟩ := S
          simp only at b1 b2 b3 b4
          clear hS hx
          rcases hq : hasI L x.n with _ | _
          · have HN := Lib.hid (show heldTo L l (k + 1) = (u, t) by rw [HS.out, hq]; rfl)
            have HQ := Lib.hid hq
            clear hq
            go_wp2_with fail
            refine (vHas_c L _ _ x.n _ hG1 hP).mono ?_
            rintro e w' ⟨rfl, rfl⟩
            rw [HQ.out]
            go_wp2_with fail
            go_round
            case rel => exact ⟨k + 1, by omega, by go_num, by rw [HN.out], by rw [HN.out]⟩
            case measure => simp [intOf]; omega
          · have HQ := Lib.hid hq
            have a1 : IntKind.i64.wrap (u + x.s) = u + x.s := IntWalk.i64_in _ (by omega)
            by_cases ht : x.s < t
            · have HN := Lib.hid (show heldTo L l (k + 1) = (u + x.s, x.s) by rw [HS.out, hq]; simp [ht])
              clear hq
              go_wp2_with fail
              refine (vHas_c L _ _ x.n _ hG1 hP).mono ?_
              rintro e w' ⟨rfl, rfl⟩
              rw [HQ.out]
              go_wp2_with fail
              go_round
              case rel => exact ⟨k + 1, by omega, by go_num, by rw [HN.out], by rw [HN.out]⟩
              case measure => simp [intOf]; omega
            · have HN := Lib.hid (show heldTo L l (k + 1) = (u + x.s, t) by rw [HS.out, hq]; simp [ht])
              clear hq
              go_wp2_with fail
              refine (vHas_c L _ _ x.n _ hG1 hP).mono ?_
              rintro e w' ⟨rfl, rfl⟩
              rw [HQ.out]
              go_wp2_with fail
              go_round
              case rel => exact ⟨k + 1, by omega, by go_num, by rw [HN.out], by rw [HN.out]⟩
              case measure => simp [intOf]; omega
        · obtain rfl : k = l.length := by omega
          obtain ⟨S, hS⟩ : ∃ S, heldTo L l l.length = S := ⟨_, rfl⟩
          rw [hS] at b1 b2 b3 b4 f3 f4 ⊢
          obtain ⟨u, t⟩ := S
          simp only at b1 b2 b3 b4 f3 f4
          have a1 : IntKind.i64.wrap (u - t) = u - t := IntWalk.i64_in _ (by omega)
          have a2 : decide (u < p) = false := decide_eq_false (by omega)
          clear hS
          by_cases h0 : 0 < L.length
          · have a3 : decide ((0 : Int) < L.length) = true := decide_eq_true (by omega)
            have a4 := f4 h0
            have a5 : decide (p ≤ u - t) = false := decide_eq_false (by omega)
            clear f4
            go_wp2_with fail
            go_meet
            exact ⟨rfl, kc4, HB.out⟩
          · have a3 : decide ((0 : Int) < L.length) = false := decide_eq_false (by omega)
            clear f4
            go_wp2_with fail
            go_meet
            exact ⟨rfl, kc4, HB.out⟩
  case rest => as_aux_lemma =>
    obtain ⟨rfl, kc0, hbc⟩ := hcut
    have HBC := Lib.hid hbc
    clear hbc
    obtain ⟨w0, hw0⟩ : ∃ w0, w0 = wc := ⟨_, rfl⟩
    subst hw0
    clear hb1 hb2 hb3 hb4 hB1 hB2 hB3 hB4 o1 o2 o3 o4 p2 p3 p4 q3 q4 HV kc1 kc2 kc3 kc4
    go_wp2_with fail
    refine (drawNextOut_c _ _ _ _ kc0).mono ?_
    rintro e w1 ⟨g1, c1, l, s, rfl, hcl, hl, hs, o1, hb1⟩
    have hz1 := hb1.size
    try simp only [World.size_alloc] at g1
    try simp only [World.size_alloc] at c1
    try simp only [World.size_alloc] at l
    try simp only [World.size_alloc] at s
    try simp only [World.size_alloc] at hcl
    try simp only [World.size_alloc] at hl
    try simp only [World.size_alloc] at hs
    try simp only [World.size_alloc] at o1
    have hB1 : Below w0.heap.size w0 w1 := (by repeat (first | (with_reducible exact Below.refl _ _) | ((with_reducible refine alloc_ ?_ ?_); (focus (first | exact Nat.le_refl _ | (simp; done) | (simp; omega) | omega))) | ((with_reducible refine set_ ?_ ?_); (focus (first | exact Nat.le_refl _ | (simp; done) | (simp; omega) | omega))) | (with_reducible refine Below.drew ?_) | ((with_reducible refine after_ ?_ (by assumption) ?_); (rotate_left; (focus (first | exact Nat.le_refl _ | (simp; done) | (simp; omega) | omega))))))
    have hs1 := hB1.size
    have kc1 := kc0.carry hB1
    have hl1 : l.length ≤ 1048576 := by omega
    obtain ⟨⟨v, b⟩, hv⟩ : ∃ q, nextOut l s = q := ⟨_, rfl⟩
    have HV := Lib.hid hv
    clear hv
    go_wp2_with fail
    refine (nb_of (implNextOut_c l _ _ s _ hl1 (o1.rd fun _ => rfl)) HV.out).mono ?_
    rintro e w2 ⟨rfl, hb2⟩
    have hz2 := hb2.size
    have hB2 : Below w1.heap.size w1 w2 := (by repeat (first | (with_reducible exact Below.refl _ _) | ((with_reducible refine alloc_ ?_ ?_); (focus (first | exact Nat.le_refl _ | (simp; done) | (simp; omega) | omega))) | ((with_reducible refine set_ ?_ ?_); (focus (first | exact Nat.le_refl _ | (simp; done) | (simp; omega) | omega))) | (with_reducible refine Below.drew ?_) | ((with_reducible refine after_ ?_ (by assumption) ?_); (rotate_left; (focus (first | exact Nat.le_refl _ | (simp; done) | (simp; omega) | omega))))))
    have hs2 := hB2.size
    have kc2 := kc1.carry hB2
    have o2 := o1.carry hB2
    go_wp2_with fail
    refine (nb_of (specNextOut_c l _ _ s _ hl1 (o2.rd fun _ => rfl)) HV.out).mono ?_
    rintro e w3 ⟨rfl, hb3⟩
    have hz3 := hb3.size
    have hB3 : Below w2.heap.size w2 w3 := (by repeat (first | (with_reducible exact Below.refl _ _) | ((with_reducible refine alloc_ ?_ ?_); (focus (first | exact Nat.le_refl _ | (simp; done) | (simp; omega) | omega))) | ((with_reducible refine set_ ?_ ?_); (focus (first | exact Nat.le_refl _ | (simp; done) | (simp; omega) | omega))) | (with_reducible refine Below.drew ?_) | ((with_reducible refine after_ ?_ (by assumption) ?_); (rotate_left; (focus (first | exact Nat.le_refl _ | (simp; done) | (simp; omega) | omega))))))
    have hs3 := hB3.size
    have kc3 := kc2.carry hB3
    have o3 := o2.carry hB3
    go_upto_if 144 with fail
    go_cut [2] (fun s wx => s = .bool false ∧ Codes wx A n ∧ Below w0.heap.size w0 wx)
    case first => as_aux_lemma =>
      have HB := Lib.hid (show Below w0.heap.size w0 w3 from (by repeat (first | (with_reducible exact Below.refl _ _) | ((with_reducible refine alloc_ ?_ ?_); (focus (first | exact Nat.le_refl _ | (simp; done) | (simp; omega) | omega))) | ((with_reducible refine set_ ?_ ?_); (focus (first | exact Nat.le_refl _ | (simp; done) | (simp; omega) | omega))) | (with_reducible refine Below.drew ?_) | ((with_reducible refine after_ ?_ (by assumption) ?_); (rotate_left; (focus (first | exact Nat.le_refl _ | (simp; done) | (simp; omega) | omega)))))))
      rcases b with _ | _
      · go_wp2_with fail
        go_meet
        exact ⟨rfl, kc3, HB.out⟩
      · obtain ⟨f0, f1, f2, f3, f4, f5, f6, f7⟩ := next_law HV.out
        obtain ⟨⟨C, cb⟩, hC⟩ : ∃ q, cabsIn l 0 = q := ⟨_, rfl⟩
        obtain ⟨⟨M, mb⟩, hM⟩ : ∃ q, moveC l v 1 = q := ⟨_, rfl⟩
        obtain ⟨⟨a, ab⟩, hA⟩ : ∃ q, seatsOn l = q := ⟨_, rfl⟩
        have hCl : C.length ≤ 1048576 := by
          have h1 : cabsIn l 0 = (stTo l 0 l.length, true) := by simp [cabsIn, f0, inR]
          have h2 : C = stTo l 0 l.length := by rw [hC] at h1; exact congrArg Prod.fst h1
          have := stTo_len (l := l) (t := 0) l.length
          rw [h2]; omega
        have hab : 0 ≤ a ∧ a ≤ 14 * 16 := by
          have h1 : seatsOn l = (onTo l l.length, true) := by simp [seatsOn, f0]
          have h2 : a = onTo l l.length := by rw [hA] at h1; exact congrArg Prod.fst h1
          have := onTo_bd (goodC_true f0).2.1 l.length (Nat.le_refl _)
          rw [h2]; omega
        rw [hC] at f1 f2
        rw [hA] at f4 f6
        rw [hM] at f3 f5 f6 f7
        simp only at f1 f2 f3 f4 f5 f6 f7
        obtain ⟨⟨z, zb⟩, hZ⟩ : ∃ q, seatsOn M = q := ⟨_, rfl⟩
        rw [hZ] at f5 f6
        simp only at f5 f6
        subst f1 f3 f4 f5
        have hM1 : M.length ≤ 1048576 := by omega
        have HC := Lib.hid hC
        have HM := Lib.hid hM
        have HA := Lib.hid hA
        have HZ := Lib.hid hZ
        have HF2 := Lib.hid f2
        have a1 : IntKind.i64.wrap (a + s) = a + s := IntWalk.i64_in _ (by omega)
        have a2 : decide (z < a + s) = false := decide_eq_false (by omega)
        clear hC hM hA hZ f0 f2 f7 hB1 hB2 hB3
        go_wp2_with fail
        refine (lp_of (implCabinsIn_c l _ _ 0 _ hl1 (o3.rd fun _ => rfl)) HC.out).mono ?_
        rintro e w4 ⟨B1, e1, rfl, p4, hb4⟩
        have o4 := o3.carry hb4
        go_wp2_with fail
        refine (cp_of (implMoveCabin_c l _ _ _ v 1 _ hl1 (o4.rd fun _ => rfl)) HM.out).mono ?_
        rintro e w5 ⟨B2, e2, rfl, m5, hb5⟩
        have o5 := o4.carry hb5
        have p5 := p4.carry hb5
        go_wp2_with fail
        refine (nb_of (implSeatsOnLine_c l _ _ _ hl1 (o5.rd fun _ => rfl)) HA.out).mono ?_
        rintro e w6 ⟨rfl, hb6⟩
        have m6 := m5.carry hb6
        have p6 := p5.carry hb6
        go_wp2_with fail
        refine (nb_of (implSeatsOnLine_c M _ _ _ hM1 (m6.rd fun _ => rfl)) HZ.out).mono ?_
        rintro e w7 ⟨rfl, hb7⟩
        have hp7 := (p6.carry hb7).rd fun _ => rfl
        have kc7 := (((kc3.carry hb4).carry hb5).carry hb6).carry hb7
        have z1 := HB.out.size
        have z2 := hb4.size
        have z3 := hb5.size
        have z4 := hb6.size
        have HB7 := Lib.hid ((((HB.out.trans (hb4.mono z1)).trans (hb5.mono (by omega))).trans (hb6.mono (by omega))).trans (hb7.mono (by omega)))
        clear hb4 hb5 hb6 hb7 o3 o4 o5 p4 p5 p6 m5 m6 z1 z2 z3 z4
        go_wp2_with fail
        refine (vHas_c C _ _ v _ hCl hp7).mono ?_
        rintro e w' ⟨rfl, rfl⟩
        rw [HF2.out]
        go_wp2_with fail
        go_meet
        exact ⟨rfl, kc7, HB7.out⟩
    case rest => as_aux_lemma =>
      obtain ⟨rfl, kd0, hbd⟩ := hcut
      have HBD := Lib.hid (HBC.out.trans (hbd.mono HBC.out.size))
      clear hbd HBC HV kc0 kc1 kc2 kc3 hb1 hb2 hb3 hB1 hB2 hB3 o1 o2 o3
      obtain ⟨w0, hw0⟩ : ∃ w0, w0 = wc := ⟨_, rfl⟩
      subst hw0
      go_wp2_with fail
      refine (drawWornCabins_c _ _ _ _ kd0).mono ?_
      rintro e w1 ⟨g1, c1, l, p, rfl, hcl, hl, hp, o1, hb1⟩
      have hz1 := hb1.size
      try simp only [World.size_alloc] at g1
      try simp only [World.size_alloc] at c1
      try simp only [World.size_alloc] at l
      try simp only [World.size_alloc] at p
      try simp only [World.size_alloc] at hcl
      try simp only [World.size_alloc] at hl
      try simp only [World.size_alloc] at hp
      try simp only [World.size_alloc] at o1
      have hB1 : Below w0.heap.size w0 w1 := (by repeat (first | (with_reducible exact Below.refl _ _) | ((with_reducible refine alloc_ ?_ ?_); (focus (first | exact Nat.le_refl _ | (simp; done) | (simp; omega) | omega))) | ((with_reducible refine set_ ?_ ?_); (focus (first | exact Nat.le_refl _ | (simp; done) | (simp; omega) | omega))) | (with_reducible refine Below.drew ?_) | ((with_reducible refine after_ ?_ (by assumption) ?_); (rotate_left; (focus (first | exact Nat.le_refl _ | (simp; done) | (simp; omega) | omega))))))
      have hs1 := hB1.size
      have kd1 := kd0.carry hB1
      have hl1 : l.length ≤ 1048576 := by omega
      have hG1 := worn_len (l := l) (m := p)
      obtain ⟨⟨L, d⟩, hv⟩ : ∃ q, wornC l p = q := ⟨_, rfl⟩
      rw [hv] at hG1
      simp only at hG1
      have HV := Lib.hid hv
      clear hv
      go_wp2_with fail
      refine (lp_of (implWornCabins_c l _ _ _ p _ hl1 (o1.rd fun _ => rfl)) HV.out).mono ?_
      rintro e w2 ⟨B1, e1, rfl, p2, hb2⟩
      have hz2 := hb2.size
      try simp only [World.size_alloc] at e1
      try simp only [World.size_alloc] at p2
      have hB2 : Below w1.heap.size w1 w2 := (by repeat (first | (with_reducible exact Below.refl _ _) | ((with_reducible refine alloc_ ?_ ?_); (focus (first | exact Nat.le_refl _ | (simp; done) | (simp; omega) | omega))) | ((with_reducible refine set_ ?_ ?_); (focus (first | exact Nat.le_refl _ | (simp; done) | (simp; omega) | omega))) | (with_reducible refine Below.drew ?_) | ((with_reducible refine after_ ?_ (by assumption) ?_); (rotate_left; (focus (first | exact Nat.le_refl _ | (simp; done) | (simp; omega) | omega))))))
      have hs2 := hB2.size
      have kd2 := kd1.carry hB2
      have o2 := o1.carry hB2
      go_wp2_with fail
      refine (lp_of (specWornCabins_c l _ _ p _ hl1 (o2.rd fun _ => rfl)) HV.out).mono ?_
      rintro e w3 ⟨B2, e2, rfl, q3, hb3⟩
      have hz3 := hb3.size
      try simp only [World.size_alloc] at e2
      try simp only [World.size_alloc] at q3
      have hB3 : Below w2.heap.size w2 w3 := (by repeat (first | (with_reducible exact Below.refl _ _) | ((with_reducible refine alloc_ ?_ ?_); (focus (first | exact Nat.le_refl _ | (simp; done) | (simp; omega) | omega))) | ((with_reducible refine set_ ?_ ?_); (focus (first | exact Nat.le_refl _ | (simp; done) | (simp; omega) | omega))) | (with_reducible refine Below.drew ?_) | ((with_reducible refine after_ ?_ (by assumption) ?_); (rotate_left; (focus (first | exact Nat.le_refl _ | (simp; done) | (simp; omega) | omega))))))
      have hs3 := hB3.size
      have kd3 := kd2.carry hB3
      have o3 := o2.carry hB3
      have p3 := p2.carry hB3
      go_wp2_with fail
      refine (vInts_same L _ _ _ _ _ hG1 (p3.rd fun _ => rfl) (q3.rd fun _ => rfl)).mono ?_
      rintro e w4 ⟨rfl, hb4⟩
      have hz4 := hb4.size
      have hB4 : Below w3.heap.size w3 w4 := (by repeat (first | (with_reducible exact Below.refl _ _) | ((with_reducible refine alloc_ ?_ ?_); (focus (first | exact Nat.le_refl _ | (simp; done) | (simp; omega) | omega))) | ((with_reducible refine set_ ?_ ?_); (focus (first | exact Nat.le_refl _ | (simp; done) | (simp; omega) | omega))) | (with_reducible refine Below.drew ?_) | ((with_reducible refine after_ ?_ (by assumption) ?_); (rotate_left; (focus (first | exact Nat.le_refl _ | (simp; done) | (simp; omega) | omega))))))
      have hs4 := hB4.size
      have kd4 := kd3.carry hB4
      have o4 := o3.carry hB4
      have p4 := p3.carry hB4
      have q4 := q3.carry hB4
      go_wp2_with fail
      refine (drawCabinLoad_c _ _ _ _ kd4).mono ?_
      rintro e w5 ⟨x, s, rfl, hb5⟩
      have hz5 := hb5.size
      try simp only [World.size_alloc] at x
      try simp only [World.size_alloc] at s
      have hB5 : Below w4.heap.size w4 w5 := (by repeat (first | (with_reducible exact Below.refl _ _) | ((with_reducible refine alloc_ ?_ ?_); (focus (first | exact Nat.le_refl _ | (simp; done) | (simp; omega) | omega))) | ((with_reducible refine set_ ?_ ?_); (focus (first | exact Nat.le_refl _ | (simp; done) | (simp; omega) | omega))) | (with_reducible refine Below.drew ?_) | ((with_reducible refine after_ ?_ (by assumption) ?_); (rotate_left; (focus (first | exact Nat.le_refl _ | (simp; done) | (simp; omega) | omega))))))
      have hs5 := hB5.size
      have kd5 := kd4.carry hB5
      have o5 := o4.carry hB5
      have p5 := p4.carry hB5
      have q5 := q4.carry hB5
      obtain ⟨⟨v, vb⟩, hv2⟩ : ∃ q, loadC x s = q := ⟨_, rfl⟩
      have HV2 := Lib.hid hv2
      clear hv2
      go_wp2_with fail
      refine (nb_of (implCabinLoad_c x s _) HV2.out).mono ?_
      rintro e w6 ⟨rfl, hb6⟩
      have hz6 := hb6.size
      have hB6 : Below w5.heap.size w5 w6 := (by repeat (first | (with_reducible exact Below.refl _ _) | ((with_reducible refine alloc_ ?_ ?_); (focus (first | exact Nat.le_refl _ | (simp; done) | (simp; omega) | omega))) | ((with_reducible refine set_ ?_ ?_); (focus (first | exact Nat.le_refl _ | (simp; done) | (simp; omega) | omega))) | (with_reducible refine Below.drew ?_) | ((with_reducible refine after_ ?_ (by assumption) ?_); (rotate_left; (focus (first | exact Nat.le_refl _ | (simp; done) | (simp; omega) | omega))))))
      have hs6 := hB6.size
      have kd6 := kd5.carry hB6
      have o6 := o5.carry hB6
      have p6 := p5.carry hB6
      have q6 := q5.carry hB6
      have l6_0 : w5.heap.size < w6.heap.size := by first | omega | (simp at hz6; omega)
      have c6_0 := fun o => hb6.cell (p := ⟨w5.heap.size, o, none⟩) (by first | omega | (simp; done) | (simp; omega))
      have f6_0 := fun o => hb6.frozen (p := ⟨w5.heap.size, o, none⟩) (by first | omega | (simp; done) | (simp; omega))
      go_wp2_with fail
      refine (nb_of (specCabinLoad_c x s _) HV2.out).mono ?_
      rintro e w7 ⟨rfl, hb7⟩
      have hz7 := hb7.size
      have hB7 : Below w6.heap.size w6 w7 := (by repeat (first | (with_reducible exact Below.refl _ _) | ((with_reducible refine alloc_ ?_ ?_); (focus (first | exact Nat.le_refl _ | (simp; done) | (simp; omega) | omega))) | ((with_reducible refine set_ ?_ ?_); (focus (first | exact Nat.le_refl _ | (simp; done) | (simp; omega) | omega))) | (with_reducible refine Below.drew ?_) | ((with_reducible refine after_ ?_ (by assumption) ?_); (rotate_left; (focus (first | exact Nat.le_refl _ | (simp; done) | (simp; omega) | omega))))))
      have hs7 := hB7.size
      have kd7 := kd6.carry hB7
      have o7 := o6.carry hB7
      have p7 := p6.carry hB7
      have q7 := q6.carry hB7
      have l7_0 : w5.heap.size < w7.heap.size := by first | omega | (simp at hz7; omega)
      have c7_0 := fun o => hb7.cell (p := ⟨w5.heap.size, o, none⟩) (by first | omega | (simp; done) | (simp; omega))
      have f7_0 := fun o => hb7.frozen (p := ⟨w5.heap.size, o, none⟩) (by first | omega | (simp; done) | (simp; omega))
      have HLd := Lib.hid (fun (h : vb = true) => load_law (x := x) (p := s) (v := v) (by rw [HV2.out, h]))
      have HE := Lib.hid (HBD.out.trans (Below.mono (B := w0.heap.size) (show Below w0.heap.size w0 w7 from (by repeat (first | (with_reducible exact Below.refl _ _) | ((with_reducible refine alloc_ ?_ ?_); (focus (first | exact Nat.le_refl _ | (simp; done) | (simp; omega) | omega))) | ((with_reducible refine set_ ?_ ?_); (focus (first | exact Nat.le_refl _ | (simp; done) | (simp; omega) | omega))) | (with_reducible refine Below.drew ?_) | ((with_reducible refine after_ ?_ (by assumption) ?_); (rotate_left; (focus (first | exact Nat.le_refl _ | (simp; done) | (simp; omega) | omega))))))) HBD.out.size))
      rcases vb with _ | _
      · skip
        go_wp2_with fail
        refine (drawSeatsOnLine_c _ _ _ _ kd7).mono ?_
        rintro e w8 ⟨g2, c2, l2, rfl, hc2, hl2, t8, hb8⟩
        have hl3 : l2.length ≤ 1048576 := by omega
        obtain ⟨⟨sv, sb⟩, hS⟩ : ∃ q, seatsOn l2 = q := ⟨_, rfl⟩
        have HS := Lib.hid hS
        have HGD := Lib.hid (show goodC l2 = sb by have h := seatsOn_told (l := l2); rw [hS] at h; exact h.symm)
        have HE8 := Lib.hid (HE.out.trans (hb8.mono HE.out.size))
        clear hS hl2 hb8
        go_wp2_with fail
        refine (nb_of (implSeatsOnLine_c l2 _ _ _ hl3 (t8.rd fun _ => rfl)) HS.out).mono ?_
        rintro e w9 ⟨rfl, hb9⟩
        have t9 := t8.carry hb9
        have HE9 := Lib.hid (HE8.out.trans (hb9.mono HE8.out.size))
        clear hb9
        go_wp2_with fail
        refine (nb_of (specSeatsOnLine_c l2 _ _ _ hl3 (t9.rd fun _ => rfl)) HS.out).mono ?_
        rintro e wa ⟨rfl, hba⟩
        have ta := t9.carry hba
        have HEa := Lib.hid (HE9.out.trans (hba.mono HE9.out.size))
        clear hba
        rcases sb with _ | _
        · go_wp2_with fail
          refine (b_of (AreCabins_c l2 _ _ _ hl3 (ta.rd fun _ => rfl)) HGD.out).mono ?_
          rintro e wb ⟨rfl, hbb⟩
          have HEb := Lib.hid (HEa.out.trans (hbb.mono HEa.out.size))
          clear hbb
          go_wp2_with fail
          go_ret
          exact ⟨rfl, HEb.out⟩
        · go_wp2_with fail
          refine (b_of (AreCabins_c l2 _ _ _ hl3 (ta.rd fun _ => rfl)) HGD.out).mono ?_
          rintro e wb ⟨rfl, hbb⟩
          have HEb := Lib.hid (HEa.out.trans (hbb.mono HEa.out.size))
          clear hbb
          go_wp2_with fail
          go_ret
          exact ⟨rfl, HEb.out⟩
      · have hld := HLd.out rfl
        have a2 : decide (v < x.e) = false := decide_eq_false (by omega)
        clear hld
        go_wp2_with fail
        refine (drawSeatsOnLine_c _ _ _ _ kd7).mono ?_
        rintro e w8 ⟨g2, c2, l2, rfl, hc2, hl2, t8, hb8⟩
        have hl3 : l2.length ≤ 1048576 := by omega
        obtain ⟨⟨sv, sb⟩, hS⟩ : ∃ q, seatsOn l2 = q := ⟨_, rfl⟩
        have HS := Lib.hid hS
        have HGD := Lib.hid (show goodC l2 = sb by have h := seatsOn_told (l := l2); rw [hS] at h; exact h.symm)
        have HE8 := Lib.hid (HE.out.trans (hb8.mono HE.out.size))
        clear hS hl2 hb8
        go_wp2_with fail
        refine (nb_of (implSeatsOnLine_c l2 _ _ _ hl3 (t8.rd fun _ => rfl)) HS.out).mono ?_
        rintro e w9 ⟨rfl, hb9⟩
        have t9 := t8.carry hb9
        have HE9 := Lib.hid (HE8.out.trans (hb9.mono HE8.out.size))
        clear hb9
        go_wp2_with fail
        refine (nb_of (specSeatsOnLine_c l2 _ _ _ hl3 (t9.rd fun _ => rfl)) HS.out).mono ?_
        rintro e wa ⟨rfl, hba⟩
        have ta := t9.carry hba
        have HEa := Lib.hid (HE9.out.trans (hba.mono HE9.out.size))
        clear hba
        rcases sb with _ | _
        · go_wp2_with fail
          refine (b_of (AreCabins_c l2 _ _ _ hl3 (ta.rd fun _ => rfl)) HGD.out).mono ?_
          rintro e wb ⟨rfl, hbb⟩
          have HEb := Lib.hid (HEa.out.trans (hbb.mono HEa.out.size))
          clear hbb
          go_wp2_with fail
          go_ret
          exact ⟨rfl, HEb.out⟩
        · go_wp2_with fail
          refine (b_of (AreCabins_c l2 _ _ _ hl3 (ta.rd fun _ => rfl)) HGD.out).mono ?_
          rintro e wb ⟨rfl, hbb⟩
          have HEb := Lib.hid (HEa.out.trans (hbb.mono HEa.out.size))
          clear hbb
          go_wp2_with fail
          go_ret
          exact ⟨rfl, HEb.out⟩
namespace fnSeats
set_option linter.unusedVariables false
theorem own : ownKnob Try.prog.godebug = none := by kernel_rfl
theorem laidOut : laidOutB Try.prog = true := by kernel_rfl
set_option maxRecDepth 100000 in
theorem lifted (os : Os) (started : os.Started) (H : Type) (enc : TypeId × Value → H) :
    ReturnsInHanded {} Try.checked os 3 .any (Rows.fnSeatsSpec.pre6 enc Try.prog Try.f3 Rows.fnSeatsRow.domain false) (Rows.fnSeatsSpec.post enc Try.prog Try.f3 false true false false) := by
  refine returnsInHanded_of_change (C := Try.checked) own started (by kernel_rfl) Try.func3
    (ChangeSpec.witness6 (enc := enc) (C := Try.checked) false ⟨#[], #[.slice none 0 0], []⟩ 8 (by kernel_rfl) (by kernel_rfl) (by kernel_rfl) (by kernel_rfl)) ?_
  intro W base args ds gs before hval0 hW hcnd _
  have hval : ∀ (j : Nat) t v, Try.f3.params[j]? = some t → args[j]? = some v → Value.okWide Try.prog W .any base t v := hval0
  have hW' := hW
  obtain ⟨p, q, hA0, hV, rfl, hfz, hnd⟩ := hW
  have hA : DataW.TrodAll enc Try.prog W 0 (fun _ => true) true Try.f3.params.toList args.toList ds p := hA0
  rw [Try.params3] at hA hval
  obtain ⟨v0, vs0, d0, ds0, p0, q0, hargs, rfl, rfl, h0, r0⟩ := trodAll_cons hA
  obtain ⟨rfl, rfl, rfl⟩ := trodAll_nil r0
  obtain rfl : args = #[v0] := by cases args; simp_all
  obtain ⟨rfl, rfl⟩ := trodVars_none hV
  have k0 := h0
  have lt0 : ∀ x ∈ p0, x.block < W.heap.size := by obtain ⟨m, hm⟩ := k0; exact DataW.trod_lt m _ _ _ hm
  obtain ⟨a0, len0, cap0, rfl⟩ := okWide_slice Try.underlying22 (hval 0 22 v0 rfl rfl)
  obtain ⟨code, w0⟩ := open_byteS Try.underlying22 Try.underlying5 (by kernel_rfl) h0
  clear hA0 hval0
  refine (lawSeats code a0 len0 cap0 W w0).mono fun e W' ⟨he, bel⟩ => ?_
  subst he
  exact ⟨_, rfl, _, _, _, [], _, [], hW', trodAll_mk1 (shut_bool Try.underlying4 _), (trodAll_cons_mk (Below.trod laidOut (by kernel_rfl) (of_decide_eq_true (by kernel_rfl)) k0 bel lt0) trodAll_mk0), rfl, bel.frame _, fun h => by cases h⟩
theorem over : Rows.fnSeatsRow.holds Try.pinned (OpenSpec.ofChange Rows.fnSeatsSpec) :=
  OpenClaim.holds_of_wide 3 Try.f3 rfl rfl rfl rfl rfl rfl rfl ⟨rfl, rfl, rfl, rfl, rfl⟩ rfl rfl rfl rfl rfl (by kernel_rfl) Try.func3 (by kernel_rfl)
    (of_decide_eq_true (by kernel_rfl)) (by unfold Func.isWrapper; first | (rw [if_pos (by decide +kernel)]; kernel_rfl) | (rw [if_neg (by decide +kernel)]; exact ⟨rfl, rfl⟩))
    (fun os started H enc _ => lifted os started H enc)
/-- The given statement. -/
theorem proved : Rows.FnSeatsSaid := over
#print axioms proved
end fnSeats
end Go.Proofs.Ytcmbbhdoienkoaa
