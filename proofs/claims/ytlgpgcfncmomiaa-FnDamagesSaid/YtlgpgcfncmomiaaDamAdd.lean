/- A damage is put into its place among others: the search for the place, and what is written there; no conditions but that the damages are valid. -/
import Derived.Test.YtlgpgcfncmomiaaDamInsRoom
import Derived.Test.YtlgpgcfncmomiaaDamSpec
namespace Go.Proofs.Ytlgpgcfncmomiaa
open Go.RowKit

theorem ltD_true {x y : Dam} : ltD x y = true ↔ x.a < y.a ∨ x.a = y.a ∧ x.s < y.s := by simp [ltD]
theorem ltD_false {x y : Dam} : ltD x y = false ↔ y.a < x.a ∨ x.a = y.a ∧ y.s ≤ x.s := by
  rw [← Bool.not_eq_true, ltD_true]; omega
theorem scanD_eq {x : Dam} : ∀ {l : List Dam} {k : Nat}, k ≤ l.length → (∀ j, j < k → ltD (nth l j) x = true) → (k < l.length → ltD (nth l k) x = false) → scanD l x = k
  | [], k, h, _, _ => by simp at h; subst h; rfl
  | y :: l, 0, _, _, h2 => by
    have h := h2 (by simp)
    have h' : ltD y x = false := by simpa [nth] using h
    simp [scanD, h']
  | y :: l, k + 1, h, h1, h2 => by
    have hy : ltD y x = true := by have h := h1 0 (by omega); simpa [nth] using h
    have ih := scanD_eq (l := l) (k := k) (by simpa using h) (fun j hj => by have h := h1 (j + 1) (by omega); simpa [nth] using h) (fun hk => by have h := h2 (by simpa using hk); simpa [nth] using h)
    unfold scanD at ih ⊢
    rw [List.takeWhile_cons, if_pos hy, List.length_cons, ih]
theorem good_leD {k : Kin} {l : List Dam} (h : goodD k l = true) : ∀ {i j : Nat}, i ≤ j → j < l.length → (nth l i).a < (nth l j).a ∨ (nth l i).a = (nth l j).a ∧ (nth l i).s ≤ (nth l j).s := fun {i j} hij hj => by
  induction j with
  | zero =>
    obtain rfl : i = 0 := by omega
    exact .inr ⟨rfl, Int.le_refl _⟩
  | succ j ih =>
    by_cases e : i = j + 1
    · subst e; exact .inr ⟨rfl, Int.le_refl _⟩
    · have h1 := ih (by omega) (by omega)
      have h2 := ltD_true.1 ((goodD_true h).2.2.2 j hj)
      omega
theorem ltD_before {k : Kin} {l : List Dam} {x : Dam} (h : goodD k l = true) {i j : Nat} (hij : i ≤ j) (hj : j < l.length) (hx : ltD (nth l j) x = true) : ltD (nth l i) x = true := by
  have h1 := good_leD h hij hj
  rw [ltD_true] at hx ⊢
  omega
theorem ltD_behind {k : Kin} {l : List Dam} {x : Dam} (h : goodD k l = true) {i j : Nat} (hij : i ≤ j) (hj : j < l.length) (hx : ltD (nth l i) x = false) : ltD (nth l j) x = false := by
  have h1 := good_leD h hij hj
  rw [ltD_false] at hx ⊢
  omega
theorem orI_zero {x y : Int} : orI x y = 0 ↔ x = 0 ∧ y = 0 := by unfold orI; split <;> omega
theorem cmpD_zero {x y : Dam} : (cmpD x y == 0) = sameD x y := by
  rw [Bool.eq_iff_iff]
  unfold cmpD sameD
  simp [orI_zero, cmpI_zero]
def FoundD (l : List Dam) (x : Dam) (w : World) (e : Ending) (w' : World) : Prop := e = .returned (.tuple #[.int .i64 (scanD l x), .bool (knownD l x)]) ∧ Below w.heap.size w w'
set_option maxHeartbeats 1600000 in
theorem searchD_c (k : Kin) (l : List Dam) (x : Dam) (A : Option Addr) (cap : Nat) (w : World) (hg : goodD k l = true) (hr : Rd w w.heap.size 3 Dam.cells A l) :
    Calls Try.prog 24 #[.slice A l.length cap, .agg #[.int .i64 x.a, .int .i64 x.s, .int .i64 x.w], .func (.func 25) #[] #[]] w (FoundD l x w) := by
  have hl8 := (goodD_true hg).2.1
  have HG := Lib.hid hg
  have hX := Box.new w x.cells 28
  have HX := Lib.hid hX
  clear hg hX
  go_enter Try.func24, Try.ntmps24
  go_wp2_with fail
  go_loopw [9, 10, 11] (fun i j _ wr => ∃ a b : Nat, a ≤ b ∧ b ≤ l.length ∧ i = .int .i64 a ∧ j = .int .i64 b ∧ (∀ k, k < a → ltD (nth l k) x = true) ∧ (∀ k, b ≤ k → k < l.length → ltD (nth l k) x = false) ∧ Below w.heap.size w wr ∧ Box wr w.heap.size 28 3 x.cells) (fun i j _ _ => (intOf j).toNat - (intOf i).toNat)
  case atStart => exact ⟨0, l.length, Nat.zero_le _, Nat.le_refl _, rfl, rfl, fun k hk => absurd hk (by omega), fun k h1 h2 => absurd h1 (by omega), (by repeat (first | (with_reducible exact Below.refl _ _) | ((with_reducible refine alloc_ ?_ ?_); (focus (first | exact Nat.le_refl _ | (simp; done) | (simp; omega) | omega))) | ((with_reducible refine set_ ?_ ?_); (focus (first | exact Nat.le_refl _ | (simp; done) | (simp; omega) | omega))) | (with_reducible refine Below.drew ?_) | ((with_reducible refine after_ ?_ (by assumption) ?_); (rotate_left; (focus (first | exact Nat.le_refl _ | (simp; done) | (simp; omega) | omega)))))), HX.out⟩
  case round =>
    obtain ⟨a, b, hab, hbl, rfl, rfl, hlo, hhi, hbel, hbx⟩ := hrel
    have HB := Lib.hid hbel
    have HLo := Lib.hid hlo
    have HHi := Lib.hid hhi
    have HBx := Lib.hid hbx
    have z1 := hbel.size
    clear hlo hhi
    by_cases hlt : a < b
    · obtain ⟨h, hh⟩ : ∃ h, (a + b) / 2 = h := ⟨_, rfl⟩
      have hah : a ≤ h := by omega
      have hhb : h < b := by omega
      have he : ((a : Int) + (b : Int)) / 2 = (h : Int) := by omega
      obtain ⟨bk, off, rfl, hb1, hc0, hc1, hc2⟩ := Dam.rd (hr.below hbel (Nat.le_refl _)) (show h < l.length by omega)
      have x0 := hbx.cell (j := 0) rfl
      have x1 := hbx.cell (j := 1) rfl
      have x2 := hbx.cell (j := 2) rfl
      have l1 : bk < wr.heap.size := by omega
      have l2 := hbx.lt
      have i1 : (0 : Int) ≤ (h : Int) := by omega
      have i2 : (h : Int) < l.length := by omega
      clear hbel hbx hh
      rcases hlx : ltD (nth l h) x with _ | _
      · have hc : decide (cmpD (nth l h) x < 0) = false := by rw [← cmpD_lt]; exact hlx
        have H1 := Lib.hid (show ∀ k, h ≤ k → k < l.length → ltD (nth l k) x = false from fun k h1 h2 => ltD_behind HG.out h1 h2 hlx)
        go_wp2_with fail
        refine wp_region_mem (by kernel_rfl) (by kernel_rfl) ?_
        repeat (go_big_quiet_step (((go_at_call 25); exact mem_of (compareDamages_c (nth l h) x _))))
        refine wpQuiet_nil ?_
        intro _ hw'
        obtain ⟨⟨wq, hbq⟩, hw''⟩ := hw'
        obtain rfl := hw''.symm
        obtain ⟨hcq, hfq, hzq⟩ := bcell hbq
        try simp [Nat.add_one_le_iff] at hzq
        go_wp2_with fail
        go_roundw
        case rel => exact ⟨a, h, by omega, by omega, rfl, by go_num, HLo.out, H1.out, HB.out.trans (hbq.mono z1), HBx.out.carry hbq⟩
        case measure => simp [intOf]; omega
      · have hc : decide (cmpD (nth l h) x < 0) = true := by rw [← cmpD_lt]; exact hlx
        have H1 := Lib.hid (show ∀ k, k < h + 1 → ltD (nth l k) x = true from fun k hk => ltD_before HG.out (show k ≤ h by omega) (by omega) hlx)
        go_wp2_with fail
        refine wp_region_mem (by kernel_rfl) (by kernel_rfl) ?_
        repeat (go_big_quiet_step (((go_at_call 25); exact mem_of (compareDamages_c (nth l h) x _))))
        refine wpQuiet_nil ?_
        intro _ hw'
        obtain ⟨⟨wq, hbq⟩, hw''⟩ := hw'
        obtain rfl := hw''.symm
        obtain ⟨hcq, hfq, hzq⟩ := bcell hbq
        try simp [Nat.add_one_le_iff] at hzq
        go_wp2_with fail
        go_roundw
        case rel => exact ⟨h + 1, b, by omega, hbl, by go_num, rfl, H1.out, HHi.out, HB.out.trans (hbq.mono z1), HBx.out.carry hbq⟩
        case measure => simp [intOf]; omega
    · obtain rfl : a = b := by omega
      have HS := Lib.hid (scanD_eq (l := l) (x := x) (k := a) hbl HLo.out fun h => HHi.out a (Nat.le_refl _) h)
      by_cases hal : a < l.length
      · obtain ⟨bk, off, rfl, hb1, hc0, hc1, hc2⟩ := Dam.rd (hr.below hbel (Nat.le_refl _)) hal
        have x0 := hbx.cell (j := 0) rfl
        have x1 := hbx.cell (j := 1) rfl
        have x2 := hbx.cell (j := 2) rfl
        have l1 : bk < wr.heap.size := by omega
        have l2 := hbx.lt
        have i1 : (0 : Int) ≤ (a : Int) := by omega
        have i2 : (a : Int) < l.length := by omega
        have HK := Lib.hid (show knownD l x = (cmpD (nth l a) x == 0) by rw [cmpD_zero]; unfold knownD; rw [HS.out]; simp [hal])
        clear hbel hbx
        go_wp2_with fail
        refine wp_region_mem (by kernel_rfl) (by kernel_rfl) ?_
        repeat (go_big_quiet_step (((go_at_call 25); exact mem_of (compareDamages_c (nth l a) x _))))
        refine wpQuiet_nil ?_
        intro _ hw'
        obtain ⟨⟨wq, hbq⟩, hw''⟩ := hw'
        obtain rfl := hw''.symm
        obtain ⟨hcq, hfq, hzq⟩ := bcell hbq
        try simp [Nat.add_one_le_iff] at hzq
        go_wp2_with fail
        go_ret2
        exact ⟨by rw [HS.out, HK.out]; rfl, HB.out.trans (hbq.mono z1)⟩
      · have HK := Lib.hid (show knownD l x = false by unfold knownD; rw [HS.out]; simp [hal])
        clear hbel hbx
        go_wp2_with fail
        refine wp_region_mem (by kernel_rfl) (by kernel_rfl) ?_
        repeat (go_big_quiet_step (fail))
        refine wpQuiet_nil ?_
        intro _ hw'
        obtain ⟨⟨wq, hbq⟩, hw''⟩ := hw'
        obtain rfl := hw''.symm
        obtain ⟨hcq, hfq, hzq⟩ := bcell hbq
        try simp [Nat.add_one_le_iff] at hzq
        go_wp2_with fail
        go_ret2
        exact ⟨by rw [HS.out, HK.out]; rfl, HB.out.trans (hbq.mono z1)⟩
theorem Own.put {α : Type} [Inhabited α] {w : World} {base k g i j : Nat} {T : TypeId} {cells : α → List Value} {l : List α} {y : α} {u : Value} (h : Own w base T k cells (some ⟨g, 0, none⟩) l) (hi : i < l.length) (hj : j < k)
    (hy : ∀ j' v, j' < k → (cells y)[j']? = some v → if j' = j then v = u else (cells (nth l i))[j']? = some v) :
    Own (w.setCell ⟨g, i * k + j, none⟩ u) base T k cells (some ⟨g, 0, none⟩) (l.set i y) ∧ w.frozen? ⟨g, i * k + j, none⟩ = false ∧ base ≤ g ∧ g < w.heap.size := by
  obtain ⟨g', N, f, he, hg, hN, hf, hc⟩ := h (by omega)
  simp only [Option.some.injEq, Addr.mk.injEq, and_true] at he
  subst he
  refine ⟨fun _ => ⟨g, N, _, rfl, hg, by simpa using hN, hf.set (i * k + j) u, fun i' hi' j' v hj' hv => ?_⟩, hf.frozen _, hg, hf.lt⟩
  simp only [List.length_set] at hi'
  by_cases e : i' = i
  · subst e
    rw [show nth (l.set i' y) i' = y by simp [nth, hi']] at hv
    have h1 := hy j' v hj' hv
    by_cases e2 : j' = j
    · subst e2
      rw [if_pos rfl] at h1 ⊢
      exact h1.symm
    · rw [if_neg e2] at h1
      rw [if_neg (by omega)]
      exact hc i' hi' j' v hj' h1
  · rw [show nth (l.set i y) i' = nth l i' by simp [nth, List.getD_eq_getElem?_getD, List.getElem?_set_ne (fun h => e h.symm)]] at hv
    have : i' * k + j' ≠ i * k + j := fun h => by
      rcases Nat.lt_or_gt_of_ne e with h1 | h1
      · have := Nat.mul_le_mul_right k (show i' + 1 ≤ i by omega)
        rw [Nat.add_mul] at this; omega
      · have := Nat.mul_le_mul_right k (show i + 1 ≤ i' by omega)
        rw [Nat.add_mul] at this; omega
    rw [if_neg this]
    exact hc i' hi' j' v hj' hv
theorem putD_set {l : List Dam} {d : Dam} (h : knownD l d = true) : putD l d = l.set (scanD l d) ⟨d.a, d.s, (nth l (scanD l d)).w + d.w⟩ := by
  have h1 : scanD l d < l.length := by simp only [knownD, Bool.and_eq_true, decide_eq_true_eq] at h; exact h.1
  unfold putD
  rw [if_pos h, List.set_eq_take_append_cons_drop, if_pos h1]
theorem putD_ins {l : List Dam} {d : Dam} (h : knownD l d = false) : putD l d = l.take (scanD l d) ++ d :: l.drop (scanD l d) := by
  unfold putD
  rw [h, if_neg (by simp)]
end Go.Proofs.Ytlgpgcfncmomiaa
