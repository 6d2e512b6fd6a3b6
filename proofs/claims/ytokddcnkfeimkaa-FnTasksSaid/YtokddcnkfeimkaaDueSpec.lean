/- The reference's plan by due returns the plain rounds' answer; no conditions but the length. -/
import Derived.Test.YtokddcnkfeimkaaDueImpl
import Derived.Test.YtokddcnkfeimkaaHasI
import Derived.Test.YtokddcnkfeimkaaRise
import Derived.Test.YtokddcnkfeimkaaBusy
namespace Go.Proofs.Ytokddcnkfeimkaa
open Go.RowKit

/-- The tasks that were picked, in the order of the rounds. -/
def picksD (l : List Tsk) : Nat → List Int
  | 0 => []
  | r + 1 => picksD l r ++ [(pickD l (roundsD l r) : Int)]
def doneD (l : List Tsk) (r : Nat) : List Int := isort (picksD l r)
theorem picksD_len {l : List Tsk} : ∀ r, (picksD l r).length = r
  | 0 => rfl
  | r + 1 => by rw [picksD, List.length_append, picksD_len r]; rfl
theorem doneD_len {l : List Tsk} {r : Nat} : (doneD l r).length = r := by rw [doneD, isort_len, picksD_len]
theorem round_at {l : List Tsk} (hg : ∀ i, i < l.length → okK (nth l i) = true) {r : Nat} (hr : r < l.length) {i : Nat} (hi : i < l.length) : nth (roundsD l (r + 1)).1 i = if pickD l (roundsD l r) = i then dayD l (roundsD l r) else nth (roundsD l r).1 i := by
  have hD := due_rounds hg r (by omega)
  show nth ((roundsD l r).1.set _ _) i = _
  rw [nth_setI (by rw [hD.len]; exact hi)]
theorem picks_mem {l : List Tsk} (hg : ∀ i, i < l.length → okK (nth l i) = true) : ∀ r, r ≤ l.length → ∀ i, i < l.length → ((i : Int) ∈ picksD l r ↔ 0 ≤ nth (roundsD l r).1 i)
  | 0, _, i, hi => by
    rw [show (roundsD l 0).1 = List.replicate l.length (-1) from rfl, nth_replicate hi]
    simp [picksD]
  | r + 1, hr, i, hi => by
    have ih := picks_mem hg r (by omega) i hi
    obtain ⟨p1, _, p3, p4, _⟩ := due_pick hg (due_rounds hg r (by omega)) (by omega)
    rw [round_at hg (by omega) hi, picksD, List.mem_append, ih]
    by_cases e : pickD l (roundsD l r) = i
    · subst e; simp; omega
    · rw [if_neg e]
      simp only [List.mem_singleton]
      constructor
      · rintro (h | h)
        · exact h
        · omega
      · exact fun h => .inl h
theorem has_done {l : List Tsk} (hg : ∀ i, i < l.length → okK (nth l i) = true) {r : Nat} (hr : r ≤ l.length) {i : Nat} (hi : i < l.length) : hasI (doneD l r) i = decide (0 ≤ nth (roundsD l r).1 i) := by
  unfold hasI doneD
  rw [decide_eq_decide, isort_mem]
  exact picks_mem hg r hr i hi
theorem picks_fresh {l : List Tsk} (hg : ∀ i, i < l.length → okK (nth l i) = true) {r : Nat} (hr : r < l.length) : (pickD l (roundsD l r) : Int) ∉ picksD l r := fun h => by
  obtain ⟨p1, _, p3, _, _⟩ := due_pick hg (due_rounds hg r (by omega)) hr
  have := (picks_mem hg r (by omega) _ p1).1 h
  omega
theorem picks_fall {l : List Tsk} (hg : ∀ i, i < l.length → okK (nth l i) = true) : ∀ r, r ≤ l.length → Falling (isQ (picksD l r))
  | 0, _ => by simp [picksD, isQ, Falling]
  | r + 1, hr => by
    rw [picksD, isQ_snoc]
    exact insQ_falling (picks_fall hg r (by omega)) fun h => picks_fresh hg (by omega) ((isQ_mem _ _).1 h)
theorem done_put {l : List Tsk} (hg : ∀ i, i < l.length → okK (nth l i) = true) {r : Nat} (hr : r < l.length) : ∃ k, Places (doneD l r) (pickD l (roundsD l r)) k ∧ doneD l (r + 1) = (doneD l r).take k ++ [(pickD l (roundsD l r) : Int)] ++ (doneD l r).drop k := by
  obtain ⟨k, h1, h2⟩ := places (picks_fall hg r (by omega)) (fun h => picks_fresh hg hr ((isQ_mem _ _).1 h))
  refine ⟨k, h1, ?_⟩
  rw [doneD, picksD, isort, isQ_snoc]
  exact h2
/-- The reference's list: zeros where nothing is planned yet. -/
def zer (p : List Int) : List Int := p.map fun x => if x < 0 then 0 else x
theorem zer_len {p : List Int} : (zer p).length = p.length := by simp [zer]
theorem zer_set {p : List Int} {i : Nat} {v : Int} (hv : 0 ≤ v) : (zer p).set i v = zer (p.set i v) := by
  unfold zer; rw [List.map_set, if_neg (by omega)]
theorem zer_0 {n : Nat} : zer (List.replicate n (-1)) = List.replicate n 0 := by simp [zer]
theorem zer_end {p : List Int} (h : ∀ i, i < p.length → 0 ≤ nth p i) : zer p = p := by
  refine list_nth' zer_len fun i hi => ?_
  rw [zer_len] at hi
  have := h i hi
  rw [nth_eq hi] at this ⊢
  rw [nth_eq (by rw [zer_len]; exact hi)]
  simp [zer]; omega
set_option maxHeartbeats 3200000 in
/-- Block g holds the numbers of o, and nothing else. -/
def ArrX (w : World) (g : Nat) (o : List Int) : Prop := ∃ f, w.rowIs g 3 o.length f ∧ ∀ i, i < o.length → f i = .int .i64 (nth o i)
section
variable {w w' : World} {g B base : Nat} {o : List Int}
theorem ArrX.arr (h : ArrX w g o) : Arr w g o := by
  obtain ⟨f, hf, hc⟩ := h
  exact ⟨o.length, f, Nat.le_refl _, hf, hc⟩
theorem ArrX.cell (h : ArrX w g o) {i : Nat} (hi : i < o.length) : w.cell? ⟨g, i, none⟩ = some (.int .i64 (nth o i)) := h.arr.cell hi
theorem ArrX.frozen (h : ArrX w g o) (i : Nat) : w.frozen? ⟨g, i, none⟩ = false := h.arr.frozen i
theorem ArrX.lt (h : ArrX w g o) : g < w.heap.size := h.arr.lt
theorem ArrX.carry (h : ArrX w g o) (hb : Below w.heap.size w w') : ArrX w' g o := by
  obtain ⟨f, hf, hc⟩ := h
  exact ⟨f, hf.of_block (hb.block g hf.lt), hc⟩
theorem ArrX.set (h : ArrX w g o) (i : Nat) (v : Int) : ArrX (w.setCell ⟨g, i, none⟩ (.int .i64 v)) g (o.set i v) := by
  obtain ⟨f, hf, hc⟩ := h
  refine ⟨_, by rw [List.length_set]; exact hf.set i (.int .i64 v), fun j hj => ?_⟩
  simp only [List.length_set] at hj
  rw [nth_setI hj]
  by_cases e : j = i
  · rw [if_pos e, if_pos e.symm]
  · rw [if_neg e, if_neg (fun x => e x.symm), hc j hj]
theorem ArrX.made (w : World) (n : Nat) (g : Nat) (hg : g = w.heap.size) : ArrX (w.alloc (.cells (madeCells #[.int .i64 0] n) 3)) g (List.replicate n 0) := by
  subst hg
  refine ⟨fun _ => .int .i64 0, by rw [List.length_replicate]; exact World.rowIs_made w (.int .i64 0) n 3, fun i hi => ?_⟩
  simp only [List.length_replicate] at hi
  simp [nth, hi]
/-- Such a block as a slice that can be appended to. -/
theorem ArrX.owns (h : ArrX w g o) (hb : base ≤ g) (hl : o.length ≤ 1048576) : w.ownsRow base 3 1 (.slice (some ⟨g, 0, none⟩) o.length o.length) o.length (o.map (Value.int .i64)) := by
  obtain ⟨f, ⟨cur, hh, hs, hf⟩, hc⟩ := h
  refine ⟨by simp, .inr ⟨g, o.length, cur, rfl, hb, hh, Nat.le_refl _, by unfold maxLen; omega, by rw [hs, Nat.mul_one], ?_⟩⟩
  apply List.ext_getElem
  · simp [hs]
  · intro i h1 h2
    simp only [List.length_map] at h2
    have := hf i h2
    rw [hc i h2] at this
    obtain ⟨_, e⟩ := Array.getElem?_eq_some_iff.1 this
    simp [e, nth_eq h2]
end
def GivesX (o : List Int) (w : World) (e : Ending) (w' : World) : Prop := ∃ g, e = .returned (.slice (some ⟨g, 0, none⟩) o.length o.length) ∧ w.heap.size ≤ g ∧ ArrX w' g o ∧ Below w.heap.size w w'
set_option maxRecDepth 100000 in
theorem l16ByDue_x (l : List Tsk) (A : Option Addr) (cap : Nat) (w : World) (hr : Rd w w.heap.size 4 Tsk.cells A l) (hg : l.length ≤ 8 ∧ ∀ i, i < l.length → okK (nth l i) = true) :
    Calls Try.prog 67 #[.slice A l.length cap] w (GivesX (byDue l) w) := by
  have HG := Lib.hid hg
  have hl8 := hg.1
  have hmk := run_make_row' (P := Try.prog) 35 3 (.int .i64 0) 8 Try.underlying35 info_int rfl .i64 .i64 l.length (by omega) (by omega)
  clear hg
  have HA0 := Lib.hid ((ArrX.made w l.length w.heap.size rfl).carry ((Below.refl _ _).alloc (Nat.le_refl _) (.cells #[] 3)))
  have HU0 := Lib.hid (Arr.new (w.alloc (.cells (madeCells #[.int .i64 0] l.length) 3)) [] (w.heap.size + 1) (by simp))
  go_enter Try.func67, Try.ntmps67
  go_wp2_with fail
  clear hmk
  go_loopg [4, 5, 6, 7, 8, 9] (l.length) (fun gk dn dy _ _ _ _ wr => ∃ r gd cp : Nat, r ≤ l.length ∧ l.length - r ≤ gk ∧ dn = .slice (some ⟨gd, 0, none⟩) r cp ∧ r ≤ cp ∧ dy = .int .i64 (roundsD l r).2 ∧ w.heap.size + 1 ≤ gd ∧ Arr wr gd (doneD l r) ∧ ArrX wr w.heap.size (zer (roundsD l r).1) ∧ Below w.heap.size w wr)
  case atStart => exact ⟨0, w.heap.size + 1, 0, Nat.zero_le _, by omega, rfl, Nat.le_refl _, rfl, Nat.le_refl _, HU0.out, by rw [show (roundsD l 0).1 = List.replicate l.length (-1) from rfl, zer_0]; exact HA0.out, (by repeat (first | (with_reducible exact Below.refl _ _) | ((with_reducible refine alloc_ ?_ ?_); (focus (first | exact Nat.le_refl _ | (simp; done) | (simp; omega) | omega))) | ((with_reducible refine set_ ?_ ?_); (focus (first | exact Nat.le_refl _ | (simp; done) | (simp; omega) | omega))) | (with_reducible refine Below.drew ?_) | ((with_reducible refine after_ ?_ (by assumption) ?_); (rotate_left; (focus (first | exact Nat.le_refl _ | (simp; done) | (simp; omega) | omega))))))⟩
  case round =>
    obtain ⟨r, gd, cp, hrn, hrg, rfl, hcp, rfl, hgd, hdone, harr, hbel⟩ := hrel
    have HU := Lib.hid hdone
    have HA := Lib.hid harr
    have HB := Lib.hid hbel
    have hdl := doneD_len (l := l) (r := r)
    by_cases hlt : r < l.length
    · have HD := Lib.hid (due_rounds HG.out.2 r hrn)
      have HE := Lib.hid (show roundsD l (r + 1) = roundD l (roundsD l r) from rfl)
      have HH := Lib.hid (fun i hi => has_done HG.out.2 (l := l) (r := r) hrn (i := i) hi)
      obtain ⟨kp, hkp, hput⟩ := done_put HG.out.2 hlt
      have HPl := Lib.hid hkp
      have HPu := Lib.hid hput
      obtain ⟨dn, hdn⟩ : ∃ dn, doneD l r = dn := ⟨_, rfl⟩
      obtain ⟨st, hst⟩ : ∃ st, roundsD l r = st := ⟨_, rfl⟩
      rw [hst] at HA HD HE HH HPl HPu ⊢
      rw [hdn] at HU HH HPl HPu hdl
      obtain ⟨p, t⟩ := st
      have hpl : p.length = l.length := HD.out.len
      have t0 : 0 ≤ t := HD.out.t0
      have t1 : t ≤ 400 + 30 * r := HD.out.t1
      have HP := Lib.hid (due_pick HG.out.2 HD.out hlt)
      clear harr hbel hst hdone hdn hkp hput
      go_wp2_with fail
      go_loopw [6, 7] (fun f i wi => ∃ k : Nat, k ≤ l.length ∧ i = .int .i64 k ∧ f = .int .i64 (firstD l p k) ∧ Arr wi gd dn ∧ ArrX wi w.heap.size (zer p) ∧ Below w.heap.size w wi) (fun _ i _ => l.length - (intOf i).toNat)
      case atStart => exact ⟨0, Nat.zero_le _, rfl, rfl, HU.out, HA.out, HB.out⟩
      case round =>
        obtain ⟨k, hk, rfl, rfl, hdone, harr, hbel⟩ := hrel
        have HUi := Lib.hid hdone
        have HAi := Lib.hid harr
        have HBi := Lib.hid hbel
        have z2 := hbel.size
        have f1 := firstD_le (l := l) (p := p) k
        have f0 := firstD_ge (l := l) (p := p) (fun i hi => (okK_true.1 (HG.out.2 i hi)).2.2.1.1) k hk
        by_cases hkl : k < l.length
        · obtain ⟨b, off, rfl, hb1, hcs⟩ := Tsk.rd (hr.below hbel (Nat.le_refl _)) hkl
          have hsb := Lib.hid hdone.rd
          have hh := HH.out k hkl
          have hc1 := l1Has_c dn (some ⟨gd, 0, none⟩) cp k wr (by omega) hdone.rd
          rw [hdl] at hc1
          have HC1 := Lib.hid hc1
          clear harr hbel hdone hc1
          by_cases hn : nth p k < 0
          · have H1 := Lib.hid (show firstD l p (k + 1) = min (firstD l p k) (nth l k).f by rw [firstD, if_pos hn])
            have hh' : hasI dn k = false := by rw [hh]; exact decide_eq_false (by omega)
            clear hh
            go_wp2_with (first | ((go_at_call 78); refine HC1.out.mono ?_; rintro e w' ⟨rfl, rfl⟩) | (go_at_call 64; refine (l1Least_c _ _ _).mono ?_; rintro e w' ⟨rfl, rfl⟩))
            go_roundw
            case rel => exact ⟨k + 1, by omega, by go_num, by rw [H1.out], HUi.out.carry (by repeat (first | (with_reducible exact Below.refl _ _) | ((with_reducible refine alloc_ ?_ ?_); (focus (first | exact Nat.le_refl _ | (simp; done) | (simp; omega) | omega))) | ((with_reducible refine set_ ?_ ?_); (focus (first | exact Nat.le_refl _ | (simp; done) | (simp; omega) | omega))) | (with_reducible refine Below.drew ?_) | ((with_reducible refine after_ ?_ (by assumption) ?_); (rotate_left; (focus (first | exact Nat.le_refl _ | (simp; done) | (simp; omega) | omega)))))), HAi.out.carry (by repeat (first | (with_reducible exact Below.refl _ _) | ((with_reducible refine alloc_ ?_ ?_); (focus (first | exact Nat.le_refl _ | (simp; done) | (simp; omega) | omega))) | ((with_reducible refine set_ ?_ ?_); (focus (first | exact Nat.le_refl _ | (simp; done) | (simp; omega) | omega))) | (with_reducible refine Below.drew ?_) | ((with_reducible refine after_ ?_ (by assumption) ?_); (rotate_left; (focus (first | exact Nat.le_refl _ | (simp; done) | (simp; omega) | omega)))))), HBi.out.trans (Below.mono (B := wr.heap.size) (by repeat (first | (with_reducible exact Below.refl _ _) | ((with_reducible refine alloc_ ?_ ?_); (focus (first | exact Nat.le_refl _ | (simp; done) | (simp; omega) | omega))) | ((with_reducible refine set_ ?_ ?_); (focus (first | exact Nat.le_refl _ | (simp; done) | (simp; omega) | omega))) | (with_reducible refine Below.drew ?_) | ((with_reducible refine after_ ?_ (by assumption) ?_); (rotate_left; (focus (first | exact Nat.le_refl _ | (simp; done) | (simp; omega) | omega)))))) z2)⟩
            case measure => simp [intOf]; omega
          · have H1 := Lib.hid (show firstD l p (k + 1) = firstD l p k by rw [firstD, if_neg hn])
            have hh' : hasI dn k = true := by rw [hh]; exact decide_eq_true (by omega)
            clear hh
            go_wp2_with (first | ((go_at_call 78); refine HC1.out.mono ?_; rintro e w' ⟨rfl, rfl⟩) | (go_at_call 64; refine (l1Least_c _ _ _).mono ?_; rintro e w' ⟨rfl, rfl⟩))
            go_roundw
            case rel => exact ⟨k + 1, by omega, by go_num, by rw [H1.out], HUi.out.carry (by repeat (first | (with_reducible exact Below.refl _ _) | ((with_reducible refine alloc_ ?_ ?_); (focus (first | exact Nat.le_refl _ | (simp; done) | (simp; omega) | omega))) | ((with_reducible refine set_ ?_ ?_); (focus (first | exact Nat.le_refl _ | (simp; done) | (simp; omega) | omega))) | (with_reducible refine Below.drew ?_) | ((with_reducible refine after_ ?_ (by assumption) ?_); (rotate_left; (focus (first | exact Nat.le_refl _ | (simp; done) | (simp; omega) | omega)))))), HAi.out.carry (by repeat (first | (with_reducible exact Below.refl _ _) | ((with_reducible refine alloc_ ?_ ?_); (focus (first | exact Nat.le_refl _ | (simp; done) | (simp; omega) | omega))) | ((with_reducible refine set_ ?_ ?_); (focus (first | exact Nat.le_refl _ | (simp; done) | (simp; omega) | omega))) | (with_reducible refine Below.drew ?_) | ((with_reducible refine after_ ?_ (by assumption) ?_); (rotate_left; (focus (first | exact Nat.le_refl _ | (simp; done) | (simp; omega) | omega)))))), HBi.out.trans (Below.mono (B := wr.heap.size) (by repeat (first | (with_reducible exact Below.refl _ _) | ((with_reducible refine alloc_ ?_ ?_); (focus (first | exact Nat.le_refl _ | (simp; done) | (simp; omega) | omega))) | ((with_reducible refine set_ ?_ ?_); (focus (first | exact Nat.le_refl _ | (simp; done) | (simp; omega) | omega))) | (with_reducible refine Below.drew ?_) | ((with_reducible refine after_ ?_ (by assumption) ?_); (rotate_left; (focus (first | exact Nat.le_refl _ | (simp; done) | (simp; omega) | omega)))))) z2)⟩
            case measure => simp [intOf]; omega
        · obtain rfl : k = l.length := by omega
          obtain ⟨day, hday⟩ : ∃ day, dayD l (p, t) = day := ⟨_, rfl⟩
          have hmx : max t (firstD l p l.length) = day := hday
          clear harr hbel hdone
          go_wp2_with (go_at_call 63; refine (l1Most_c _ _ _).mono ?_; rintro e w' ⟨rfl, rfl⟩)
          obtain ⟨x, hx⟩ : ∃ x, pickD l (p, t) = x := ⟨_, rfl⟩
          obtain ⟨x1, x2, x3, x4, x5⟩ := HP.out
          rw [hx] at x1 x2 x3 HPl HPu
          rw [hday] at x2 x4 x5
          have HX2 := Lib.hid x2
          have HE2 := Lib.hid (show roundsD l (r + 1) = (p.set x day, day + (nth l x).d) by rw [HE.out, roundD, hx, hday])
          clear x2 hmx hday hx
          go_loopw [8, 9] (fun bs i wi => ∃ k : Nat, k ≤ l.length ∧ i = .int .i64 k ∧ bs = .int .i64 (bestD l p day k) ∧ Arr wi gd dn ∧ ArrX wi w.heap.size (zer p) ∧ Below w.heap.size w wi) (fun _ i _ => l.length - (intOf i).toNat)
          case atStart => exact ⟨0, Nat.zero_le _, rfl, rfl, HUi.out, HAi.out, HBi.out⟩
          case round =>
            obtain ⟨k, hk, rfl, rfl, hdone, harr, hbel⟩ := hrel
            have HUi := Lib.hid hdone
            have HAi := Lib.hid harr
            have HBi := Lib.hid hbel
            have z2 := hbel.size
            have HI := Lib.hid (bestD_is (l := l) (p := p) (day := day) k)
            have hrk := hr.below hbel (Nat.le_refl _)
            by_cases hkl : k < l.length
            · obtain ⟨b, off, rfl, hb1, hcs⟩ := Tsk.rd hrk hkl
              have hh := HH.out k hkl
              have l1 : b < wr.heap.size := by omega
              have l2 := hdone.lt
              have l3 := harr.lt
              have hc1 := l1Has_c dn (some ⟨gd, 0, none⟩) cp k wr (by omega) hdone.rd
              rw [hdl] at hc1
              have HC1 := Lib.hid hc1
              clear harr hbel hdone hc1
              by_cases hn : nth p k < 0
              case neg =>
                have H1 := Lib.hid (bestD_not (l := l) (p := p) (day := day) (k := k) fun h => hn h.1)
                have hh' : hasI dn k = true := by rw [hh]; exact decide_eq_true (by omega)
                clear hrk hn hh
                go_wp2_with (first | ((go_at_call 78); refine HC1.out.mono ?_; rintro e w' ⟨rfl, rfl⟩))
                go_roundw
                case rel => exact ⟨k + 1, by omega, by go_num, by rw [H1.out], HUi.out.carry (by repeat (first | (with_reducible exact Below.refl _ _) | ((with_reducible refine alloc_ ?_ ?_); (focus (first | exact Nat.le_refl _ | (simp; done) | (simp; omega) | omega))) | ((with_reducible refine set_ ?_ ?_); (focus (first | exact Nat.le_refl _ | (simp; done) | (simp; omega) | omega))) | (with_reducible refine Below.drew ?_) | ((with_reducible refine after_ ?_ (by assumption) ?_); (rotate_left; (focus (first | exact Nat.le_refl _ | (simp; done) | (simp; omega) | omega)))))), HAi.out.carry (by repeat (first | (with_reducible exact Below.refl _ _) | ((with_reducible refine alloc_ ?_ ?_); (focus (first | exact Nat.le_refl _ | (simp; done) | (simp; omega) | omega))) | ((with_reducible refine set_ ?_ ?_); (focus (first | exact Nat.le_refl _ | (simp; done) | (simp; omega) | omega))) | (with_reducible refine Below.drew ?_) | ((with_reducible refine after_ ?_ (by assumption) ?_); (rotate_left; (focus (first | exact Nat.le_refl _ | (simp; done) | (simp; omega) | omega)))))), HBi.out.trans (Below.mono (B := wr.heap.size) (by repeat (first | (with_reducible exact Below.refl _ _) | ((with_reducible refine alloc_ ?_ ?_); (focus (first | exact Nat.le_refl _ | (simp; done) | (simp; omega) | omega))) | ((with_reducible refine set_ ?_ ?_); (focus (first | exact Nat.le_refl _ | (simp; done) | (simp; omega) | omega))) | (with_reducible refine Below.drew ?_) | ((with_reducible refine after_ ?_ (by assumption) ?_); (rotate_left; (focus (first | exact Nat.le_refl _ | (simp; done) | (simp; omega) | omega)))))) z2)⟩
                case measure => simp [intOf]; omega
              have hh' : hasI dn k = false := by rw [hh]; exact decide_eq_false (by omega)
              clear hh
              by_cases hf : (nth l k).f ≤ day
              case neg =>
                have H1 := Lib.hid (bestD_not (l := l) (p := p) (day := day) (k := k) fun h => hf h.2.1)
                clear hrk
                go_wp2_with (first | ((go_at_call 78); refine HC1.out.mono ?_; rintro e w' ⟨rfl, rfl⟩))
                go_roundw
                case rel => exact ⟨k + 1, by omega, by go_num, by rw [H1.out], HUi.out.carry (by repeat (first | (with_reducible exact Below.refl _ _) | ((with_reducible refine alloc_ ?_ ?_); (focus (first | exact Nat.le_refl _ | (simp; done) | (simp; omega) | omega))) | ((with_reducible refine set_ ?_ ?_); (focus (first | exact Nat.le_refl _ | (simp; done) | (simp; omega) | omega))) | (with_reducible refine Below.drew ?_) | ((with_reducible refine after_ ?_ (by assumption) ?_); (rotate_left; (focus (first | exact Nat.le_refl _ | (simp; done) | (simp; omega) | omega)))))), HAi.out.carry (by repeat (first | (with_reducible exact Below.refl _ _) | ((with_reducible refine alloc_ ?_ ?_); (focus (first | exact Nat.le_refl _ | (simp; done) | (simp; omega) | omega))) | ((with_reducible refine set_ ?_ ?_); (focus (first | exact Nat.le_refl _ | (simp; done) | (simp; omega) | omega))) | (with_reducible refine Below.drew ?_) | ((with_reducible refine after_ ?_ (by assumption) ?_); (rotate_left; (focus (first | exact Nat.le_refl _ | (simp; done) | (simp; omega) | omega)))))), HBi.out.trans (Below.mono (B := wr.heap.size) (by repeat (first | (with_reducible exact Below.refl _ _) | ((with_reducible refine alloc_ ?_ ?_); (focus (first | exact Nat.le_refl _ | (simp; done) | (simp; omega) | omega))) | ((with_reducible refine set_ ?_ ?_); (focus (first | exact Nat.le_refl _ | (simp; done) | (simp; omega) | omega))) | (with_reducible refine Below.drew ?_) | ((with_reducible refine after_ ?_ (by assumption) ?_); (rotate_left; (focus (first | exact Nat.le_refl _ | (simp; done) | (simp; omega) | omega)))))) z2)⟩
                case measure => simp [intOf]; omega
              have hf' : decide (day < (nth l k).f) = false := decide_eq_false (by omega)
              rcases HI.out with hb | ⟨j, hj, hb, hbn⟩
              · have H1 := Lib.hid (bestD_yes hn hf (.inl (by omega)))
                rw [hb]
                have m1 : decide ((-1 : Int) < 0) = true := rfl
                clear hrk hb hn hf
                go_wp2_with (first | ((go_at_call 78); refine HC1.out.mono ?_; rintro e w' ⟨rfl, rfl⟩))
                refine wp_region_mem (by kernel_rfl) (by kernel_rfl) ?_
                repeat (go_big_quiet_step (fail))
                refine wpQuiet_nil ?_
                intro _ hw'
                obtain ⟨⟨wq, hbq⟩, hw''⟩ := hw'
                obtain rfl := hw''.symm
                obtain ⟨hcq, hfq, hzq⟩ := bcell hbq
                try simp [Nat.add_one_le_iff] at hzq
                go_wp2_with fail
                go_roundw
                case rel => exact ⟨k + 1, by omega, by go_num, by rw [H1.out], HUi.out.carry (by repeat (first | (with_reducible exact Below.refl _ _) | ((with_reducible refine alloc_ ?_ ?_); (focus (first | exact Nat.le_refl _ | (simp; done) | (simp; omega) | omega))) | ((with_reducible refine set_ ?_ ?_); (focus (first | exact Nat.le_refl _ | (simp; done) | (simp; omega) | omega))) | (with_reducible refine Below.drew ?_) | ((with_reducible refine after_ ?_ (by assumption) ?_); (rotate_left; (focus (first | exact Nat.le_refl _ | (simp; done) | (simp; omega) | omega)))))), HAi.out.carry (by repeat (first | (with_reducible exact Below.refl _ _) | ((with_reducible refine alloc_ ?_ ?_); (focus (first | exact Nat.le_refl _ | (simp; done) | (simp; omega) | omega))) | ((with_reducible refine set_ ?_ ?_); (focus (first | exact Nat.le_refl _ | (simp; done) | (simp; omega) | omega))) | (with_reducible refine Below.drew ?_) | ((with_reducible refine after_ ?_ (by assumption) ?_); (rotate_left; (focus (first | exact Nat.le_refl _ | (simp; done) | (simp; omega) | omega)))))), HBi.out.trans (Below.mono (B := wr.heap.size) (by repeat (first | (with_reducible exact Below.refl _ _) | ((with_reducible refine alloc_ ?_ ?_); (focus (first | exact Nat.le_refl _ | (simp; done) | (simp; omega) | omega))) | ((with_reducible refine set_ ?_ ?_); (focus (first | exact Nat.le_refl _ | (simp; done) | (simp; omega) | omega))) | (with_reducible refine Below.drew ?_) | ((with_reducible refine after_ ?_ (by assumption) ?_); (rotate_left; (focus (first | exact Nat.le_refl _ | (simp; done) | (simp; omega) | omega)))))) z2)⟩
                case measure => simp [intOf]; omega
              · obtain ⟨b', off', hbe, hb1', hcs'⟩ := Tsk.rd hrk (show j < l.length by omega)
                simp only [Option.some.injEq, Addr.mk.injEq, and_true] at hbe
                obtain ⟨rfl, rfl⟩ := hbe
                have HBJ := Lib.hid hb
                have ej : (bestD l p day k).toNat = j := by omega
                have i2 : (j : Int) < l.length := by omega
                have i3 : decide ((j : Int) < 0) = false := decide_eq_false (by omega)
                by_cases hu : (nth l k).u < (nth l j).u
                · have H1 := Lib.hid (bestD_yes hn hf (.inr (by rw [ej]; exact hu)))
                  rw [hb]
                  have hu1 : decide ((nth l k).u < (nth l j).u) = true := decide_eq_true hu
                  clear hrk hb ej hu
                  go_wp2_with (first | ((go_at_call 78); refine HC1.out.mono ?_; rintro e w' ⟨rfl, rfl⟩))
                  refine wp_region_mem (by kernel_rfl) (by kernel_rfl) ?_
                  repeat (go_big_quiet_step (fail))
                  refine wpQuiet_nil ?_
                  intro _ hw'
                  obtain ⟨⟨wq, hbq⟩, hw''⟩ := hw'
                  obtain rfl := hw''.symm
                  obtain ⟨hcq, hfq, hzq⟩ := bcell hbq
                  try simp [Nat.add_one_le_iff] at hzq
                  go_wp2_with fail
                  go_roundw
                  case rel => exact ⟨k + 1, by omega, by go_num, by rw [H1.out], HUi.out.carry (by repeat (first | (with_reducible exact Below.refl _ _) | ((with_reducible refine alloc_ ?_ ?_); (focus (first | exact Nat.le_refl _ | (simp; done) | (simp; omega) | omega))) | ((with_reducible refine set_ ?_ ?_); (focus (first | exact Nat.le_refl _ | (simp; done) | (simp; omega) | omega))) | (with_reducible refine Below.drew ?_) | ((with_reducible refine after_ ?_ (by assumption) ?_); (rotate_left; (focus (first | exact Nat.le_refl _ | (simp; done) | (simp; omega) | omega)))))), HAi.out.carry (by repeat (first | (with_reducible exact Below.refl _ _) | ((with_reducible refine alloc_ ?_ ?_); (focus (first | exact Nat.le_refl _ | (simp; done) | (simp; omega) | omega))) | ((with_reducible refine set_ ?_ ?_); (focus (first | exact Nat.le_refl _ | (simp; done) | (simp; omega) | omega))) | (with_reducible refine Below.drew ?_) | ((with_reducible refine after_ ?_ (by assumption) ?_); (rotate_left; (focus (first | exact Nat.le_refl _ | (simp; done) | (simp; omega) | omega)))))), HBi.out.trans (Below.mono (B := wr.heap.size) (by repeat (first | (with_reducible exact Below.refl _ _) | ((with_reducible refine alloc_ ?_ ?_); (focus (first | exact Nat.le_refl _ | (simp; done) | (simp; omega) | omega))) | ((with_reducible refine set_ ?_ ?_); (focus (first | exact Nat.le_refl _ | (simp; done) | (simp; omega) | omega))) | (with_reducible refine Below.drew ?_) | ((with_reducible refine after_ ?_ (by assumption) ?_); (rotate_left; (focus (first | exact Nat.le_refl _ | (simp; done) | (simp; omega) | omega)))))) z2)⟩
                  case measure => simp [intOf]; omega
                · have hu' : decide ((nth l k).u < (nth l j).u) = false := decide_eq_false hu
                  have H1 := Lib.hid (bestD_not (l := l) (p := p) (day := day) (k := k) fun h => by
                    rcases h.2.2 with h | h
                    · omega
                    · rw [ej] at h; exact hu h)
                  rw [hb]
                  clear hrk hb ej hu hn hf
                  go_wp2_with (first | ((go_at_call 78); refine HC1.out.mono ?_; rintro e w' ⟨rfl, rfl⟩))
                  refine wp_region_mem (by kernel_rfl) (by kernel_rfl) ?_
                  repeat (go_big_quiet_step (fail))
                  refine wpQuiet_nil ?_
                  intro _ hw'
                  obtain ⟨⟨wq, hbq⟩, hw''⟩ := hw'
                  obtain rfl := hw''.symm
                  obtain ⟨hcq, hfq, hzq⟩ := bcell hbq
                  try simp [Nat.add_one_le_iff] at hzq
                  go_wp2_with fail
                  go_roundw
                  case rel => exact ⟨k + 1, by omega, by go_num, by rw [H1.out, HBJ.out], HUi.out.carry (by repeat (first | (with_reducible exact Below.refl _ _) | ((with_reducible refine alloc_ ?_ ?_); (focus (first | exact Nat.le_refl _ | (simp; done) | (simp; omega) | omega))) | ((with_reducible refine set_ ?_ ?_); (focus (first | exact Nat.le_refl _ | (simp; done) | (simp; omega) | omega))) | (with_reducible refine Below.drew ?_) | ((with_reducible refine after_ ?_ (by assumption) ?_); (rotate_left; (focus (first | exact Nat.le_refl _ | (simp; done) | (simp; omega) | omega)))))), HAi.out.carry (by repeat (first | (with_reducible exact Below.refl _ _) | ((with_reducible refine alloc_ ?_ ?_); (focus (first | exact Nat.le_refl _ | (simp; done) | (simp; omega) | omega))) | ((with_reducible refine set_ ?_ ?_); (focus (first | exact Nat.le_refl _ | (simp; done) | (simp; omega) | omega))) | (with_reducible refine Below.drew ?_) | ((with_reducible refine after_ ?_ (by assumption) ?_); (rotate_left; (focus (first | exact Nat.le_refl _ | (simp; done) | (simp; omega) | omega)))))), HBi.out.trans (Below.mono (B := wr.heap.size) (by repeat (first | (with_reducible exact Below.refl _ _) | ((with_reducible refine alloc_ ?_ ?_); (focus (first | exact Nat.le_refl _ | (simp; done) | (simp; omega) | omega))) | ((with_reducible refine set_ ?_ ?_); (focus (first | exact Nat.le_refl _ | (simp; done) | (simp; omega) | omega))) | (with_reducible refine Below.drew ?_) | ((with_reducible refine after_ ?_ (by assumption) ?_); (rotate_left; (focus (first | exact Nat.le_refl _ | (simp; done) | (simp; omega) | omega)))))) z2)⟩
                  case measure => simp [intOf]; omega
            · obtain rfl : k = l.length := by omega
              obtain ⟨b, off, rfl, hb1, hcs⟩ := Tsk.rd (hr.below hbel (Nat.le_refl _)) x1
              have hc := harr.cell (i := x) (by rw [zer_len]; omega)
              have hz := harr.frozen x
              have zl := harr.lt
              have l1 : b < wr.heap.size := by omega
              have l3 : b ≠ w.heap.size := by omega
              have i2 : (x : Int) < l.length := by omega
              obtain ⟨_, ⟨d1, d2⟩, _⟩ := okK_true.1 (HG.out.2 _ x1)
              have s1 : IntKind.i64.wrap (day + (nth l x).d) = day + (nth l x).d := IntWalk.i64_in _ (by omega)
              have hu3 := hdone.far (p := ⟨w.heap.size, x, none⟩) (show gd ≠ w.heap.size by omega) (.int .i64 day)
              have hpt := l1Put_c dn gd 0 cp x kp (wr.setCell ⟨w.heap.size, x, none⟩ (.int .i64 day)) (by omega) (by omega) hu3.rd HPl.out
              rw [hdl] at hpt
              have HPT := Lib.hid hpt
              have HA3 := Lib.hid (by have h := HAi.out.set x day; rw [zer_set x4] at h; exact h : ArrX (wr.setCell ⟨w.heap.size, x, none⟩ (.int .i64 day)) w.heap.size (zer (p.set x day)))
              have HB3 := Lib.hid (HBi.out.setCell (p := ⟨w.heap.size, x, none⟩) (Nat.le_refl _) (.int .i64 day))
              rw [HX2.out]
              clear harr hbel hdone hu3 hpt
              go_wp2_with fail
              refine HPT.out.mono ?_
              rintro e w3 ⟨g3, c3, rfl, hc3, hg3, ha3, hb3⟩
              have HU4 := Lib.hid (by rw [← HPu.out] at ha3; exact ha3 : Arr w3 g3 (doneD l (r + 1)))
              have HA4 := Lib.hid (HA3.out.carry hb3)
              have HB4 := Lib.hid (HB3.out.trans (hb3.mono HB3.out.size))
              have hl3 : (dn.take kp ++ [(x : Int)] ++ dn.drop kp).length = r + 1 := by rw [← HPu.out]; exact doneD_len
              rw [hl3] at hc3 ⊢
              have hcs3 := (hr.below HB4.out (Nat.le_refl _))
              obtain ⟨b', off', hbe, _, hcs'⟩ := Tsk.rd hcs3 x1
              simp only [Option.some.injEq, Addr.mk.injEq, and_true] at hbe
              obtain ⟨rfl, rfl⟩ := hbe
              have hz3 : w.heap.size + 1 ≤ g3 := by
                have : (wr.setCell ⟨w.heap.size, x, none⟩ (.int .i64 day)).heap.size = wr.heap.size := by simp [World.setCell]
                omega
              clear hcs hc hz ha3 hb3 hcs3 HPT
              go_wp2_with fail
              go_roundg (l.length - (r + 1))
              case measure => omega
              case rel => exact ⟨r + 1, g3, c3, by omega, Nat.le_refl _, rfl, hc3, by rw [HE2.out], hz3, HU4.out, by rw [HE2.out]; exact HA4.out, HB4.out⟩
    · obtain rfl : r = l.length := by omega
      have hz : zer (roundsD l l.length).1 = byDue l := zer_end fun i hi => by
        have hD := due_rounds HG.out.2 l.length (Nat.le_refl _)
        exact neg_zero (by have := hD.cnt; omega) i hi
      rw [hz] at HA
      have hlen : (byDue l).length = l.length := (due_rounds HG.out.2 l.length (Nat.le_refl _)).len
      clear hdone harr hbel hz
      go_wp2_with fail
      go_ret
      exact ⟨w.heap.size, by rw [hlen]; rfl, Nat.le_refl _, HA.out, HB.out⟩
theorem l16ByDue_c (l : List Tsk) (A : Option Addr) (cap : Nat) (w : World) (hr : Rd w w.heap.size 4 Tsk.cells A l) (hg : l.length ≤ 8 ∧ ∀ i, i < l.length → okK (nth l i) = true) :
    Calls Try.prog 67 #[.slice A l.length cap] w (Gives (byDue l) w) :=
  (l16ByDue_x l A cap w hr hg).mono fun _ _ ⟨g, he, hb, ha, hw⟩ => ⟨g, _, he, hb, ha.arr, hw⟩
end Go.Proofs.Ytokddcnkfeimkaa
