/- The latest minutes at all stops: what the program's rounds and the reference's rounds compute; no conditions but that the timetable and what is asked are valid. -/
import Derived.Test.YtddnemmdlijgiaaArr
import Derived.Test.YtddnemmdlijgiaaTravel
namespace Go.Proofs.Ytddnemmdlijgiaa
open Go.RowKit

/-- Passes over a list. -/
def sweep (f : List Int → Rid → List Int) (l : List Rid) (o : List Int) : Nat → List Int
  | 0 => o
  | k + 1 => f (sweep f l o k) (nth l k)
def sweeps (f : List Int → Rid → List Int) (l : List Rid) (o : List Int) : Nat → List Int
  | 0 => o
  | n + 1 => sweep f l (sweeps f l o n) l.length
def lateR (o : List Int) (r : Rid) : List Int := if r.a ≤ nth o r.t.toNat then o.set r.f.toNat (max (nth o r.f.toNat) r.d) else o
theorem sweep_len {f : List Int → Rid → List Int} (hf : ∀ o r, (f o r).length = o.length) (l : List Rid) (o : List Int) : ∀ k, (sweep f l o k).length = o.length
  | 0 => rfl
  | k + 1 => by rw [sweep, hf, sweep_len hf l o k]
theorem sweeps_len {f : List Int → Rid → List Int} (hf : ∀ o r, (f o r).length = o.length) (l : List Rid) (o : List Int) : ∀ k, (sweeps f l o k).length = o.length
  | 0 => rfl
  | k + 1 => by rw [sweeps, sweep_len hf, sweeps_len hf l o k]
theorem lateR_len (o : List Int) (r : Rid) : (lateR o r).length = o.length := by unfold lateR; split <;> simp
theorem lateR_yes {o : List Int} {r : Rid} {f t : Nat} (hf : r.f = f) (ht : r.t = t) (h : r.a ≤ nth o t) : lateR o r = o.set f (max (nth o f) r.d) := by
  unfold lateR; rw [hf, ht]; simp [h]
theorem lateR_no {o : List Int} {r : Rid} {t : Nat} (ht : r.t = t) (h : ¬ r.a ≤ nth o t) : lateR o r = o := by
  unfold lateR; rw [ht]; simp [h]
def start (x : Int) (to : Nat) (m : Int) : List Int := (List.replicate 6 x).set to m
theorem start_len (x : Int) (to : Nat) (m : Int) : (start x to m).length = 6 := by simp [start]
theorem filled {o : List Int} {x : Int} (h : o.length = 6) (hj : ∀ j, j < 6 → nth o j = x) : o = List.replicate 6 x := by
  apply List.ext_getElem
  · simp [h]
  · intro i h1 h2
    have := hj i (by omega)
    rw [nth_eq h1] at this
    rw [this, List.getElem_replicate]
theorem latest_c (l : List Rid) (A : Option Addr) (cap : Nat) (to : Nat) (m : Int) (w : World) (hr : Rd w w.heap.size 5 Rid.cells A l) (hg : l.length ≤ 12 ∧ ∀ i, i < l.length → okR (nth l i) = true) (ht : to < 6) :
    Calls Try.prog 63 #[.slice A l.length cap, .int .i64 to, .int .i64 m] w (Gives (sweeps lateR l (start (-1) to m) 6) w) := by
  obtain ⟨hl, hg⟩ := hg
  have HG := Lib.hid hg
  clear hg
  have hmk : ∀ w : World, (Instr.makeSlice 32 (.int .i64 6) (.int .i64 6)).run Try.prog w = .ok (.slice (some ⟨w.heap.size, 0, none⟩) 6 6) (w.alloc (.cells #[.int .i64 0, .int .i64 0, .int .i64 0, .int .i64 0, .int .i64 0, .int .i64 0] 3)) := fun _ => by kernel_rfl
  go_enter Try.func63, Try.ntmps63
  go_wp2_with fail
  go_loopw [8, 14] (fun _ i wr => ∃ (k : Nat) (o : List Int), k ≤ 6 ∧ i = .int .i64 k ∧ o.length = 6 ∧ (∀ j, j < k → nth o j = -1) ∧ Arr wr w.heap.size o ∧ Below w.heap.size w wr) (fun _ i _ => 6 - (intOf i).toNat)
  case atStart => exact ⟨0, [0, 0, 0, 0, 0, 0], Nat.zero_le _, rfl, rfl, fun j hj => absurd hj (by omega), Arr.new w [0, 0, 0, 0, 0, 0] _ rfl, (by repeat (first | (with_reducible exact Below.refl _ _) | ((with_reducible refine alloc_ ?_ ?_); (focus (first | exact Nat.le_refl _ | (simp; done) | (simp; omega) | omega))) | ((with_reducible refine set_ ?_ ?_); (focus (first | exact Nat.le_refl _ | (simp; done) | (simp; omega) | omega))) | (with_reducible refine Below.drew ?_) | ((with_reducible refine after_ ?_ (by assumption) ?_); (rotate_left; (focus (first | exact Nat.le_refl _ | (simp; done) | (simp; omega) | omega))))))⟩
  case round =>
    obtain ⟨k, o, hk, rfl, hlen, hneg, harr, hbel⟩ := hrel
    have HB := Lib.hid hbel
    have HN := Lib.hid hneg
    have HA := Lib.hid harr
    have HL := Lib.hid hlen
    clear hneg hlen
    by_cases hlt : k < 6
    · have hc := harr.cell (show k < o.length by have := HL.out; omega)
      have hz := harr.frozen k
      clear hbel harr
      go_wp2_with fail
      go_roundw
      case rel => exact ⟨k + 1, _, by omega, by go_num, by rw [List.length_set]; exact HL.out, fun j hj => by
        rw [nth_setI (by rw [HL.out]; omega)]
        by_cases e : k = j
        · rw [if_pos e]
        · rw [if_neg e]; exact HN.out j (by omega), HA.out.set k (-1), HB.out.setCell (p := ⟨w.heap.size, k, none⟩) (Nat.le_refl _) _⟩
      case measure => simp [intOf]; omega
    · obtain rfl : k = 6 := by omega
      simp only [show ((6 : Nat) : Int) = 6 from rfl]
      have HE := Lib.hid (filled HL.out HN.out)
      have hto : to < o.length := by have := HL.out; omega
      have hc := harr.cell hto
      have hz := harr.frozen to
      have HS := Lib.hid (show Arr (wr.setCell ⟨w.heap.size, to, none⟩ (.int .i64 m)) w.heap.size (start (-1) to m) by have := HA.out.set to m; rw [HE.out] at this; exact this)
      have HB2 := Lib.hid (HB.out.setCell (p := ⟨w.heap.size, to, none⟩) (Nat.le_refl _) (.int .i64 m))
      clear hbel harr
      go_wp2_with fail
      have hlen6 : (start (-1) to m).length = 6 := start_len _ _ _
      have HL6 := Lib.hid (fun n => (sweeps_len lateR_len l (start (-1) to m) n).trans hlen6)
      clear hlen6 hc hz hto
      go_loopw [10, 25, 29] (fun _ i _ wr => ∃ n : Nat, n ≤ 6 ∧ i = .int .i64 n ∧ Arr wr w.heap.size (sweeps lateR l (start (-1) to m) n) ∧ Below w.heap.size w wr) (fun _ i _ _ => 6 - (intOf i).toNat)
      case atStart => exact ⟨0, Nat.zero_le _, rfl, HS.out, HB2.out⟩
      case round =>
        obtain ⟨n, hn, rfl, harr, hbel⟩ := hrel
        have HBn := Lib.hid hbel
        have HAn := Lib.hid harr
        by_cases hlt : n < 6
        · have hdn : decide ((n : Int) < 6) = true := decide_eq_true (by omega)
          clear hbel harr
          go_wp2_with fail
          go_loopw [10, 29] (fun _ i wr => ∃ k : Nat, k ≤ l.length ∧ i = .int .i64 k ∧ Arr wr w.heap.size (sweep lateR l (sweeps lateR l (start (-1) to m) n) k) ∧ Below w.heap.size w wr) (fun _ i _ => l.length - (intOf i).toNat)
          case atStart => exact ⟨0, Nat.zero_le _, rfl, HAn.out, HBn.out⟩
          case round =>
            obtain ⟨k, hk, rfl, harr, hbel⟩ := hrel
            have HB := Lib.hid hbel
            have HA := Lib.hid harr
            have z1 := hbel.size
            by_cases hlk : k < l.length
            · obtain ⟨b, off, rfl, hb1, hc0, hc1, hc2, hc3, hc4⟩ := Rid.rd (hr.below hbel (Nat.le_refl _)) hlk
              obtain ⟨⟨e1, e2⟩, ⟨e3, e4⟩, _, ⟨e5, e6⟩, ⟨e7, e8⟩, _⟩ := okR_true.1 (HG.out k hlk)
              obtain ⟨f, hf⟩ : ∃ f : Nat, (nth l k).f = (f : Int) := ⟨(nth l k).f.toNat, by omega⟩
              obtain ⟨t, ht⟩ : ∃ t : Nat, (nth l k).t = (t : Int) := ⟨(nth l k).t.toNat, by omega⟩
              obtain ⟨o, ho⟩ : ∃ o, sweep lateR l (sweeps lateR l (start (-1) to m) n) k = o := ⟨_, rfl⟩
              have HO := Lib.hid (show o.length = 6 by rw [← ho, sweep_len lateR_len]; exact HL6.out n)
              rw [ho] at harr HA
              have HO2 := Lib.hid ho
              rw [hf] at hc0 e1 e2
              rw [ht] at hc1 e3 e4
              have hd0 := harr.cell (show t < o.length by have := HO.out; omega)
              have hd1 := harr.cell (show f < o.length by have := HO.out; omega)
              have hz := harr.frozen f
              have HF := Lib.hid hf
              have HT := Lib.hid ht
              have l1 : b < wr.heap.size := by omega
              have l2 := harr.lt
              have l3 : w.heap.size ≠ wr.heap.size := by omega
              have i1 : (0 : Int) ≤ (f : Int) := by omega
              have i2 : (f : Int) < 6 := by omega
              have i3 : (0 : Int) ≤ (t : Int) := by omega
              have i4 : (t : Int) < 6 := by omega
              clear hf ht ho harr hbel
              by_cases hq : (nth l k).a ≤ nth o t
              · have H := Lib.hid (show sweep lateR l (sweeps lateR l (start (-1) to m) n) (k + 1) = o.set f (max (nth o f) (nth l k).d) by rw [sweep, HO2.out]; exact lateR_yes HF.out HT.out hq)
                go_wp2_with fail
                refine wp_region_mem (by kernel_rfl) (by kernel_rfl) ?_
                repeat (go_big_quiet_step (fail))
                refine wpQuiet_nil ?_
                intro _ hw'
                obtain ⟨⟨wq, hbq⟩, hw''⟩ := hw'
                obtain rfl := hw''.symm
                obtain ⟨hcq, hfq, hzq⟩ := bcell hbq
                try simp [Nat.add_one_le_iff] at hzq
                have HD0 := Lib.hid (show Below wr.heap.size wr wq from (by repeat (first | (with_reducible exact Below.refl _ _) | ((with_reducible refine alloc_ ?_ ?_); (focus (first | exact Nat.le_refl _ | (simp; done) | (simp; omega) | omega))) | ((with_reducible refine set_ ?_ ?_); (focus (first | exact Nat.le_refl _ | (simp; done) | (simp; omega) | omega))) | (with_reducible refine Below.drew ?_) | ((with_reducible refine after_ ?_ (by assumption) ?_); (rotate_left; (focus (first | exact Nat.le_refl _ | (simp; done) | (simp; omega) | omega)))))))
                have HX := Lib.hid ((Box.new wr [.int .i64 f, .int .i64 t, .int .i64 (nth l k).d, .int .i64 (nth l k).a, .int .i64 (nth l k).s] 52).carry hbq)
                go_wp2_with fail
                clear hcq hfq hw'' hbq
                refine wp_region_tail 12 (by kernel_rfl) (by kernel_rfl) fun wd hbd hcd => ?_
                have HD := Lib.hid (HD0.out.trans (hbd.mono (Nat.le_of_lt hzq)))
                have x0 := (HX.out.carry hbd).cell (j := 0) rfl
                have x2 := (HX.out.carry hbd).cell (j := 2) rfl
                have hA3 := HA.out.carry HD.out
                have x1 := hA3.cell (show f < o.length by have := HO.out; omega)
                have xz := hA3.frozen f
                clear hbd hcd hA3
                simp only [List.take_succ_cons, List.take_zero, List.drop_succ_cons, List.drop_zero]
                repeat still_step
                refine wpStill_nil ?_
                go_wp2_with fail
                go_roundw
                case rel => exact ⟨k + 1, by omega, by go_num, by rw [H.out]; exact (HA.out.carry HD.out).set f _, HB.out.trans ((HD.out.mono z1).setCell (p := ⟨w.heap.size, f, none⟩) (Nat.le_refl _) _)⟩
                case measure => simp [intOf]; omega
              · have H := Lib.hid (show sweep lateR l (sweeps lateR l (start (-1) to m) n) (k + 1) = o by rw [sweep, HO2.out]; exact lateR_no HT.out hq)
                go_wp2_with fail
                refine wp_region_mem (by kernel_rfl) (by kernel_rfl) ?_
                repeat (go_big_quiet_step (fail))
                refine wpQuiet_nil ?_
                intro _ hw'
                obtain ⟨⟨wq, hbq⟩, hw''⟩ := hw'
                obtain rfl := hw''.symm
                obtain ⟨hcq, hfq, hzq⟩ := bcell hbq
                try simp [Nat.add_one_le_iff] at hzq
                go_wp2_with fail
                go_roundw
                case rel => exact ⟨k + 1, by omega, by go_num, by rw [H.out]; exact HA.out.carry (by repeat (first | (with_reducible exact Below.refl _ _) | ((with_reducible refine alloc_ ?_ ?_); (focus (first | exact Nat.le_refl _ | (simp; done) | (simp; omega) | omega))) | ((with_reducible refine set_ ?_ ?_); (focus (first | exact Nat.le_refl _ | (simp; done) | (simp; omega) | omega))) | (with_reducible refine Below.drew ?_) | ((with_reducible refine after_ ?_ (by assumption) ?_); (rotate_left; (focus (first | exact Nat.le_refl _ | (simp; done) | (simp; omega) | omega)))))), (HB.out.trans (Below.mono (B := wr.heap.size) (by repeat (first | (with_reducible exact Below.refl _ _) | ((with_reducible refine alloc_ ?_ ?_); (focus (first | exact Nat.le_refl _ | (simp; done) | (simp; omega) | omega))) | ((with_reducible refine set_ ?_ ?_); (focus (first | exact Nat.le_refl _ | (simp; done) | (simp; omega) | omega))) | (with_reducible refine Below.drew ?_) | ((with_reducible refine after_ ?_ (by assumption) ?_); (rotate_left; (focus (first | exact Nat.le_refl _ | (simp; done) | (simp; omega) | omega)))))) z1))⟩
                case measure => simp [intOf]; omega
            · obtain rfl : k = l.length := by omega
              clear hbel harr
              go_wp2_with fail
              go_roundw
              case rel => exact ⟨n + 1, by omega, by go_num, HA.out, HB.out⟩
              case measure => simp [intOf]; omega
        · obtain rfl : n = 6 := by omega
          clear hbel harr
          go_wp2_with fail
          go_ret
          exact ⟨w.heap.size, 6, retG (HL6.out 6), Nat.le_refl _, HAn.out, HBn.out⟩
/-- A sum over a list, by which the reference's rounds end. -/
def pot (g : Int → Nat) : List Int → Nat
  | [] => 0
  | x :: o => g x + pot g o
theorem pot_set (g : Int → Nat) : ∀ (o : List Int) (i : Nat) (v : Int), i < o.length → pot g (o.set i v) + g (nth o i) = pot g o + g v
  | [], i, v, h => absurd h (by simp)
  | x :: o, 0, v, _ => by simp [pot, nth]; omega
  | x :: o, i + 1, v, h => by
    have ih := pot_set g o i v (by simpa using h)
    have e : nth (x :: o) (i + 1) = nth o i := by simp [nth]
    rw [e]; simp only [List.set_cons_succ, pot]; omega
/-- A step that lowers the sum, or does nothing. -/
def Sinks (g : Int → Nat) (f : List Int → Rid → List Int) (l : List Rid) : Prop := ∀ o k, o.length = 6 → k < l.length → pot g (f o (nth l k)) < pot g o ∨ f o (nth l k) = o
theorem sweep_sinks {g : Int → Nat} {f : List Int → Rid → List Int} {l : List Rid} (hf : ∀ o r, (f o r).length = o.length) (h : Sinks g f l) {o : List Int} (ho : o.length = 6) : ∀ k, k ≤ l.length → pot g (sweep f l o k) < pot g o ∨ sweep f l o k = o
  | 0, _ => .inr rfl
  | k + 1, hk => by
    have hlen := (sweep_len hf l o k).trans ho
    rw [sweep]
    rcases sweep_sinks hf h ho k (by omega) with h1 | h1
    · rcases h _ k hlen (by omega) with h2 | h2
      · exact .inl (by omega)
      · rw [h2]; exact .inl h1
    · rw [h1]; exact h o k ho (by omega)
theorem sweep_was {g : Int → Nat} {f : List Int → Rid → List Int} {l : List Rid} (hf : ∀ o r, (f o r).length = o.length) (h : Sinks g f l) {o : List Int} (ho : o.length = 6) {k : Nat} (hk : k < l.length) (hs : pot g (f (sweep f l o k) (nth l k)) < pot g (sweep f l o k)) : decide (pot g (sweep f l o (k + 1)) < pot g o) = true := by
  rw [decide_eq_true_eq, sweep]
  rcases sweep_sinks hf h ho k (by omega) with h1 | h1
  · omega
  · rw [h1] at hs ⊢; exact hs
theorem set_nth {o : List Int} {i : Nat} (h : i < o.length) : o.set i (nth o i) = o := by
  rw [nth_eq h]; exact List.set_getElem_self _
def lateG (x : Int) : Nat := (1440 - x).toNat
theorem lateR_sinks {l : List Rid} (hg : ∀ i, i < l.length → okR (nth l i) = true) : Sinks lateG lateR l := fun o k ho hk => by
  obtain ⟨⟨e1, e2⟩, ⟨e3, e4⟩, _, ⟨e5, e6⟩, ⟨e7, e8⟩, _⟩ := okR_true.1 (hg k hk)
  unfold lateR
  split
  · have hp := pot_set lateG o (nth l k).f.toNat (max (nth o (nth l k).f.toNat) (nth l k).d) (by omega)
    by_cases hd : nth o (nth l k).f.toNat < (nth l k).d
    · left; unfold lateG at hp ⊢; omega
    · right
      rw [show max (nth o (nth l k).f.toNat) (nth l k).d = nth o (nth l k).f.toNat by omega, set_nth (by omega)]
  · exact .inr rfl
/-- The rounds have come to their end. -/
def Ended (f : List Int → Rid → List Int) (l : List Rid) (o0 o : List Int) : Prop := ∃ n, o = sweeps f l o0 n ∧ sweep f l o l.length = o
def Gives' (p : List Int → Prop) (w : World) (e : Ending) (w' : World) : Prop := ∃ o, p o ∧ Gives o w e w'

set_option maxHeartbeats 800000 in
theorem l15Latest_w (l : List Rid) (A : Option Addr) (cap : Nat) (to : Nat) (m : Int) (w : World) (hl : l.length ≤ 1048576) (hr : Rd w w.heap.size 5 Rid.cells A l) (hg : ∀ i, i < l.length → okR (nth l i) = true) (ht : to < 6) :
    Calls Try.prog 62 #[.slice A l.length cap, .int .i64 to, .int .i64 m] w (Gives' (Ended lateR l (start (-1) to m)) w) := by
  have HG := Lib.hid hg
  clear hg
  go_enter Try.func62, Try.ntmps62
  go_wp2_with fail
  go_loopw [7, 8] (fun v i wr => ∃ k : Nat, k ≤ 6 ∧ i = .int .i64 k ∧ wr.ownsRow w.heap.size 3 1 v k ((List.replicate k (-1 : Int)).map (Value.int .i64)) ∧ Below w.heap.size w wr) (fun _ i _ => 6 - (intOf i).toNat)
  case atStart => exact ⟨0, Nat.zero_le _, rfl, ownsRow_empty w 3 1, (by repeat (first | (with_reducible exact Below.refl _ _) | ((with_reducible refine alloc_ ?_ ?_); (focus (first | exact Nat.le_refl _ | (simp; done) | (simp; omega) | omega))) | ((with_reducible refine set_ ?_ ?_); (focus (first | exact Nat.le_refl _ | (simp; done) | (simp; omega) | omega))) | (with_reducible refine Below.drew ?_) | ((with_reducible refine after_ ?_ (by assumption) ?_); (rotate_left; (focus (first | exact Nat.le_refl _ | (simp; done) | (simp; omega) | omega))))))⟩
  case round =>
    obtain ⟨k, hk, rfl, hown, hbel⟩ := hrel
    have HB := Lib.hid hbel
    have HO := Lib.hid hown
    have z1 := hbel.size
    clear hbel hown
    by_cases hlt : k < 6
    · go_wp2_with (at_builtin; refine wpList_push _ rfl _ _ 32 rfl w.heap.size 3 (.int .i64 0) 1 8 Try.underlying32 info_int rfl (by decide) (by decide) _ _ _ rfl (HO.out.alloc _) wr.heap.size [.int .i64 (-1)] rfl rfl ?c1 ?c2 ?c3 ?c4 ?_)
      case c1 =>
        intro j u hj
        match j, hj with
        | 0, hj => simp at hj; subst hj; simp [go_sem]
      case c2 => intro u hu; simp at hu; subst hu; rfl
      case c3 => omega
      case c4 => simp; omega
      intro v' w' hown' hb'
      have HO' := Lib.hid hown'
      have HB' := Lib.hid (HB.out.trans (((Below.refl _ _).alloc z1 _).trans hb'))
      clear hown' hb'
      go_wp2_with fail
      go_roundw
      case rel => exact ⟨k + 1, by omega, by go_num, by rw [List.replicate_succ']; simpa using HO'.out, HB'.out⟩
      case measure => simp [intOf]; omega
    · obtain rfl : k = 6 := by omega
      simp only [show ((6 : Nat) : Int) = 6 from rfl]
      obtain ⟨g, gc, rfl, hgb, harr⟩ := Arr.of_owns HO.out (by simp) (by omega)
      have hc := harr.cell (show to < (List.replicate 6 (-1 : Int)).length by simp; omega)
      have hz := harr.frozen to
      have HS := Lib.hid (show Arr (wr.setCell ⟨g, to, none⟩ (.int .i64 m)) g (start (-1) to m) from harr.set to m)
      have HB2 := Lib.hid (HB.out.setCell (p := ⟨g, to, none⟩) hgb (.int .i64 m))
      have glt := harr.lt
      clear harr
      go_wp2_with fail
      have hlen6 : (start (-1) to m).length = 6 := start_len _ _ _
      have HL6 := Lib.hid (fun n => (sweeps_len lateR_len l (start (-1) to m) n).trans hlen6)
      clear hlen6 hc hz
      go_loopg [9, 10, 11] (2 * pot lateG (start (-1) to m) + 1) (fun gk ag _ _ wr => ∃ (n : Nat) (c : Bool), ag = .bool c ∧ 2 * pot lateG (sweeps lateR l (start (-1) to m) n) + (if c = true then 1 else 0) ≤ gk ∧ (c = false → sweep lateR l (sweeps lateR l (start (-1) to m) n) l.length = sweeps lateR l (start (-1) to m) n) ∧ Arr wr g (sweeps lateR l (start (-1) to m) n) ∧ Below w.heap.size w wr)
      case atStart => exact ⟨0, true, rfl, by simp [sweeps], (fun h => by cases h), HS.out, HB2.out⟩
      case round =>
        obtain ⟨n, c, rfl, hle, hst, harr, hbel⟩ := hrel
        have HBn := Lib.hid hbel
        have HAn := Lib.hid harr
        have HSt := Lib.hid hst
        have HLe := Lib.hid hle
        clear hst hle
        rcases c with _ | _
        · clear hbel harr
          go_wp2_with fail
          go_ret
          exact ⟨_, ⟨n, rfl, by first | exact HSt.out rfl | exact HSt.out trivial⟩, g, gc, retG (HL6.out n), hgb, HAn.out, HBn.out⟩
        · clear hbel harr
          obtain ⟨o, ho⟩ : ∃ o, sweeps lateR l (start (-1) to m) n = o := ⟨_, rfl⟩
          have HO := Lib.hid (show o.length = 6 by rw [← ho]; exact HL6.out n)
          rw [ho] at HAn HLe HSt
          have Ho := Lib.hid ho
          clear ho
          go_wp2_with fail
          go_loopw [9, 10, 11] (fun ag i _ wr => ∃ k : Nat, k ≤ l.length ∧ i = .int .i64 k ∧ ag = .bool (decide (pot lateG (sweep lateR l o k) < pot lateG o)) ∧ Arr wr g (sweep lateR l o k) ∧ Below w.heap.size w wr) (fun _ i _ _ => l.length - (intOf i).toNat)
          case atStart => exact ⟨0, Nat.zero_le _, rfl, by simp [sweep], HAn.out, HBn.out⟩
          case round =>
            obtain ⟨k, hk, rfl, rfl, harr, hbel⟩ := hrel
            have HB := Lib.hid hbel
            have HA := Lib.hid harr
            have z1 := hbel.size
            by_cases hlk : k < l.length
            · obtain ⟨b, off, rfl, hb1, hc0, hc1, hc2, hc3, hc4⟩ := Rid.rd (hr.below hbel (Nat.le_refl _)) hlk
              obtain ⟨⟨e1, e2⟩, ⟨e3, e4⟩, _, ⟨e5, e6⟩, ⟨e7, e8⟩, _⟩ := okR_true.1 (HG.out k hlk)
              obtain ⟨f, hf⟩ : ∃ f : Nat, (nth l k).f = (f : Int) := ⟨(nth l k).f.toNat, by omega⟩
              obtain ⟨t, ht⟩ : ∃ t : Nat, (nth l k).t = (t : Int) := ⟨(nth l k).t.toNat, by omega⟩
              obtain ⟨o', ho'⟩ : ∃ o', sweep lateR l o k = o' := ⟨_, rfl⟩
              have HO' := Lib.hid (show o'.length = 6 by rw [← ho', sweep_len lateR_len]; exact HO.out)
              have HW := Lib.hid (sweep_was (g := lateG) lateR_len (lateR_sinks HG.out) HO.out hlk)
              rw [ho'] at harr HA HW
              have Ho' := Lib.hid ho'
              have Hs := Lib.hid (show sweep lateR l o (k + 1) = lateR o' (nth l k) by rw [sweep, ho'])
              rw [hf] at hc0 e1 e2
              rw [ht] at hc1 e3 e4
              have hd0 := harr.cell (show t < o'.length by have := HO'.out; omega)
              have hd1 := harr.cell (show f < o'.length by have := HO'.out; omega)
              have hz := harr.frozen f
              have HF := Lib.hid hf
              have HT := Lib.hid ht
              have l1 : b < wr.heap.size := by omega
              have l2 := harr.lt
              have l3 : w.heap.size ≠ wr.heap.size := by omega
              have l4 : g ≠ wr.heap.size := by omega
              have i1 : (0 : Int) ≤ (f : Int) := by omega
              have i2 : (f : Int) < 6 := by omega
              have i3 : (0 : Int) ≤ (t : Int) := by omega
              have i4 : (t : Int) < 6 := by omega
              clear hf ht ho' harr hbel
              by_cases hq : (nth l k).a ≤ nth o' t
              · have hq' : decide ((nth l k).a ≤ nth o' t) = true := decide_eq_true hq
                have HY := Lib.hid (lateR_yes HF.out HT.out hq)
                by_cases hd : nth o' f < (nth l k).d
                · have H := Lib.hid (show sweep lateR l o (k + 1) = o'.set f (nth l k).d by rw [Hs.out, HY.out, show max (nth o' f) (nth l k).d = (nth l k).d by omega])
                  have HP := Lib.hid (show decide (pot lateG (sweep lateR l o (k + 1)) < pot lateG o) = true by
                    apply HW.out
                    rw [HY.out, show max (nth o' f) (nth l k).d = (nth l k).d by omega]
                    have hp := pot_set lateG o' f (nth l k).d (by have := HO'.out; omega)
                    unfold lateG at hp ⊢; omega)
                  go_wp2_with fail
                  refine wp_region_mem (by kernel_rfl) (by kernel_rfl) ?_
                  repeat (go_big_quiet_step (fail))
                  refine wpQuiet_nil ?_
                  intro _ hw'
                  obtain ⟨⟨wq, hbq⟩, hw''⟩ := hw'
                  obtain rfl := hw''.symm
                  obtain ⟨hcq, hfq, hzq⟩ := bcell hbq
                  try simp [Nat.add_one_le_iff] at hzq
                  have HD := Lib.hid (show Below wr.heap.size wr wq from (by repeat (first | (with_reducible exact Below.refl _ _) | ((with_reducible refine alloc_ ?_ ?_); (focus (first | exact Nat.le_refl _ | (simp; done) | (simp; omega) | omega))) | ((with_reducible refine set_ ?_ ?_); (focus (first | exact Nat.le_refl _ | (simp; done) | (simp; omega) | omega))) | (with_reducible refine Below.drew ?_) | ((with_reducible refine after_ ?_ (by assumption) ?_); (rotate_left; (focus (first | exact Nat.le_refl _ | (simp; done) | (simp; omega) | omega)))))))
                  have HX := Lib.hid ((Box.new wr [.int .i64 f, .int .i64 t, .int .i64 (nth l k).d, .int .i64 (nth l k).a, .int .i64 (nth l k).s] 52).carry hbq)
                  go_wp2_with fail
                  go_roundw
                  case rel => exact ⟨k + 1, by omega, by go_num, by rw [HP.out], by rw [H.out]; exact (HA.out.carry HD.out).set f _, HB.out.trans ((HD.out.mono z1).setCell (p := ⟨g, f, none⟩) hgb _)⟩
                  case measure => simp [intOf]; omega
                · have hd' : decide (nth o' f < (nth l k).d) = false := decide_eq_false hd
                  have H := Lib.hid (show sweep lateR l o (k + 1) = o' by rw [Hs.out, HY.out, show max (nth o' f) (nth l k).d = nth o' f by omega, set_nth (by have := HO'.out; omega)])
                  go_wp2_with fail
                  refine wp_region_mem (by kernel_rfl) (by kernel_rfl) ?_
                  repeat (go_big_quiet_step (fail))
                  refine wpQuiet_nil ?_
                  intro _ hw'
                  obtain ⟨⟨wq, hbq⟩, hw''⟩ := hw'
                  obtain rfl := hw''.symm
                  obtain ⟨hcq, hfq, hzq⟩ := bcell hbq
                  try simp [Nat.add_one_le_iff] at hzq
                  go_wp2_with fail
                  go_roundw
                  case rel => exact ⟨k + 1, by omega, by go_num, by rw [H.out, Ho'.out], by rw [H.out]; exact HA.out.carry (by repeat (first | (with_reducible exact Below.refl _ _) | ((with_reducible refine alloc_ ?_ ?_); (focus (first | exact Nat.le_refl _ | (simp; done) | (simp; omega) | omega))) | ((with_reducible refine set_ ?_ ?_); (focus (first | exact Nat.le_refl _ | (simp; done) | (simp; omega) | omega))) | (with_reducible refine Below.drew ?_) | ((with_reducible refine after_ ?_ (by assumption) ?_); (rotate_left; (focus (first | exact Nat.le_refl _ | (simp; done) | (simp; omega) | omega)))))), (HB.out.trans (Below.mono (B := wr.heap.size) (by repeat (first | (with_reducible exact Below.refl _ _) | ((with_reducible refine alloc_ ?_ ?_); (focus (first | exact Nat.le_refl _ | (simp; done) | (simp; omega) | omega))) | ((with_reducible refine set_ ?_ ?_); (focus (first | exact Nat.le_refl _ | (simp; done) | (simp; omega) | omega))) | (with_reducible refine Below.drew ?_) | ((with_reducible refine after_ ?_ (by assumption) ?_); (rotate_left; (focus (first | exact Nat.le_refl _ | (simp; done) | (simp; omega) | omega)))))) z1))⟩
                  case measure => simp [intOf]; omega
              · have hq' : decide ((nth l k).a ≤ nth o' t) = false := decide_eq_false hq
                have H := Lib.hid (show sweep lateR l o (k + 1) = o' by rw [Hs.out]; exact lateR_no HT.out hq)
                go_wp2_with fail
                refine wp_region_mem (by kernel_rfl) (by kernel_rfl) ?_
                repeat (go_big_quiet_step (fail))
                refine wpQuiet_nil ?_
                intro _ hw'
                obtain ⟨⟨wq, hbq⟩, hw''⟩ := hw'
                obtain rfl := hw''.symm
                obtain ⟨hcq, hfq, hzq⟩ := bcell hbq
                try simp [Nat.add_one_le_iff] at hzq
                go_wp2_with fail
                go_roundw
                case rel => exact ⟨k + 1, by omega, by go_num, by rw [H.out, Ho'.out], by rw [H.out]; exact HA.out.carry (by repeat (first | (with_reducible exact Below.refl _ _) | ((with_reducible refine alloc_ ?_ ?_); (focus (first | exact Nat.le_refl _ | (simp; done) | (simp; omega) | omega))) | ((with_reducible refine set_ ?_ ?_); (focus (first | exact Nat.le_refl _ | (simp; done) | (simp; omega) | omega))) | (with_reducible refine Below.drew ?_) | ((with_reducible refine after_ ?_ (by assumption) ?_); (rotate_left; (focus (first | exact Nat.le_refl _ | (simp; done) | (simp; omega) | omega)))))), (HB.out.trans (Below.mono (B := wr.heap.size) (by repeat (first | (with_reducible exact Below.refl _ _) | ((with_reducible refine alloc_ ?_ ?_); (focus (first | exact Nat.le_refl _ | (simp; done) | (simp; omega) | omega))) | ((with_reducible refine set_ ?_ ?_); (focus (first | exact Nat.le_refl _ | (simp; done) | (simp; omega) | omega))) | (with_reducible refine Below.drew ?_) | ((with_reducible refine after_ ?_ (by assumption) ?_); (rotate_left; (focus (first | exact Nat.le_refl _ | (simp; done) | (simp; omega) | omega)))))) z1))⟩
                case measure => simp [intOf]; omega
            · obtain rfl : k = l.length := by omega
              clear hbel harr
              go_wp2_with fail
              rcases sweep_sinks lateR_len (lateR_sinks HG.out) HO.out l.length (Nat.le_refl _) with hc | hc
              · go_roundg (2 * pot lateG (sweeps lateR l (start (-1) to m) (n + 1)) + 1)
                case measure => have := HLe.out; rw [sweeps, Ho.out]; simp only [if_true] at this; omega
                case rel => exact ⟨n + 1, true, by rw [decide_eq_true hc], by simp, (fun h => by cases h), by rw [sweeps, Ho.out]; exact HA.out, HB.out⟩
              · go_roundg (2 * pot lateG (sweeps lateR l (start (-1) to m) (n + 1)))
                case measure => have := HLe.out; rw [sweeps, Ho.out, hc]; simp only [if_true] at this; omega
                case rel => exact ⟨n + 1, false, by rw [hc]; simp, by simp, (fun _ => by rw [sweeps, Ho.out, hc, hc]), by rw [sweeps, Ho.out]; exact HA.out, HB.out⟩
end Go.Proofs.Ytddnemmdlijgiaa
