/- The earliest minutes at all stops: what the reference's rounds compute; no conditions but that the timetable and what is asked are valid. -/
import Derived.Test.YtddnemmdlijgiaaEarl
namespace Go.Proofs.Ytddnemmdlijgiaa
open Go.RowKit

/-- The reference's way to say that a stop is not reached. -/
def dec (x : Int) : Int := if x = 1440 then -1 else x
def decL (o : List Int) : List Int := o.map dec
theorem decL_len (o : List Int) : (decL o).length = o.length := by simp [decL]
theorem decL_nth {o : List Int} {s : Nat} (h : s < o.length) : nth (decL o) s = dec (nth o s) := by
  rw [nth_eq (by rw [decL_len]; exact h), nth_eq h]; simp [decL]
theorem decL_set {o : List Int} {t : Nat} {a : Int} (h : a ≤ 1439) : decL (o.set t a) = (decL o).set t a := by
  rw [decL, List.map_set, dec, if_neg (by omega)]; rfl
theorem decL_start {fr : Nat} {m : Int} (h : m ≤ 1439) : decL (start 1440 fr m) = start (-1) fr m := by
  unfold start; rw [decL_set h]; rfl
def earR (o : List Int) (r : Rid) : List Int := jacR o o r
theorem earR_len (o : List Int) (r : Rid) : (earR o r).length = o.length := jacR_len o o r
def Mins (o : List Int) : Prop := o.length = 6 ∧ ∀ s, s < 6 → 0 ≤ nth o s ∧ nth o s ≤ 1440
theorem mins_set {x : List Int} {t : Nat} {a : Int} (h : Mins x) (ha : 0 ≤ a) (ha2 : a ≤ 1440) : Mins (x.set t a) := by
  refine ⟨by rw [List.length_set]; exact h.1, fun s hs => ?_⟩
  rw [nth_setI (by rw [h.1]; exact hs)]
  split
  · exact ⟨ha, ha2⟩
  · exact h.2 s hs
theorem mins_jac {o x : List Int} {r : Rid} (h : Mins x) (hr : okR r = true) : Mins (jacR o x r) := by
  obtain ⟨⟨e1, e2⟩, ⟨e3, e4⟩, _, ⟨e5, e6⟩, ⟨e7, e8⟩, _⟩ := okR_true.1 hr
  unfold jacR; split
  · have := h.2 r.t.toNat (by omega)
    exact mins_set h (by omega) (by omega)
  · exact h
theorem mins_start {fr : Nat} {m : Int} (h0 : 0 ≤ m) (h1 : m ≤ 1439) : Mins (start 1440 fr m) := by
  unfold start
  exact mins_set ⟨by simp, fun s hs => by rw [nth_eq (by simpa using hs), List.getElem_replicate]; omega⟩ h0 (by omega)
theorem mins_sweep {l : List Rid} (hg : ∀ i, i < l.length → okR (nth l i) = true) {o : List Int} (h : Mins o) : ∀ k, k ≤ l.length → Mins (sweep earR l o k)
  | 0, _ => h
  | k + 1, hk => by rw [sweep]; exact mins_jac (mins_sweep hg h k (by omega)) (hg k (by omega))
theorem mins_sweeps {l : List Rid} (hg : ∀ i, i < l.length → okR (nth l i) = true) {o : List Int} (h : Mins o) : ∀ k, Mins (sweeps earR l o k)
  | 0 => h
  | k + 1 => by rw [sweeps]; exact mins_sweep hg (mins_sweeps hg h k) _ (Nat.le_refl _)
theorem mins_jsweep {l : List Rid} (hg : ∀ i, i < l.length → okR (nth l i) = true) {o : List Int} (h : Mins o) : ∀ k, k ≤ l.length → Mins (jsweep l o k)
  | 0, _ => h
  | k + 1, hk => by rw [jsweep]; exact mins_jac (mins_jsweep hg h k (by omega)) (hg k (by omega))
theorem mins_jacs {l : List Rid} (hg : ∀ i, i < l.length → okR (nth l i) = true) {o : List Int} (h : Mins o) : ∀ k, Mins (jacs l o k)
  | 0 => h
  | k + 1 => by rw [jacs]; exact mins_jsweep hg (mins_jacs hg h k) _ (Nat.le_refl _)
def earG (x : Int) : Nat := x.toNat
theorem earR_sinks {l : List Rid} (hg : ∀ i, i < l.length → okR (nth l i) = true) : Sinks earG earR l := fun o k ho hk => by
  obtain ⟨⟨e1, e2⟩, ⟨e3, e4⟩, _, ⟨e5, e6⟩, ⟨e7, e8⟩, _⟩ := okR_true.1 (hg k hk)
  unfold earR jacR
  split
  · have hp := pot_set earG o (nth l k).t.toNat (min (nth o (nth l k).t.toNat) (nth l k).a) (by omega)
    by_cases hd : (nth l k).a < nth o (nth l k).t.toNat
    · left; unfold earG at hp ⊢; omega
    · right
      rw [show min (nth o (nth l k).t.toNat) (nth l k).a = nth o (nth l k).t.toNat by omega, set_nth (by omega)]
  · exact .inr rfl

/-- What is handed back in the reference's words. -/
def EndedE (l : List Rid) (o0 : List Int) (x : List Int) : Prop := ∃ o, Ended earR l o0 o ∧ x = decL o
set_option maxHeartbeats 1600000 in
theorem l15Arrivals_w (l : List Rid) (A : Option Addr) (cap : Nat) (fr : Nat) (m : Int) (w : World) (hl : l.length ≤ 1048576) (hr : Rd w w.heap.size 5 Rid.cells A l) (hg : ∀ i, i < l.length → okR (nth l i) = true) (ht : fr < 6) (hm : 0 ≤ m ∧ m ≤ 1439) :
    Calls Try.prog 64 #[.slice A l.length cap, .int .i64 fr, .int .i64 m] w (Gives' (EndedE l (start 1440 fr m)) w) := by
  have HG := Lib.hid hg
  have HMs := Lib.hid (mins_sweeps hg (mins_start (fr := fr) hm.1 hm.2))
  clear hg
  obtain ⟨hm0, hm1⟩ := hm
  go_enter Try.func64, Try.ntmps64
  go_wp2_with fail
  go_loopw [7, 8] (fun v i wr => ∃ k : Nat, k ≤ 6 ∧ i = .int .i64 k ∧ wr.ownsRow w.heap.size 3 1 v k ((List.replicate k (-1 : Int)).map (Value.int .i64)) ∧ Below w.heap.size w wr) (fun _ i _ => 6 - (intOf i).toNat)
  case atStart => exact ⟨0, Nat.zero_le _, rfl, ownsRow_empty w 3 1, (by repeat (first | (with_reducible exact Below.refl _ _) | ((with_reducible refine alloc_ ?_ ?_); (focus (first | exact Nat.le_refl _ | (simp; done) | (simp; omega) | omega))) | ((with_reducible refine set_ ?_ ?_); (focus (first | exact Nat.le_refl _ | (simp; done) | (simp; omega) | omega))) | (with_reducible refine Below.drew ?_) | ((with_reducible refine after_ ?_ (by assumption) ?_); (rotate_left; (focus (first | exact Nat.le_refl _ | (simp; done) | (simp; omega) | omega))))))⟩
  case round =>
    obtain ⟨k, hk, rfl, hown, hbel⟩ := hrel
    have HB := Lib.hid hbel
    have HO := Lib.hid hown
    have z1 := hbel.size
    clear hbel hown
    by_cases hlt : k < 6
    · go_wp2_with (at_builtin; refine wpList_push _ rfl _ _ 32 rfl w.heap.size 3 (.int .i64 0) 1 8 Try.underlying32 info_int rfl (by decide) (by decide) _ _ _ rfl (HO.out.alloc _) wr.heap.size [.int .i64 (-1)] rfl rfl ?c1 ?c2 ?c3 ?c4 ?_)
      case c1 =>
        intro j u hj
        match j, hj with
        | 0, hj => simp at hj; subst hj; simp [go_sem]
      case c2 => intro u hu; simp at hu; subst hu; rfl
      case c3 => omega
      case c4 => simp; omega
      intro v' w' hown' hb'
      have HO' := Lib.hid hown'
      have HB' := Lib.hid (HB.out.trans (((Below.refl _ _).alloc z1 _).trans hb'))
      clear hown' hb'
      go_wp2_with fail
      go_roundw
      case rel => exact ⟨k + 1, by omega, by go_num, by rw [List.replicate_succ']; simpa using HO'.out, HB'.out⟩
      case measure => simp [intOf]; omega
    · obtain rfl : k = 6 := by omega
      simp only [show ((6 : Nat) : Int) = 6 from rfl]
      obtain ⟨g, gc, rfl, hgb, harr⟩ := Arr.of_owns HO.out (by simp) (by omega)
      have hc := harr.cell (show fr < (List.replicate 6 (-1 : Int)).length by simp; omega)
      have hz := harr.frozen fr
      have HS := Lib.hid (show Arr (wr.setCell ⟨g, fr, none⟩ (.int .i64 m)) g (decL (start 1440 fr m)) by rw [decL_start hm1]; exact harr.set fr m)
      have HB2 := Lib.hid (HB.out.setCell (p := ⟨g, fr, none⟩) hgb (.int .i64 m))
      have glt := harr.lt
      clear harr
      go_wp2_with fail
      clear hc hz
      go_loopg [9, 10, 11] (2 * pot earG (start 1440 fr m) + 1) (fun gk ag _ _ wr => ∃ (n : Nat) (c : Bool), ag = .bool c ∧ 2 * pot earG (sweeps earR l (start 1440 fr m) n) + (if c = true then 1 else 0) ≤ gk ∧ (c = false → sweep earR l (sweeps earR l (start 1440 fr m) n) l.length = sweeps earR l (start 1440 fr m) n) ∧ Arr wr g (decL (sweeps earR l (start 1440 fr m) n)) ∧ Below w.heap.size w wr)
      case atStart => exact ⟨0, true, rfl, by simp [sweeps], (fun h => by cases h), HS.out, HB2.out⟩
      case round =>
        obtain ⟨n, c, rfl, hle, hst, harr, hbel⟩ := hrel
        have HBn := Lib.hid hbel
        have HAn := Lib.hid harr
        have HSt := Lib.hid hst
        have HLe := Lib.hid hle
        clear hst hle
        rcases c with _ | _
        · clear hbel harr
          go_wp2_with fail
          go_ret
          exact ⟨_, ⟨_, ⟨n, rfl, by first | exact HSt.out rfl | exact HSt.out trivial⟩, rfl⟩, g, gc, retG (by rw [decL_len]; exact (HMs.out n).1), hgb, HAn.out, HBn.out⟩
        · clear hbel harr
          obtain ⟨o, ho⟩ : ∃ o, sweeps earR l (start 1440 fr m) n = o := ⟨_, rfl⟩
          have HO := Lib.hid (show Mins o by rw [← ho]; exact HMs.out n)
          rw [ho] at HAn HLe HSt
          have Ho := Lib.hid ho
          clear ho
          go_wp2_with fail
          go_loopw [9, 10, 11] (fun ag i _ wr => ∃ k : Nat, k ≤ l.length ∧ i = .int .i64 k ∧ ag = .bool (decide (pot earG (sweep earR l o k) < pot earG o)) ∧ Arr wr g (decL (sweep earR l o k)) ∧ Below w.heap.size w wr) (fun _ i _ _ => l.length - (intOf i).toNat)
          case atStart => exact ⟨0, Nat.zero_le _, rfl, by simp [sweep], HAn.out, HBn.out⟩
          case round =>
            obtain ⟨k, hk, rfl, rfl, harr, hbel⟩ := hrel
            have HB := Lib.hid hbel
            have HA := Lib.hid harr
            have z1 := hbel.size
            by_cases hlk : k < l.length
            · obtain ⟨b, off, rfl, hb1, hc0, hc1, hc2, hc3, hc4⟩ := Rid.rd (hr.below hbel (Nat.le_refl _)) hlk
              obtain ⟨⟨e1, e2⟩, ⟨e3, e4⟩, _, ⟨e5, e6⟩, ⟨e7, e8⟩, _⟩ := okR_true.1 (HG.out k hlk)
              obtain ⟨f, hf⟩ : ∃ f : Nat, (nth l k).f = (f : Int) := ⟨(nth l k).f.toNat, by omega⟩
              obtain ⟨t, ht⟩ : ∃ t : Nat, (nth l k).t = (t : Int) := ⟨(nth l k).t.toNat, by omega⟩
              obtain ⟨o', ho'⟩ : ∃ o', sweep earR l o k = o' := ⟨_, rfl⟩
              have hM := mins_sweep HG.out HO.out k hk
              have HW := Lib.hid (sweep_was (g := earG) earR_len (earR_sinks HG.out) HO.out.1 hlk)
              rw [ho'] at harr HA HW hM
              have Ho' := Lib.hid ho'
              have Hs := Lib.hid (show sweep earR l o (k + 1) = jacR o' o' (nth l k) by rw [sweep, ho']; rfl)
              rw [hf] at hc0 e1 e2
              rw [ht] at hc1 e3 e4
              have hM6 := hM.1
              have hd0 := harr.cell (show f < (decL o').length by rw [decL_len]; omega)
              have hd1 := harr.cell (show t < (decL o').length by rw [decL_len]; omega)
              rw [decL_nth (by omega)] at hd0 hd1
              have hz := harr.frozen t
              obtain ⟨v1, v2⟩ := hM.2 f (by omega)
              obtain ⟨v3, v4⟩ := hM.2 t (by omega)
              obtain ⟨X, hX⟩ : ∃ X, dec (nth o' f) = X := ⟨_, rfl⟩
              obtain ⟨Y, hY⟩ : ∃ Y, dec (nth o' t) = Y := ⟨_, rfl⟩
              rw [hX] at hd0
              rw [hY] at hd1
              have HXd := Lib.hid (show (nth o' f = 1440 ∧ X = -1) ∨ (nth o' f = X ∧ 0 ≤ X ∧ X < 1440) by
                unfold dec at hX; split at hX <;> omega)
              have HYd := Lib.hid (show (nth o' t = 1440 ∧ Y = -1) ∨ (nth o' t = Y ∧ 0 ≤ Y ∧ Y < 1440) by
                unfold dec at hY; split at hY <;> omega)
              have HF := Lib.hid hf
              have HT := Lib.hid ht
              have H6 := Lib.hid hM6
              have l1 : b < wr.heap.size := by omega
              have l2 := harr.lt
              have l4 : g ≠ wr.heap.size := by omega
              have i1 : (0 : Int) ≤ (f : Int) := by omega
              have i2 : (f : Int) < 6 := by omega
              have i3 : (0 : Int) ≤ (t : Int) := by omega
              have i4 : (t : Int) < 6 := by omega
              clear hf ht ho' harr hbel hX hY hM hM6 v1 v2 v3 v4
              by_cases q1 : 0 ≤ X
              case neg =>
                have q1' : decide (0 ≤ X) = false := decide_eq_false q1
                have H := Lib.hid (show sweep earR l o (k + 1) = o' by rw [Hs.out]; exact jacR_no HF.out (by rcases HXd.out with h | h <;> omega))
                go_wp2_with fail
                refine wp_region_mem (by kernel_rfl) (by kernel_rfl) ?_
                repeat (go_big_quiet_step (fail))
                refine wpQuiet_nil ?_
                intro _ hw'
                obtain ⟨⟨wq, hbq⟩, hw''⟩ := hw'
                obtain rfl := hw''.symm
                obtain ⟨hcq, hfq, hzq⟩ := bcell hbq
                try simp [Nat.add_one_le_iff] at hzq
                go_wp2_with fail
                go_roundw
                case rel => exact ⟨k + 1, by omega, by go_num, by rw [H.out, Ho'.out], by rw [H.out]; exact HA.out.carry (by repeat (first | (with_reducible exact Below.refl _ _) | ((with_reducible refine alloc_ ?_ ?_); (focus (first | exact Nat.le_refl _ | (simp; done) | (simp; omega) | omega))) | ((with_reducible refine set_ ?_ ?_); (focus (first | exact Nat.le_refl _ | (simp; done) | (simp; omega) | omega))) | (with_reducible refine Below.drew ?_) | ((with_reducible refine after_ ?_ (by assumption) ?_); (rotate_left; (focus (first | exact Nat.le_refl _ | (simp; done) | (simp; omega) | omega)))))), (HB.out.trans (Below.mono (B := wr.heap.size) (by repeat (first | (with_reducible exact Below.refl _ _) | ((with_reducible refine alloc_ ?_ ?_); (focus (first | exact Nat.le_refl _ | (simp; done) | (simp; omega) | omega))) | ((with_reducible refine set_ ?_ ?_); (focus (first | exact Nat.le_refl _ | (simp; done) | (simp; omega) | omega))) | (with_reducible refine Below.drew ?_) | ((with_reducible refine after_ ?_ (by assumption) ?_); (rotate_left; (focus (first | exact Nat.le_refl _ | (simp; done) | (simp; omega) | omega)))))) z1))⟩
                case measure => simp [intOf]; omega
              by_cases q2 : X ≤ (nth l k).d
              case neg =>
                have q2' : decide (X ≤ (nth l k).d) = false := decide_eq_false q2
                have H := Lib.hid (show sweep earR l o (k + 1) = o' by rw [Hs.out]; exact jacR_no HF.out (by rcases HXd.out with h | h <;> omega))
                go_wp2_with fail
                refine wp_region_mem (by kernel_rfl) (by kernel_rfl) ?_
                repeat (go_big_quiet_step (fail))
                refine wpQuiet_nil ?_
                intro _ hw'
                obtain ⟨⟨wq, hbq⟩, hw''⟩ := hw'
                obtain rfl := hw''.symm
                obtain ⟨hcq, hfq, hzq⟩ := bcell hbq
                try simp [Nat.add_one_le_iff] at hzq
                go_wp2_with fail
                go_roundw
                case rel => exact ⟨k + 1, by omega, by go_num, by rw [H.out, Ho'.out], by rw [H.out]; exact HA.out.carry (by repeat (first | (with_reducible exact Below.refl _ _) | ((with_reducible refine alloc_ ?_ ?_); (focus (first | exact Nat.le_refl _ | (simp; done) | (simp; omega) | omega))) | ((with_reducible refine set_ ?_ ?_); (focus (first | exact Nat.le_refl _ | (simp; done) | (simp; omega) | omega))) | (with_reducible refine Below.drew ?_) | ((with_reducible refine after_ ?_ (by assumption) ?_); (rotate_left; (focus (first | exact Nat.le_refl _ | (simp; done) | (simp; omega) | omega)))))), (HB.out.trans (Below.mono (B := wr.heap.size) (by repeat (first | (with_reducible exact Below.refl _ _) | ((with_reducible refine alloc_ ?_ ?_); (focus (first | exact Nat.le_refl _ | (simp; done) | (simp; omega) | omega))) | ((with_reducible refine set_ ?_ ?_); (focus (first | exact Nat.le_refl _ | (simp; done) | (simp; omega) | omega))) | (with_reducible refine Below.drew ?_) | ((with_reducible refine after_ ?_ (by assumption) ?_); (rotate_left; (focus (first | exact Nat.le_refl _ | (simp; done) | (simp; omega) | omega)))))) z1))⟩
                case measure => simp [intOf]; omega
              have HZ := Lib.hid (show sweep earR l o (k + 1) = o'.set t (min (nth o' t) (nth l k).a) by rw [Hs.out]; exact jacR_yes HF.out HT.out (by rcases HXd.out with h | h <;> omega))
              by_cases q3 : Y < 0 ∨ (nth l k).a < Y
              · have hmin : min (nth o' t) (nth l k).a = (nth l k).a := by rcases HYd.out with h | h <;> omega
                have H := Lib.hid (show sweep earR l o (k + 1) = o'.set t (nth l k).a by rw [HZ.out, hmin])
                have HP := Lib.hid (show decide (pot earG (sweep earR l o (k + 1)) < pot earG o) = true by
                  apply HW.out
                  have h9 : earR o' (nth l k) = o'.set t (nth l k).a := by rw [← H.out, Hs.out]; rfl
                  rw [h9]
                  have hp := pot_set earG o' t (nth l k).a (by have := H6.out; omega)
                  unfold earG at hp ⊢
                  rcases HYd.out with h | h <;> omega)
                clear hmin
                by_cases q4 : Y < 0
                case pos =>
                  go_wp2_with fail
                  refine wp_region_mem (by kernel_rfl) (by kernel_rfl) ?_
                  repeat (go_big_quiet_step (fail))
                  refine wpQuiet_nil ?_
                  intro _ hw'
                  obtain ⟨⟨wq, hbq⟩, hw''⟩ := hw'
                  obtain rfl := hw''.symm
                  obtain ⟨hcq, hfq, hzq⟩ := bcell hbq
                  try simp [Nat.add_one_le_iff] at hzq
                  go_wp2_with fail
                  have HD := Lib.hid (show Below wr.heap.size wr wq from (by repeat (first | (with_reducible exact Below.refl _ _) | ((with_reducible refine alloc_ ?_ ?_); (focus (first | exact Nat.le_refl _ | (simp; done) | (simp; omega) | omega))) | ((with_reducible refine set_ ?_ ?_); (focus (first | exact Nat.le_refl _ | (simp; done) | (simp; omega) | omega))) | (with_reducible refine Below.drew ?_) | ((with_reducible refine after_ ?_ (by assumption) ?_); (rotate_left; (focus (first | exact Nat.le_refl _ | (simp; done) | (simp; omega) | omega)))))))
                  have HX := Lib.hid ((Box.new wr [.int .i64 f, .int .i64 t, .int .i64 (nth l k).d, .int .i64 (nth l k).a, .int .i64 (nth l k).s] 52).carry hbq)
                  go_wp2_with fail
                  go_roundw
                  case rel => exact ⟨k + 1, by omega, by go_num, by rw [HP.out], by rw [H.out, decL_set (by omega)]; exact (HA.out.carry HD.out).set t _, HB.out.trans ((HD.out.mono z1).setCell (p := ⟨g, t, none⟩) hgb _)⟩
                  case measure => simp [intOf]; omega
                case neg =>
                  have q4' : decide (Y < 0) = false := decide_eq_false q4
                  have q5 : (nth l k).a < Y := by omega
                  clear q3
                  go_wp2_with fail
                  refine wp_region_mem (by kernel_rfl) (by kernel_rfl) ?_
                  repeat (go_big_quiet_step (fail))
                  refine wpQuiet_nil ?_
                  intro _ hw'
                  obtain ⟨⟨wq, hbq⟩, hw''⟩ := hw'
                  obtain rfl := hw''.symm
                  obtain ⟨hcq, hfq, hzq⟩ := bcell hbq
                  try simp [Nat.add_one_le_iff] at hzq
                  go_wp2_with fail
                  have HD := Lib.hid (show Below wr.heap.size wr wq from (by repeat (first | (with_reducible exact Below.refl _ _) | ((with_reducible refine alloc_ ?_ ?_); (focus (first | exact Nat.le_refl _ | (simp; done) | (simp; omega) | omega))) | ((with_reducible refine set_ ?_ ?_); (focus (first | exact Nat.le_refl _ | (simp; done) | (simp; omega) | omega))) | (with_reducible refine Below.drew ?_) | ((with_reducible refine after_ ?_ (by assumption) ?_); (rotate_left; (focus (first | exact Nat.le_refl _ | (simp; done) | (simp; omega) | omega)))))))
                  have HX := Lib.hid ((Box.new wr [.int .i64 f, .int .i64 t, .int .i64 (nth l k).d, .int .i64 (nth l k).a, .int .i64 (nth l k).s] 52).carry hbq)
                  go_wp2_with fail
                  go_roundw
                  case rel => exact ⟨k + 1, by omega, by go_num, by rw [HP.out], by rw [H.out, decL_set (by omega)]; exact (HA.out.carry HD.out).set t _, HB.out.trans ((HD.out.mono z1).setCell (p := ⟨g, t, none⟩) hgb _)⟩
                  case measure => simp [intOf]; omega
              · have q4' : decide (Y < 0) = false := decide_eq_false (by omega)
                have q5' : decide ((nth l k).a < Y) = false := decide_eq_false (by omega)
                have hmin : min (nth o' t) (nth l k).a = nth o' t := by rcases HYd.out with h | h <;> omega
                have H := Lib.hid (show sweep earR l o (k + 1) = o' by rw [HZ.out, hmin, set_nth (by have := H6.out; omega)])
                clear q3 hmin
                go_wp2_with fail
                refine wp_region_mem (by kernel_rfl) (by kernel_rfl) ?_
                repeat (go_big_quiet_step (fail))
                refine wpQuiet_nil ?_
                intro _ hw'
                obtain ⟨⟨wq, hbq⟩, hw''⟩ := hw'
                obtain rfl := hw''.symm
                obtain ⟨hcq, hfq, hzq⟩ := bcell hbq
                try simp [Nat.add_one_le_iff] at hzq
                go_wp2_with fail
                go_roundw
                case rel => exact ⟨k + 1, by omega, by go_num, by rw [H.out, Ho'.out], by rw [H.out]; exact HA.out.carry (by repeat (first | (with_reducible exact Below.refl _ _) | ((with_reducible refine alloc_ ?_ ?_); (focus (first | exact Nat.le_refl _ | (simp; done) | (simp; omega) | omega))) | ((with_reducible refine set_ ?_ ?_); (focus (first | exact Nat.le_refl _ | (simp; done) | (simp; omega) | omega))) | (with_reducible refine Below.drew ?_) | ((with_reducible refine after_ ?_ (by assumption) ?_); (rotate_left; (focus (first | exact Nat.le_refl _ | (simp; done) | (simp; omega) | omega)))))), (HB.out.trans (Below.mono (B := wr.heap.size) (by repeat (first | (with_reducible exact Below.refl _ _) | ((with_reducible refine alloc_ ?_ ?_); (focus (first | exact Nat.le_refl _ | (simp; done) | (simp; omega) | omega))) | ((with_reducible refine set_ ?_ ?_); (focus (first | exact Nat.le_refl _ | (simp; done) | (simp; omega) | omega))) | (with_reducible refine Below.drew ?_) | ((with_reducible refine after_ ?_ (by assumption) ?_); (rotate_left; (focus (first | exact Nat.le_refl _ | (simp; done) | (simp; omega) | omega)))))) z1))⟩
                case measure => simp [intOf]; omega
            · obtain rfl : k = l.length := by omega
              clear hbel harr
              go_wp2_with fail
              rcases sweep_sinks earR_len (earR_sinks HG.out) HO.out.1 l.length (Nat.le_refl _) with hc | hc
              · go_roundg (2 * pot earG (sweeps earR l (start 1440 fr m) (n + 1)) + 1)
                case measure => have := HLe.out; rw [sweeps, Ho.out]; simp only [if_true] at this; omega
                case rel => exact ⟨n + 1, true, by rw [decide_eq_true hc], by simp, (fun h => by cases h), by rw [sweeps, Ho.out]; exact HA.out, HB.out⟩
              · go_roundg (2 * pot earG (sweeps earR l (start 1440 fr m) (n + 1)))
                case measure => have := HLe.out; rw [sweeps, Ho.out, hc]; simp only [if_true] at this; omega
                case rel => exact ⟨n + 1, false, by rw [hc]; simp, by simp, (fun _ => by rw [sweeps, Ho.out, hc, hc]), by rw [sweeps, Ho.out]; exact HA.out, HB.out⟩
end Go.Proofs.Ytddnemmdlijgiaa
