/- The earliest minutes at all stops: what the program's rounds and the reference's rounds compute; no conditions but that the timetable and what is asked are valid. -/
import Derived.Test.YtddnemmdlijgiaaLate
import Derived.WalkSpells
namespace Go.Proofs.Ytddnemmdlijgiaa
open Go.RowKit

def jacR (o x : List Int) (r : Rid) : List Int := if nth o r.f.toNat ≤ r.d then x.set r.t.toNat (min (nth x r.t.toNat) r.a) else x
def jsweep (l : List Rid) (o : List Int) : Nat → List Int
  | 0 => o
  | k + 1 => jacR o (jsweep l o k) (nth l k)
def jacs (l : List Rid) (o : List Int) : Nat → List Int
  | 0 => o
  | n + 1 => jsweep l (jacs l o n) l.length
theorem jacR_len (o x : List Int) (r : Rid) : (jacR o x r).length = x.length := by unfold jacR; split <;> simp
theorem jsweep_len (l : List Rid) (o : List Int) : ∀ k, (jsweep l o k).length = o.length
  | 0 => rfl
  | k + 1 => by rw [jsweep, jacR_len, jsweep_len l o k]
theorem jacs_len (l : List Rid) (o : List Int) : ∀ k, (jacs l o k).length = o.length
  | 0 => rfl
  | k + 1 => by rw [jacs, jsweep_len, jacs_len l o k]
theorem jacR_yes {o x : List Int} {r : Rid} {f t : Nat} (hf : r.f = f) (ht : r.t = t) (h : nth o f ≤ r.d) : jacR o x r = x.set t (min (nth x t) r.a) := by
  unfold jacR; rw [hf, ht]; simp [h]
theorem jacR_no {o x : List Int} {r : Rid} {f : Nat} (hf : r.f = f) (h : ¬ nth o f ≤ r.d) : jacR o x r = x := by
  unfold jacR; rw [hf]; simp [h]
/-- An empty slice with the numbers of a list appended. -/
theorem Arr.news {w : World} {g : Nat} {o : List Int} (h : Arr w g o) : ∀ j u, (o.map (Value.int .i64))[j]? = some u → w.cell? ⟨g, 0 + j, none⟩ = some u := fun j u hj => by
  have hlt : j < o.length := by simpa using (List.getElem?_eq_some_iff.1 hj).1
  have e : (o.map (Value.int .i64))[j]? = some (.int .i64 (nth o j)) := by simp [nth_eq hlt, hlt]
  rw [e] at hj
  rw [Nat.zero_add, h.cell hlt, ← hj]
theorem ints_one (o : List Int) : ∀ u ∈ o.map (Value.int .i64), u.oneCell' = true := fun u hu => by
  obtain ⟨x, _, rfl⟩ := List.mem_map.1 hu; rfl
theorem clone_c (o : List Int) (g cap : Nat) (w : World) (hl : o.length ≤ 1048576) (h0 : 0 < o.length) (ha : Arr w g o) :
    Calls Try.prog 74 #[.slice (some ⟨g, 0, none⟩) o.length cap] w (Gives o w) := by
  have q22 : ∀ (w : World) (a : Option Addr) (n c n' c' : Nat), (binOp .eql 32 (.slice a n c) (.slice none n' c')).run Try.prog w = .ok (.bool a.isNone) w := fun w a n c n' c' => Lib.run_eql_slice_nil w _ _ a n c n' c' Try.underlying32
  have HA := Lib.hid ha
  have HE := Lib.hid (ownsRow_empty w 3 1)
  clear ha
  go_enter Try.func74, Try.ntmps74
  go_wp2_with (at_builtin; refine wpList_extend _ rfl _ _ 32 rfl w.heap.size 3 (.int .i64 0) 1 8 Try.underlying32 info_int rfl (by decide) (by decide) _ 0 [] rfl HE.out g 0 o.length cap (o.map (Value.int .i64)) rfl (by simp) (HA.out.carry ((Below.refl _ _).alloc (Nat.le_refl _) _)).news (ints_one o) (by omega) (by simp) ?_)
  intro v' w' hown' hb' _
  obtain ⟨g', cap', rfl, hg', ha'⟩ := Arr.of_owns (o := o) (by simpa using hown') (by omega) (by omega)
  have HA' := Lib.hid ha'
  have HB' := Lib.hid (show Below w.heap.size w w' from ((Below.refl _ _).alloc (Nat.le_refl _) _).trans hb')
  clear hown' hb' ha'
  go_wp2_with fail
  go_ret
  exact ⟨g', cap', rfl, hg', HA'.out, HB'.out⟩
theorem l1Own_c (o : List Int) (g cap : Nat) (w : World) (hl : o.length ≤ 1048576) (h0 : 0 < o.length) (ha : Arr w g o) :
    Calls Try.prog 66 #[.slice (some ⟨g, 0, none⟩) o.length cap] w (Gives o w) := by
  have HA := Lib.hid ha
  have HE := Lib.hid (ownsRow_empty w 3 1)
  clear ha
  go_enter Try.func66, Try.ntmps66
  go_wp2_with (at_builtin; refine wpList_extend _ rfl _ _ 32 rfl w.heap.size 3 (.int .i64 0) 1 8 Try.underlying32 info_int rfl (by decide) (by decide) _ 0 [] rfl HE.out g 0 o.length cap (o.map (Value.int .i64)) rfl (by simp) (HA.out.carry ((Below.refl _ _).alloc (Nat.le_refl _) _)).news (ints_one o) (by omega) (by simp) ?_)
  intro v' w' hown' hb' _
  obtain ⟨g', cap', rfl, hg', ha'⟩ := Arr.of_owns (o := o) (by simpa using hown') (by omega) (by omega)
  have HA' := Lib.hid ha'
  have HB' := Lib.hid (show Below w.heap.size w w' from ((Below.refl _ _).alloc (Nat.le_refl _) _).trans hb')
  clear hown' hb' ha'
  go_wp2_with fail
  go_ret
  exact ⟨g', cap', rfl, hg', HA'.out, HB'.out⟩
set_option maxHeartbeats 800000 in
theorem earliest_c (l : List Rid) (A : Option Addr) (cap : Nat) (fr : Nat) (m : Int) (most : Nat) (w : World) (hr : Rd w w.heap.size 5 Rid.cells A l) (hg : l.length ≤ 12 ∧ ∀ i, i < l.length → okR (nth l i) = true) (hf : fr < 6) (hm : most ≤ 100) :
    Calls Try.prog 65 #[.slice A l.length cap, .int .i64 fr, .int .i64 m, .int .i64 most] w (Gives (jacs l (start 1440 fr m) most) w) := by
  obtain ⟨hl, hg⟩ := hg
  have HG := Lib.hid hg
  clear hg
  have hmk : ∀ w : World, (Instr.makeSlice 32 (.int .i64 6) (.int .i64 6)).run Try.prog w = .ok (.slice (some ⟨w.heap.size, 0, none⟩) 6 6) (w.alloc (.cells #[.int .i64 0, .int .i64 0, .int .i64 0, .int .i64 0, .int .i64 0, .int .i64 0] 3)) := fun _ => by kernel_rfl
  go_enter Try.func65, Try.ntmps65
  go_wp2_with fail
  go_loopw [10, 17] (fun _ i wr => ∃ (k : Nat) (o : List Int), k ≤ 6 ∧ i = .int .i64 k ∧ o.length = 6 ∧ (∀ j, j < k → nth o j = 1440) ∧ Arr wr w.heap.size o ∧ Below w.heap.size w wr) (fun _ i _ => 6 - (intOf i).toNat)
  case atStart => exact ⟨0, [0, 0, 0, 0, 0, 0], Nat.zero_le _, rfl, rfl, fun j hj => absurd hj (by omega), Arr.new w [0, 0, 0, 0, 0, 0] _ rfl, (by repeat (first | (with_reducible exact Below.refl _ _) | ((with_reducible refine alloc_ ?_ ?_); (focus (first | exact Nat.le_refl _ | (simp; done) | (simp; omega) | omega))) | ((with_reducible refine set_ ?_ ?_); (focus (first | exact Nat.le_refl _ | (simp; done) | (simp; omega) | omega))) | (with_reducible refine Below.drew ?_) | ((with_reducible refine after_ ?_ (by assumption) ?_); (rotate_left; (focus (first | exact Nat.le_refl _ | (simp; done) | (simp; omega) | omega))))))⟩
  case round =>
    obtain ⟨k, o, hk, rfl, hlen, hneg, harr, hbel⟩ := hrel
    have HB := Lib.hid hbel
    have HN := Lib.hid hneg
    have HA := Lib.hid harr
    have HL := Lib.hid hlen
    clear hneg hlen
    by_cases hlt : k < 6
    · have hc := harr.cell (show k < o.length by have := HL.out; omega)
      have hz := harr.frozen k
      clear hbel harr
      go_wp2_with fail
      go_roundw
      case rel => exact ⟨k + 1, _, by omega, by go_num, by rw [List.length_set]; exact HL.out, fun j hj => by
        rw [nth_setI (by rw [HL.out]; omega)]
        by_cases e : k = j
        · rw [if_pos e]
        · rw [if_neg e]; exact HN.out j (by omega), HA.out.set k 1440, HB.out.setCell (p := ⟨w.heap.size, k, none⟩) (Nat.le_refl _) _⟩
      case measure => simp [intOf]; omega
    · obtain rfl : k = 6 := by omega
      simp only [show ((6 : Nat) : Int) = 6 from rfl]
      have HE := Lib.hid (filled HL.out HN.out)
      have hto : fr < o.length := by have := HL.out; omega
      have hc := harr.cell hto
      have hz := harr.frozen fr
      have HS := Lib.hid (show Arr (wr.setCell ⟨w.heap.size, fr, none⟩ (.int .i64 m)) w.heap.size (start 1440 fr m) by have := HA.out.set fr m; rw [HE.out] at this; exact this)
      have HB2 := Lib.hid (HB.out.setCell (p := ⟨w.heap.size, fr, none⟩) (Nat.le_refl _) (.int .i64 m))
      clear hbel harr
      go_wp2_with fail
      have hlen6 : (start 1440 fr m).length = 6 := start_len _ _ _
      have HL6 := Lib.hid (fun n => (jacs_len l (start 1440 fr m) n).trans hlen6)
      clear hlen6 hc hz hto
      go_loopw [9, 11, 13, 29, 35] (fun v _ _ i _ wr => ∃ (n g gc : Nat), n ≤ most ∧ i = .int .i64 n ∧ v = .slice (some ⟨g, 0, none⟩) 6 gc ∧ w.heap.size ≤ g ∧ Arr wr g (jacs l (start 1440 fr m) n) ∧ Below w.heap.size w wr) (fun _ _ _ i _ _ => most - (intOf i).toNat)
      case atStart => exact ⟨0, w.heap.size, 6, Nat.zero_le _, rfl, rfl, Nat.le_refl _, HS.out, HB2.out⟩
      case round =>
        obtain ⟨n, g, gc, hn, rfl, rfl, hgb, harr, hbel⟩ := hrel
        have HBn := Lib.hid hbel
        have HAn := Lib.hid harr
        have zn := hbel.size
        by_cases hlt : n < most
        · have hdn : decide ((n : Int) < most) = true := decide_eq_true (by omega)
          have hdn2 : decide (n < most) = true := decide_eq_true hlt
          obtain ⟨o, ho⟩ : ∃ o, jacs l (start 1440 fr m) n = o := ⟨_, rfl⟩
          have HO := Lib.hid (show o.length = 6 by rw [← ho]; exact HL6.out n)
          rw [ho] at HAn
          have Ho := Lib.hid ho
          clear hbel harr ho
          go_wp2_with fail
          have hcl := clone_c o g gc wr (by have := HO.out; omega) (by have := HO.out; omega) HAn.out
          rw [HO.out] at hcl
          refine hcl.mono ?_
          rintro e w2 ⟨g2, gc2, rfl, hg2, harr2, hb2⟩
          rw [HO.out]
          have HA2 := Lib.hid harr2
          have HA1 := Lib.hid (HAn.out.carry hb2)
          have HB2 := Lib.hid (HBn.out.trans (hb2.mono zn))
          have hlg := HAn.out.lt
          clear harr2 hb2 hcl
          go_wp2_with fail
          go_loopw [13, 35] (fun _ i wr => ∃ k : Nat, k ≤ l.length ∧ i = .int .i64 k ∧ Arr wr g o ∧ Arr wr g2 (jsweep l o k) ∧ Below w.heap.size w wr) (fun _ i _ => l.length - (intOf i).toNat)
          case atStart => exact ⟨0, Nat.zero_le _, rfl, HA1.out, HA2.out, HB2.out⟩
          case round =>
            obtain ⟨k, hk, rfl, harr, harr2, hbel⟩ := hrel
            have HB := Lib.hid hbel
            have HA := Lib.hid harr
            have z1 := hbel.size
            by_cases hlk : k < l.length
            · obtain ⟨b, off, rfl, hb1, hc0, hc1, hc2, hc3, hc4⟩ := Rid.rd (hr.below hbel (Nat.le_refl _)) hlk
              obtain ⟨⟨e1, e2⟩, ⟨e3, e4⟩, _, ⟨e5, e6⟩, ⟨e7, e8⟩, _⟩ := okR_true.1 (HG.out k hlk)
              obtain ⟨f, hf⟩ : ∃ f : Nat, (nth l k).f = (f : Int) := ⟨(nth l k).f.toNat, by omega⟩
              obtain ⟨t, ht⟩ : ∃ t : Nat, (nth l k).t = (t : Int) := ⟨(nth l k).t.toNat, by omega⟩
              obtain ⟨x, hx⟩ : ∃ x, jsweep l o k = x := ⟨_, rfl⟩
              have HX6 := Lib.hid (show x.length = 6 by rw [← hx, jsweep_len]; exact HO.out)
              rw [hx] at harr2
              have HA3 := Lib.hid harr2
              have Hx := Lib.hid hx
              rw [hf] at hc0 e1 e2
              rw [ht] at hc1 e3 e4
              have hd0 := harr.cell (show f < o.length by have := HO.out; omega)
              have hd1 := harr2.cell (show t < x.length by have := HX6.out; omega)
              have hz := harr2.frozen t
              have HF := Lib.hid hf
              have HT := Lib.hid ht
              have l1 : b < wr.heap.size := by omega
              have l2 := harr.lt
              have l3 := harr2.lt
              have i1 : (0 : Int) ≤ (f : Int) := by omega
              have i2 : (f : Int) < 6 := by omega
              have i3 : (0 : Int) ≤ (t : Int) := by omega
              have i4 : (t : Int) < 6 := by omega
              clear hf ht hx harr harr2 hbel
              by_cases hq : nth o f ≤ (nth l k).d
              · have H := Lib.hid (show jsweep l o (k + 1) = x.set t (min (nth x t) (nth l k).a) by rw [jsweep, Hx.out]; exact jacR_yes HF.out HT.out hq)
                go_wp2_with fail
                refine wp_region_mem (by kernel_rfl) (by kernel_rfl) ?_
                repeat (go_big_quiet_step (fail))
                refine wpQuiet_nil ?_
                intro _ hw'
                obtain ⟨⟨wq, hbq⟩, hw''⟩ := hw'
                obtain rfl := hw''.symm
                obtain ⟨hcq, hfq, hzq⟩ := bcell hbq
                try simp [Nat.add_one_le_iff] at hzq
                have HD0 := Lib.hid (show Below wr.heap.size wr wq from (by repeat (first | (with_reducible exact Below.refl _ _) | ((with_reducible refine alloc_ ?_ ?_); (focus (first | exact Nat.le_refl _ | (simp; done) | (simp; omega) | omega))) | ((with_reducible refine set_ ?_ ?_); (focus (first | exact Nat.le_refl _ | (simp; done) | (simp; omega) | omega))) | (with_reducible refine Below.drew ?_) | ((with_reducible refine after_ ?_ (by assumption) ?_); (rotate_left; (focus (first | exact Nat.le_refl _ | (simp; done) | (simp; omega) | omega)))))))
                have HX := Lib.hid ((Box.new wr [.int .i64 f, .int .i64 t, .int .i64 (nth l k).d, .int .i64 (nth l k).a, .int .i64 (nth l k).s] 52).carry hbq)
                go_wp2_with fail
                clear hcq hfq hw'' hbq
                refine wp_region_tail 12 (by kernel_rfl) (by kernel_rfl) fun wd hbd hcd => ?_
                have HD := Lib.hid (HD0.out.trans (hbd.mono (Nat.le_of_lt hzq)))
                have x1 := (HX.out.carry hbd).cell (j := 1) rfl
                have x3 := (HX.out.carry hbd).cell (j := 3) rfl
                have hA3 := HA3.out.carry HD.out
                have x5 := hA3.cell (show t < x.length by have := HX6.out; omega)
                have xz := hA3.frozen t
                clear hbd hcd hA3
                simp only [List.take_succ_cons, List.take_zero, List.drop_succ_cons, List.drop_zero]
                repeat still_step
                refine wpStill_nil ?_
                go_wp2_with fail
                go_roundw
                case rel => exact ⟨k + 1, by omega, by go_num, (HA.out.carry HD.out).far (p := ⟨g2, t, none⟩) (by show g ≠ g2; omega) _, by rw [H.out]; exact (HA3.out.carry HD.out).set t _, HB.out.trans ((HD.out.mono z1).setCell (p := ⟨g2, t, none⟩) (by show w.heap.size ≤ g2; omega) _)⟩
                case measure => simp [intOf]; omega
              · have H := Lib.hid (show jsweep l o (k + 1) = x by rw [jsweep, Hx.out]; exact jacR_no HF.out hq)
                go_wp2_with fail
                refine wp_region_mem (by kernel_rfl) (by kernel_rfl) ?_
                repeat (go_big_quiet_step (fail))
                refine wpQuiet_nil ?_
                intro _ hw'
                obtain ⟨⟨wq, hbq⟩, hw''⟩ := hw'
                obtain rfl := hw''.symm
                obtain ⟨hcq, hfq, hzq⟩ := bcell hbq
                try simp [Nat.add_one_le_iff] at hzq
                go_wp2_with fail
                go_roundw
                case rel => exact ⟨k + 1, by omega, by go_num, HA.out.carry (by repeat (first | (with_reducible exact Below.refl _ _) | ((with_reducible refine alloc_ ?_ ?_); (focus (first | exact Nat.le_refl _ | (simp; done) | (simp; omega) | omega))) | ((with_reducible refine set_ ?_ ?_); (focus (first | exact Nat.le_refl _ | (simp; done) | (simp; omega) | omega))) | (with_reducible refine Below.drew ?_) | ((with_reducible refine after_ ?_ (by assumption) ?_); (rotate_left; (focus (first | exact Nat.le_refl _ | (simp; done) | (simp; omega) | omega)))))), by rw [H.out]; exact HA3.out.carry (by repeat (first | (with_reducible exact Below.refl _ _) | ((with_reducible refine alloc_ ?_ ?_); (focus (first | exact Nat.le_refl _ | (simp; done) | (simp; omega) | omega))) | ((with_reducible refine set_ ?_ ?_); (focus (first | exact Nat.le_refl _ | (simp; done) | (simp; omega) | omega))) | (with_reducible refine Below.drew ?_) | ((with_reducible refine after_ ?_ (by assumption) ?_); (rotate_left; (focus (first | exact Nat.le_refl _ | (simp; done) | (simp; omega) | omega)))))), (HB.out.trans (Below.mono (B := wr.heap.size) (by repeat (first | (with_reducible exact Below.refl _ _) | ((with_reducible refine alloc_ ?_ ?_); (focus (first | exact Nat.le_refl _ | (simp; done) | (simp; omega) | omega))) | ((with_reducible refine set_ ?_ ?_); (focus (first | exact Nat.le_refl _ | (simp; done) | (simp; omega) | omega))) | (with_reducible refine Below.drew ?_) | ((with_reducible refine after_ ?_ (by assumption) ?_); (rotate_left; (focus (first | exact Nat.le_refl _ | (simp; done) | (simp; omega) | omega)))))) z1))⟩
                case measure => simp [intOf]; omega
            · obtain rfl : k = l.length := by omega
              have HA3 := Lib.hid harr2
              clear hbel harr harr2
              go_wp2_with fail
              go_roundw
              case rel => exact ⟨n + 1, g2, gc2, by omega, by go_num, rfl, by omega, by rw [jacs, Ho.out]; exact HA3.out, HB.out⟩
              case measure => simp [intOf]; omega
        · obtain rfl : n = most := by omega
          clear hbel harr
          go_wp2_with fail
          go_ret
          exact ⟨g, gc, retG (HL6.out n), hgb, HAn.out, HBn.out⟩
end Go.Proofs.Ytddnemmdlijgiaa
