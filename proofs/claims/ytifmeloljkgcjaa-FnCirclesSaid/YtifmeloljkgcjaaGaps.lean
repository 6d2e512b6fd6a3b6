/- The gaps of a ring, and the smallest: the program's and the reference's return one Lean function; no conditions but the length and that the ring's length is not far off. -/
import Derived.Test.YtifmeloljkgcjaaCircle
import Derived.Test.YtifmeloljkgcjaaFlat
import Derived.Lib.Walk
import Derived.Deep.RegionHeld3
import Derived.Deep.RegionLaw
namespace Go.Proofs.Ytifmeloljkgcjaa
open Go.RowKit


theorem int_one' : ∀ x : Int, (intCells x).length = 1 := fun _ => rfl
def gapsTo (L : Int) (l : List Int) (k : Nat) : List Int := (List.range k).map (gapAt L l)
theorem gapsTo_len {L : Int} {l : List Int} {k : Nat} : (gapsTo L l k).length = k := by simp [gapsTo]
theorem gapsTo_step {L : Int} {l : List Int} {k : Nat} : gapsTo L l (k + 1) = gapsTo L l k ++ [gapAt L l k] := by simp [gapsTo, List.range_succ]
/-- What a call hands back: a list of ints of its own. -/
def GivesI (o : List Int) (w : World) (e : Ending) (w' : World) : Prop := ∃ A cap, e = .returned (.slice A o.length cap) ∧ Own w' w.heap.size 3 1 intCells A o ∧ Below w.heap.size w w'
set_option maxHeartbeats 1000000 in
theorem gapsOf_c (L s : Int) (l : List Int) (A : Option Addr) (cap : Nat) (w : World) (hw : WellC L s l) (hr : Rd w w.heap.size 1 intCells A l) :
    Calls Try.prog 28 #[.agg #[.int .i64 L, .int .i64 s, .slice A l.length cap]] w (GivesI (gapsL L l) w) := by
  have HW := Lib.hid hw
  have HX := Lib.hid (Box.new w [.int .i64 L, .int .i64 s, .slice A l.length cap] 26)
  have HR := Lib.hid hr
  have hL := hw.len
  have hf := hw.few
  clear hw hr
  go_enter Try.func28, Try.ntmps28
  go_wp2_with fail
  go_region
  go_wp2_with fail
  have HO0 := Lib.hid (own_empty (base := w.heap.size + 1) (size := 1) (heap_new' (w.alloc (.cells #[.int .i64 L, .int .i64 s, .slice A l.length cap] 26)) (.cells #[] 3) (g := w.heap.size + 1) (by simp)) (Nat.le_refl _))
  have HB0 := Lib.hid (show Below w.heap.size w ((w.alloc (.cells #[.int .i64 L, .int .i64 s, .slice A l.length cap] 26)).alloc (.cells #[] 3)).drew from (by repeat (first | (with_reducible exact Below.refl _ _) | ((with_reducible refine alloc_ ?_ ?_); (focus (first | exact Nat.le_refl _ | (simp; done) | (simp; omega) | omega))) | ((with_reducible refine set_ ?_ ?_); (focus (first | exact Nat.le_refl _ | (simp; done) | (simp; omega) | omega))) | (with_reducible refine Below.drew ?_) | ((with_reducible refine after_ ?_ (by assumption) ?_); (rotate_left; (focus (first | exact Nat.le_refl _ | (simp; done) | (simp; omega) | omega)))))))
  have HX0 := Lib.hid (show Box ((w.alloc (.cells #[.int .i64 L, .int .i64 s, .slice A l.length cap] 26)).alloc (.cells #[] 3)).drew w.heap.size 26 3 [.int .i64 L, .int .i64 s, .slice A l.length cap] from (HX.out.alloc _).drew)
  clear HX
  go_loopw [3, 5, 6, 7, 15] (fun v _ _ _ i wr => ∃ k : Nat, k ≤ l.length ∧ i = .int .i64 k ∧ wr.ownsRow (w.heap.size + 1) 3 1 v k ((gapsTo L l k).map (Value.int .i64)) ∧ Box wr w.heap.size 26 3 [.int .i64 L, .int .i64 s, .slice A l.length cap] ∧ Below w.heap.size w wr) (fun _ _ _ _ i _ => l.length - (intOf i).toNat)
  case atStart => exact ⟨0, Nat.zero_le _, rfl, HO0.out, HX0.out, HB0.out⟩
  case round =>
    obtain ⟨k, hk, rfl, hown, hbox, hbel⟩ := hrel
    have HO := Lib.hid hown
    have HB := Lib.hid hbel
    have HXr := Lib.hid hbox
    obtain ⟨A3, cap3, rfl⟩ := ownsRow_shape hown
    have z1 := hbel.size
    have lx := hbox.lt
    clear hown
    by_cases hlt : k < l.length
    · obtain ⟨b, off, rfl, hb1, hc⟩ := (HR.out.below hbel (Nat.le_refl _)).int hlt
      have x0 := hbox.cell (j := 0) rfl
      have x2 := hbox.cell (j := 2) rfl
      have l1 : b < wr.heap.size := by omega
      have i1 : (0 : Int) ≤ (k : Int) := by omega
      have i2 : (k : Int) < l.length := by omega
      have hin := HW.out.inside k hlt
      have h0 := HW.out.inside 0 (by omega)
      have hgp := gap_pos HW.out hlt
      have hG := gapsTo_step (L := L) (l := l) (k := k)
      have HS := Lib.hid hG
      clear hG
      by_cases hk1 : k + 1 < l.length
      · obtain ⟨b', off', he, hb2, hd⟩ := (HR.out.below hbel (Nat.le_refl _)).int hk1
        simp only [Option.some.injEq, Addr.mk.injEq, and_true] at he
        obtain ⟨rfl, rfl⟩ := he
        have hr1 := HW.out.rise k hk1
        have hin1 := HW.out.inside _ hk1
        have HG := Lib.hid (show gapAt L l k = nth l (k + 1) - nth l k by rw [gapAt, if_pos hk1])
        clear hbel hbox hgp
        go_wp2_with fail
        have hq0 : ¬ (l.length : Int) = 0 := by omega
        have hq1 : Int.tmod ((k : Int) + 1) l.length = ((k + 1 : Nat) : Int) := by rw [Int.tmod_eq_emod_of_nonneg (by omega), Int.emod_eq_of_lt (by omega) (by omega)]; simp
        refine wp_region_mem (by kernel_rfl) (by kernel_rfl) ?_
        repeat (go_big_quiet_step (fail))
        refine wpQuiet_nil ?_
        intro _ hw'
        obtain ⟨⟨wq, hbq⟩, hw''⟩ := hw'
        obtain rfl := hw''.symm
        obtain ⟨hcq, hfq, hzq⟩ := bcell hbq
        try simp [Nat.add_one_le_iff] at hzq
        have HD := Lib.hid hbq
        have zq := hbq.size
        go_wp2_with (at_builtin; refine wpList_push2 _ rfl _ _ 24 rfl (w.heap.size + 1) 3 (.int .i64 0) 1 8 Try.underlying24 info_int rfl (by decide) (by decide) _ _ _ rfl ((ownsRow_below HO.out HD.out).alloc _) (wq.heap.size) [.int .i64 (nth l (k + 1) - nth l k)] rfl rfl ?c1a ?c2a ?c3a ?c4a ?_)
        try case c1a =>
          intro j u hj
          match j, hj with
          | 0, hj => simp at hj; subst hj; simp [go_sem]
        case c2a => first | rfl | (intro u hu; simp at hu; subst hu; rfl)
        case c3a => omega
        case c4a => first | omega | (simp; omega)
        intro v' w' hown' hb' _
        have HO' := Lib.hid hown'
        have HB2 := Lib.hid (((HD.out : Below wr.heap.size wr wq).alloc zq (.cells #[.int .i64 (nth l (k + 1) - nth l k)] 3)).mono (show w.heap.size + 1 ≤ wr.heap.size by omega) |>.trans hb')
        have HX' := Lib.hid (HXr.out.below HB2.out (by omega))
        clear hown' hb' hbq hcq hfq
        go_wp2_with fail
        go_roundw
        case rel => exact ⟨k + 1, by omega, by go_num, by rw [HS.out, List.map_append, HG.out]; exact HO'.out, HX'.out, HB.out.trans (HB2.out.mono (by omega))⟩
        case measure => simp [intOf]; omega
      · obtain ⟨b', off', he, hb2, hd⟩ := (HR.out.below hbel (Nat.le_refl _)).int (show 0 < l.length by omega)
        simp only [Option.some.injEq, Addr.mk.injEq, and_true] at he
        obtain ⟨rfl, rfl⟩ := he
        simp only [Nat.add_zero] at hd
        have hle : nth l 0 ≤ nth l k := by
          rcases k with _ | k
          · exact Int.le_refl _
          · exact Int.le_of_lt (HW.out.lt (by omega) hlt)
        have HG := Lib.hid (show gapAt L l k = nth l 0 - nth l k + L by rw [gapAt, if_neg hk1]; omega)
        clear hbel hbox hgp
        go_wp2_with fail
        have hq0 : ¬ (l.length : Int) = 0 := by omega
        have hq1 : Int.tmod ((k : Int) + 1) l.length = 0 := by rw [show (k : Int) + 1 = l.length by omega, Int.tmod_self]
        refine wp_region_mem (by kernel_rfl) (by kernel_rfl) ?_
        repeat (go_big_quiet_step (fail))
        refine wpQuiet_nil ?_
        intro _ hw'
        obtain ⟨⟨wq, hbq⟩, hw''⟩ := hw'
        obtain rfl := hw''.symm
        obtain ⟨hcq, hfq, hzq⟩ := bcell hbq
        try simp [Nat.add_one_le_iff] at hzq
        have HD := Lib.hid hbq
        have zq := hbq.size
        go_wp2_with (at_builtin; refine wpList_push2 _ rfl _ _ 24 rfl (w.heap.size + 1) 3 (.int .i64 0) 1 8 Try.underlying24 info_int rfl (by decide) (by decide) _ _ _ rfl ((ownsRow_below HO.out HD.out).alloc _) (wq.heap.size) [.int .i64 (nth l 0 - nth l k + L)] rfl rfl ?c1b ?c2b ?c3b ?c4b ?_)
        try case c1b =>
          intro j u hj
          match j, hj with
          | 0, hj => simp at hj; subst hj; simp [go_sem]
        case c2b => first | rfl | (intro u hu; simp at hu; subst hu; rfl)
        case c3b => omega
        case c4b => first | omega | (simp; omega)
        intro v' w' hown' hb' _
        have HO' := Lib.hid hown'
        have HB2 := Lib.hid (((HD.out : Below wr.heap.size wr wq).alloc zq (.cells #[.int .i64 (nth l 0 - nth l k + L)] 3)).mono (show w.heap.size + 1 ≤ wr.heap.size by omega) |>.trans hb')
        have HX' := Lib.hid (HXr.out.below HB2.out (by omega))
        clear hown' hb' hbq hcq hfq
        go_wp2_with fail
        go_roundw
        case rel => exact ⟨k + 1, by omega, by go_num, by rw [HS.out, List.map_append, HG.out]; exact HO'.out, HX'.out, HB.out.trans (HB2.out.mono (by omega))⟩
        case measure => simp [intOf]; omega
    · obtain rfl : k = l.length := by omega
      clear hbel hbox
      have HE := Lib.hid (show gapsTo L l l.length = gapsL L l from rfl)
      go_wp2_with fail
      go_ret
      exact ⟨A3, cap3, by rw [gapsL_len]; rfl, (Own.of_row' HO.out gapsL_len.symm (by rw [HE.out, flat_ints]) (fun _ => rfl)).less (by omega), HB.out⟩
set_option maxHeartbeats 1000000 in
theorem l8Gaps_c (L s : Int) (l : List Int) (A : Option Addr) (cap : Nat) (w : World) (hw : WellC L s l) (hr : Rd w w.heap.size 1 intCells A l) :
    Calls Try.prog 33 #[.agg #[.int .i64 L, .int .i64 s, .slice A l.length cap]] w (GivesI (gapsL L l) w) := by
  have HW := Lib.hid hw
  have HX := Lib.hid (Box.new w [.int .i64 L, .int .i64 s, .slice A l.length cap] 26)
  have HR := Lib.hid hr
  have hL := hw.len
  have hf := hw.few
  clear hw hr
  go_enter Try.func33, Try.ntmps33
  go_wp2_with fail
  have HO0 := Lib.hid (own_empty (base := w.heap.size + 1) (size := 1) (g := w.heap.size + 1) (by have h := heap_alloc_new (w.alloc (.cells #[.int .i64 L, .int .i64 s, .slice A l.length cap] 26)) (.cells #[] 3); rw [World.size_alloc] at h; exact h) (Nat.le_refl _))
  have HB0 := Lib.hid (show Below w.heap.size w ((w.alloc (.cells #[.int .i64 L, .int .i64 s, .slice A l.length cap] 26)).alloc (.cells #[] 3)) from (by repeat (first | (with_reducible exact Below.refl _ _) | ((with_reducible refine alloc_ ?_ ?_); (focus (first | exact Nat.le_refl _ | (simp; done) | (simp; omega) | omega))) | ((with_reducible refine set_ ?_ ?_); (focus (first | exact Nat.le_refl _ | (simp; done) | (simp; omega) | omega))) | (with_reducible refine Below.drew ?_) | ((with_reducible refine after_ ?_ (by assumption) ?_); (rotate_left; (focus (first | exact Nat.le_refl _ | (simp; done) | (simp; omega) | omega)))))))
  have HX0 := Lib.hid (show Box ((w.alloc (.cells #[.int .i64 L, .int .i64 s, .slice A l.length cap] 26)).alloc (.cells #[] 3)) w.heap.size 26 3 [.int .i64 L, .int .i64 s, .slice A l.length cap] from (HX.out.alloc _))
  clear HX
  go_loopw [3, 5] (fun v i wr => ∃ k : Nat, k ≤ l.length ∧ i = .int .i64 k ∧ wr.ownsRow (w.heap.size + 1) 3 1 v k ((gapsTo L l k).map (Value.int .i64)) ∧ Box wr w.heap.size 26 3 [.int .i64 L, .int .i64 s, .slice A l.length cap] ∧ Below w.heap.size w wr) (fun _ i _ => l.length - (intOf i).toNat)
  case atStart => exact ⟨0, Nat.zero_le _, rfl, HO0.out, HX0.out, HB0.out⟩
  case round =>
    obtain ⟨k, hk, rfl, hown, hbox, hbel⟩ := hrel
    have HO := Lib.hid hown
    have HB := Lib.hid hbel
    have HXr := Lib.hid hbox
    obtain ⟨A3, cap3, rfl⟩ := ownsRow_shape hown
    have z1 := hbel.size
    have lx := hbox.lt
    clear hown
    by_cases hlt : k < l.length
    · obtain ⟨b, off, rfl, hb1, hc⟩ := (HR.out.below hbel (Nat.le_refl _)).int hlt
      have x0 := hbox.cell (j := 0) rfl
      have x2 := hbox.cell (j := 2) rfl
      have l1 : b < wr.heap.size := by omega
      have i1 : (0 : Int) ≤ (k : Int) := by omega
      have i2 : (k : Int) < l.length := by omega
      have hin := HW.out.inside k hlt
      have h0 := HW.out.inside 0 (by omega)
      have hgp := gap_pos HW.out hlt
      have hG := gapsTo_step (L := L) (l := l) (k := k)
      have HS := Lib.hid hG
      clear hG
      by_cases hk1 : k + 1 < l.length
      · obtain ⟨b', off', he, hb2, hd⟩ := (HR.out.below hbel (Nat.le_refl _)).int hk1
        simp only [Option.some.injEq, Addr.mk.injEq, and_true] at he
        obtain ⟨rfl, rfl⟩ := he
        have hr1 := HW.out.rise k hk1
        have hin1 := HW.out.inside _ hk1
        have HG := Lib.hid (show gapAt L l k = nth l (k + 1) - nth l k by rw [gapAt, if_pos hk1])
        clear hbel hbox hgp
        go_wp2_with fail
        have a1 : IntKind.i64.wrap ((k : Int) + 1) = (k : Int) + 1 := IntWalk.i64_in _ (by omega)
        have a2 : ((k : Int) + 1).toNat = k + 1 := by omega
        have a3 : (0 : Int) ≤ (k : Int) + 1 := by omega
        have a4 : (k : Int) + 1 < l.length := by omega
        have a5 : IntKind.i64.wrap (nth l (k + 1) - nth l k) = nth l (k + 1) - nth l k := IntWalk.i64_in _ (by omega)
        go_region_held3 (fun w' : World => w'.cell? ⟨w.heap.size, 2, none⟩ = some (.slice (some ⟨b, off, none⟩) l.length cap) ∧ w'.cell? ⟨b, off + k, none⟩ = some (.int .i64 (nth l k)) ∧ w'.cell? ⟨b, off + (k + 1), none⟩ = some (.int .i64 (nth l (k + 1)))) (first | (with_reducible exact ⟨x2, hc, hd⟩) | (with_reducible exact ⟨e2, e3, e4⟩) | (simp [go_sem, *]; done)) (first
          | (refine step_extend rfl (.tmp 19) (.tmp 32) 24 rfl (w.heap.size + 1) 3 (.int .i64 0) 1 8 Try.underlying24 info_int rfl (by decide) (by decide) _ _ _ rfl (ownsRow_below HO.out (by repeat (first | (with_reducible exact Below.refl _ _) | ((with_reducible refine alloc_ ?_ ?_); (focus (first | exact Nat.le_refl _ | (simp; done) | (simp; omega) | omega))) | ((with_reducible refine set_ ?_ ?_); (focus (first | exact Nat.le_refl _ | (simp; done) | (simp; omega) | omega))) | (with_reducible refine Below.drew ?_) | ((with_reducible refine after_ ?_ (by assumption) ?_); (rotate_left; (focus (first | exact Nat.le_refl _ | (simp; done) | (simp; omega) | omega))))))) wr.heap.size 0 1 1 [.int .i64 (nth l (k + 1) - nth l k)] rfl rfl (news_one (cs := #[.int .i64 (nth l (k + 1) - nth l k)]) (heap_new' _ _ rfl)) (ints_one' [nth l (k + 1) - nth l k]) (by omega) (by first | omega | (simp; omega)) ?_; intro v' w' hown' hb' hk'; (have e2 := (hb'.cell (p := ⟨w.heap.size, 2, none⟩) (by simp)).trans (show _ = some (Value.slice (some ⟨b, off, none⟩) l.length cap) by simp [go_sem, x2, lx]; done); have e3 := (hb'.cell (p := ⟨b, off + k, none⟩) (by simp; omega)).trans (show _ = some (Value.int .i64 (nth l k)) by simp [go_sem, hc, l1]; done); have e4 := (hb'.cell (p := ⟨b, off + (k + 1), none⟩) (by simp; omega)).trans (show _ = some (Value.int .i64 (nth l (k + 1))) by simp [go_sem, hd, l1]; done)); have HO' := Lib.hid hown'; have HB' := Lib.hid hb'; clear hown' hb' hk'))
        have HB2 := Lib.hid (show Below (w.heap.size + 1) wr w' from ((((Below.refl _ _).alloc (Nat.le_refl _) (.cells #[.int .i64 (nth l (k + 1) - nth l k)] 3)).drew : Below wr.heap.size wr _).mono (by omega)).trans HB'.out)
        have HX' := Lib.hid (HXr.out.below HB2.out (by omega))
        go_wp2_with fail
        go_roundw
        case rel => exact ⟨k + 1, by omega, by go_num, by rw [HS.out, List.map_append, HG.out]; exact HO'.out, HX'.out, HB.out.trans (HB2.out.mono (by omega))⟩
        case measure => simp [intOf]; omega
      · obtain ⟨b', off', he, hb2, hd⟩ := (HR.out.below hbel (Nat.le_refl _)).int (show 0 < l.length by omega)
        simp only [Option.some.injEq, Addr.mk.injEq, and_true] at he
        obtain ⟨rfl, rfl⟩ := he
        simp only [Nat.add_zero] at hd
        have HG := Lib.hid (show gapAt L l k = L - nth l k + nth l 0 by rw [gapAt, if_neg hk1])
        clear hbel hbox hgp
        go_wp2_with fail
        have a5 : IntKind.i64.wrap (L - nth l k) = L - nth l k := IntWalk.i64_in _ (by omega)
        have a6 : IntKind.i64.wrap (L - nth l k + nth l 0) = L - nth l k + nth l 0 := IntWalk.i64_in _ (by omega)
        have a7 : (0 : Int) < l.length := by omega
        have a8 : 0 < l.length := by omega
        go_region_held3 (fun w' : World => w'.cell? ⟨w.heap.size, 0, none⟩ = some (.int .i64 L) ∧ w'.cell? ⟨w.heap.size, 2, none⟩ = some (.slice (some ⟨b, off, none⟩) l.length cap) ∧ w'.cell? ⟨b, off + k, none⟩ = some (.int .i64 (nth l k)) ∧ w'.cell? ⟨b, off, none⟩ = some (.int .i64 (nth l 0))) (first | (with_reducible exact ⟨x0, x2, hc, hd⟩) | (with_reducible exact ⟨e0, e2, e3, e4⟩) | (simp [go_sem, *]; done)) (first
          | (refine step_extend rfl (.tmp 34) (.tmp 48) 24 rfl (w.heap.size + 1) 3 (.int .i64 0) 1 8 Try.underlying24 info_int rfl (by decide) (by decide) _ _ _ rfl (ownsRow_below HO.out (by repeat (first | (with_reducible exact Below.refl _ _) | ((with_reducible refine alloc_ ?_ ?_); (focus (first | exact Nat.le_refl _ | (simp; done) | (simp; omega) | omega))) | ((with_reducible refine set_ ?_ ?_); (focus (first | exact Nat.le_refl _ | (simp; done) | (simp; omega) | omega))) | (with_reducible refine Below.drew ?_) | ((with_reducible refine after_ ?_ (by assumption) ?_); (rotate_left; (focus (first | exact Nat.le_refl _ | (simp; done) | (simp; omega) | omega))))))) wr.heap.size 0 1 1 [.int .i64 (L - nth l k + nth l 0)] rfl rfl (news_one (cs := #[.int .i64 (L - nth l k + nth l 0)]) (heap_new' _ _ rfl)) (ints_one' [L - nth l k + nth l 0]) (by omega) (by first | omega | (simp; omega)) ?_; intro v' w' hown' hb' hk'; (have e0 := (hb'.cell (p := ⟨w.heap.size, 0, none⟩) (by simp)).trans (show _ = some (Value.int .i64 L) by simp [go_sem, x0, lx]; done); have e2 := (hb'.cell (p := ⟨w.heap.size, 2, none⟩) (by simp)).trans (show _ = some (Value.slice (some ⟨b, off, none⟩) l.length cap) by simp [go_sem, x2, lx]; done); have e3 := (hb'.cell (p := ⟨b, off + k, none⟩) (by simp; omega)).trans (show _ = some (Value.int .i64 (nth l k)) by simp [go_sem, hc, l1]; done); have e4 := (hb'.cell (p := ⟨b, off, none⟩) (by simp; omega)).trans (show _ = some (Value.int .i64 (nth l 0)) by simp [go_sem, hd, l1]; done)); have HO' := Lib.hid hown'; have HB' := Lib.hid hb'; clear hown' hb' hk'))
        have HB2 := Lib.hid (show Below (w.heap.size + 1) wr w' from ((((Below.refl _ _).alloc (Nat.le_refl _) (.cells #[.int .i64 (L - nth l k + nth l 0)] 3)).drew : Below wr.heap.size wr _).mono (by omega)).trans HB'.out)
        have HX' := Lib.hid (HXr.out.below HB2.out (by omega))
        go_wp2_with fail
        go_roundw
        case rel => exact ⟨k + 1, by omega, by go_num, by rw [HS.out, List.map_append, HG.out]; exact HO'.out, HX'.out, HB.out.trans (HB2.out.mono (by omega))⟩
        case measure => simp [intOf]; omega
    · obtain rfl : k = l.length := by omega
      clear hbel hbox
      have HE := Lib.hid (show gapsTo L l l.length = gapsL L l from rfl)
      go_wp2_with fail
      go_ret
      exact ⟨A3, cap3, by rw [gapsL_len]; rfl, (Own.of_row' HO.out gapsL_len.symm (by rw [HE.out, flat_ints]) (fun _ => rfl)).less (by omega), HB.out⟩
theorem min_c (l : List Int) (A : Option Addr) (cap : Nat) (w : World) (hl : l.length ≤ 1048576) (h0 : 0 < l.length) (hr : Rd w w.heap.size 1 intCells A l) :
    Calls Try.prog 30 #[.slice A l.length cap] w fun e w' => e = .returned (.int .i64 (Lib.minOf l)) ∧ w = w' := by
  obtain ⟨b, off, rfl, hb, hc⟩ := hr.int h0
  simp only [Nat.add_zero] at hc
  have h1 : Lib.minOf (l.take 1) = nth l 0 := by rw [Lib.minOf_one]; rfl
  have H1 := Lib.hid h1
  have a7 : (0 : Int) < l.length := by omega
  clear h1
  go_enter Try.func30, Try.ntmps30
  go_wp2_with fail
  go_loop [3, 4] (fun m i => ∃ k : Nat, 0 < k ∧ k ≤ l.length ∧ i = .int .i64 k ∧ m = .int .i64 (Lib.minOf (l.take k))) (fun _ i => l.length - (intOf i).toNat)
  case atStart => exact ⟨1, Nat.one_pos, h0, rfl, by rw [H1.out]⟩
  case round =>
    obtain ⟨k, hk0, hk, rfl, rfl⟩ := hrel
    by_cases hlt : k < l.length
    · obtain ⟨b', off', he, hb2, hd⟩ := hr.int hlt
      simp only [Option.some.injEq, Addr.mk.injEq, and_true] at he
      obtain ⟨rfl, rfl⟩ := he
      have HM := Lib.hid (Lib.minOf_step l k hk0 hlt)
      go_wp2_with fail
      go_round
      case rel => exact ⟨k + 1, by omega, by omega, by go_num, by rw [HM.out]; first | rfl | (simp [nth]; done) | (simp [nth, Int.min_def])⟩
      case measure => simp [intOf]; omega
    · obtain rfl : k = l.length := by omega
      go_wp2_with fail
      go_ret
      exact ⟨reti (by first | rfl | rw [List.take_length]), rfl⟩
theorem l1Least_c (a b : Int) (w : World) : Calls Try.prog 44 #[.int .i64 a, .int .i64 b] w fun e w' => e = .returned (.int .i64 (min a b)) ∧ w = w' := by
  by_cases h : a < b
  · go_enter Try.func44, Try.ntmps44
    go_wp2_with fail
    go_ret
    exact ⟨reti (by omega), rfl⟩
  · go_enter Try.func44, Try.ntmps44
    go_wp2_with fail
    go_ret
    exact ⟨reti (by omega), rfl⟩
theorem l8Smallest_c (L s : Int) (l : List Int) (A : Option Addr) (cap : Nat) (w : World) (hw : WellC L s l) (h0 : 0 < l.length) (hr : Rd w w.heap.size 1 intCells A l) :
    Calls Try.prog 37 #[.agg #[.int .i64 L, .int .i64 s, .slice A l.length cap]] w fun e w' => e = .returned (.int .i64 (Lib.minOf (gapsL L l))) ∧ Below w.heap.size w w' := by
  have hf := hw.few
  have hg : (gapsL L l).length = l.length := gapsL_len
  have HW := Lib.hid hw
  have HR := Lib.hid (hr.alloc (.cells #[.int .i64 L, .int .i64 s, .slice A l.length cap] 26))
  obtain ⟨G, hG⟩ : ∃ G, gapsL L l = G := ⟨_, rfl⟩
  have HG := Lib.hid hG
  rw [hG] at hg
  clear hw hr hG
  have hG0 : 0 < G.length := by omega
  have hG1 : G.length ≤ 12 := by omega
  have a7 : (0 : Int) < G.length := by omega
  have HH := Lib.hid hg
  clear hg
  have h1 : Lib.minOf (G.take 1) = nth G 0 := by rw [Lib.minOf_one]; rfl
  have H1 := Lib.hid h1
  clear h1
  go_enter Try.func37, Try.ntmps37
  go_wp2_with fail
  refine (l8Gaps_c L s l _ _ _ HW.out HR.out).mono ?_
  rw [HG.out]
  rintro e w1 ⟨A1, c1, rfl, ho, hb⟩
  have hr1 := ho.rd int_one'
  have HB := Lib.hid (show Below w.heap.size w w1 from (by repeat (first | (with_reducible exact Below.refl _ _) | ((with_reducible refine alloc_ ?_ ?_); (focus (first | exact Nat.le_refl _ | (simp; done) | (simp; omega) | omega))) | ((with_reducible refine set_ ?_ ?_); (focus (first | exact Nat.le_refl _ | (simp; done) | (simp; omega) | omega))) | (with_reducible refine Below.drew ?_) | ((with_reducible refine after_ ?_ (by assumption) ?_); (rotate_left; (focus (first | exact Nat.le_refl _ | (simp; done) | (simp; omega) | omega)))))))
  obtain ⟨b, off, rfl, hb1, hc⟩ := hr1.int hG0
  simp only [Nat.add_zero] at hc
  clear ho hb
  go_wp2_with fail
  go_loop [4, 5] (fun m i => ∃ k : Nat, 0 < k ∧ k ≤ G.length ∧ i = .int .i64 k ∧ m = .int .i64 (Lib.minOf (G.take k))) (fun _ i => G.length - (intOf i).toNat)
  case atStart => exact ⟨1, Nat.one_pos, hG0, rfl, by rw [H1.out]⟩
  case round =>
    obtain ⟨k, hk0, hk, rfl, rfl⟩ := hrel
    by_cases hlt : k < G.length
    · obtain ⟨b', off', he, hb2, hd⟩ := hr1.int hlt
      simp only [Option.some.injEq, Addr.mk.injEq, and_true] at he
      obtain ⟨rfl, rfl⟩ := he
      have HM := Lib.hid (Lib.minOf_step G k hk0 hlt)
      go_wp2_with (go_at_call 44; refine (l1Least_c _ _ _).mono ?_; rintro e w' ⟨rfl, rfl⟩)
      go_round
      case rel => exact ⟨k + 1, by omega, by omega, by go_num, by rw [HM.out]; first | rfl | (simp [nth]; done)⟩
      case measure => simp [intOf]; omega
    · obtain rfl : k = G.length := by omega
      go_wp2_with fail
      go_ret
      exact ⟨reti (by rw [HG.out]; try rw [List.take_length]), HB.out⟩
end Go.Proofs.Ytifmeloljkgcjaa
