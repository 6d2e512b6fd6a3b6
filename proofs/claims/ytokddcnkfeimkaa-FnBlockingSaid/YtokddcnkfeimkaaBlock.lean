/- BlockingTasks of the program and of the reference return one Lean function; no conditions but the length. -/
import Derived.Test.YtokddcnkfeimkaaConcat
import Derived.Test.YtokddcnkfeimkaaHas
import Derived.Deep.RegionLaw
import Derived.StillTailTactics
namespace Go.Proofs.Ytokddcnkfeimkaa
open Go.RowKit

/-- What a call hands back: a list of its own, and whether there is one. -/
def ListPost (p : List Int × Bool) (w : World) (e : Ending) (w' : World) : Prop := ∃ A cap, e = .returned (.tuple #[.slice A p.1.length cap, .bool p.2]) ∧ Own w' w.heap.size 3 1 intCells A p.1 ∧ Below w.heap.size w w'

def less (l : List Tsk) (i : Nat) : List Tsk := l.take i ++ l.drop (i + 1)
theorem less_len {l : List Tsk} {i : Nat} (hi : i < l.length) : (less l i).length = l.length - 1 := by
  unfold less; rw [List.length_append, List.length_take, List.length_drop]; omega
theorem less_ok {l : List Tsk} {i : Nat} (hi : i < l.length) (hg : l.length ≤ 8 ∧ ∀ i, i < l.length → okK (nth l i) = true) : (less l i).length ≤ 8 ∧ ∀ j, j < (less l i).length → okK (nth (less l i) j) = true := by
  refine ⟨by rw [less_len hi]; omega, fun j hj => ?_⟩
  have hm := nth_mem hj
  have hall : ∀ x ∈ l, okK x = true := fun x hx => by
    obtain ⟨n, hn, he⟩ := List.getElem_of_mem hx
    have := hg.2 n hn
    rwa [nth_eq hn, he] at this
  unfold less at hm
  rcases List.mem_append.1 hm with h | h
  · exact hall _ (List.mem_of_mem_take h)
  · exact hall _ (List.mem_of_mem_drop h)
theorem no_news {l : List Tsk} {k : Nat} {P : Nat → Value → Prop} (h : l.length ≤ k) : ∀ j u, (flat Tsk.cells (l.drop k))[j]? = some u → P j u := fun j u hj => by
  rw [List.drop_eq_nil_of_le h] at hj
  simp [flat] at hj
def blkTo (l : List Tsk) : Nat → List Int
  | 0 => []
  | k + 1 => if has (less l k) = true then blkTo l k ++ [(nth l k).i] else blkTo l k
theorem blkTo_yes {l : List Tsk} {k : Nat} (h : has (less l k) = true) : blkTo l (k + 1) = blkTo l k ++ [(nth l k).i] := by rw [blkTo, if_pos h]
theorem blkTo_no {l : List Tsk} {k : Nat} (h : has (less l k) = false) : blkTo l (k + 1) = blkTo l k := by rw [blkTo, if_neg (by simp [h])]
theorem blkTo_len {l : List Tsk} : ∀ k, (blkTo l k).length ≤ k
  | 0 => Nat.le_refl _
  | k + 1 => by
    have := blkTo_len (l := l) k
    rw [blkTo]; split
    · simp; omega
    · omega
def blockP (l : List Tsk) : List Int × Bool := if goodK l && !has l then (blkTo l l.length, true) else ([], false)
set_option maxHeartbeats 1600000 in
theorem specBlockingTasks_c (l : List Tsk) (A : Option Addr) (cap : Nat) (w : World) (hl : l.length ≤ 1048576) (hcap : l.length ≤ cap) (hr : Rd w w.heap.size 4 Tsk.cells A l) :
    Calls Try.prog 31 #[.slice A l.length cap] w (ListPost (blockP l) w) := by
  rcases hg : goodK l with _ | _
  · have H := Lib.hid (show blockP l = ([], false) by simp [blockP, hg])
    go_enter Try.func31, Try.ntmps31
    go_wp2_with fail
    refine (l16Good_c l _ _ _ hl (hr.alloc _)).mono ?_
    rintro e w1 ⟨rfl, hb1⟩
    go_wp2_with fail
    go_ret2
    exact ⟨_, 0, retl H.out, by rw [H.out]; exact Own.nil, (by repeat (first | (with_reducible exact Below.refl _ _) | ((with_reducible refine alloc_ ?_ ?_); (focus (first | exact Nat.le_refl _ | (simp; done) | (simp; omega) | omega))) | ((with_reducible refine set_ ?_ ?_); (focus (first | exact Nat.le_refl _ | (simp; done) | (simp; omega) | omega))) | (with_reducible refine Below.drew ?_) | ((with_reducible refine after_ ?_ (by assumption) ?_); (rotate_left; (focus (first | exact Nat.le_refl _ | (simp; done) | (simp; omega) | omega))))))⟩
  have HG := Lib.hid (goodK_true hg)
  have hl8 := HG.out.1
  have HGG := Lib.hid hg
  clear hg
  go_enter Try.func31, Try.ntmps31
  go_wp2_with fail
  refine (l16Good_c l _ _ _ hl (hr.alloc _)).mono ?_
  rintro e w1 ⟨rfl, hb1⟩
  have hr1 := (hr.alloc (.cells #[] 3)).carry hb1
  have HB1 := Lib.hid (show Below w.heap.size w w1 from (by repeat (first | (with_reducible exact Below.refl _ _) | ((with_reducible refine alloc_ ?_ ?_); (focus (first | exact Nat.le_refl _ | (simp; done) | (simp; omega) | omega))) | ((with_reducible refine set_ ?_ ?_); (focus (first | exact Nat.le_refl _ | (simp; done) | (simp; omega) | omega))) | (with_reducible refine Below.drew ?_) | ((with_reducible refine after_ ?_ (by assumption) ?_); (rotate_left; (focus (first | exact Nat.le_refl _ | (simp; done) | (simp; omega) | omega)))))))
  have HE1 := Lib.hid (ownsRow_below (ownsRow_empty w 3 1) hb1)
  rw [HGG.out]
  clear hb1
  go_wp2_with fail
  refine (l16Has_c l _ _ _ hr1 HG.out).mono ?_
  rintro e w2 ⟨rfl, hb2⟩
  have hr2 := hr1.carry hb2
  have HB2 := Lib.hid (HB1.out.trans (hb2.mono HB1.out.size))
  have HE2 := Lib.hid (ownsRow_below HE1.out hb2)
  clear hb2
  rcases hh : has l with _ | _
  case true =>
    have H := Lib.hid (show blockP l = ([], false) by simp [blockP, hh])
    go_wp2_with fail
    go_ret2
    exact ⟨_, 0, retl H.out, by rw [H.out]; exact Own.nil, HB2.out⟩
  have H := Lib.hid (show blockP l = (blkTo l l.length, true) by simp [blockP, HGG.out, hh])
  clear hr1 hr2 hh
  go_wp2_with fail
  go_loopw [4, 5, 6] (fun o i _ wr => ∃ k : Nat, k ≤ l.length ∧ i = .int .i64 k ∧ wr.ownsRow w.heap.size 3 1 o (blkTo l k).length ((blkTo l k).map (Value.int .i64)) ∧ Below w.heap.size w wr) (fun _ i _ _ => l.length - (intOf i).toNat)
  case atStart => exact ⟨0, Nat.zero_le _, rfl, HE2.out, HB2.out⟩
  case round =>
    obtain ⟨k, hk, rfl, hown, hbel⟩ := hrel
    have HB := Lib.hid hbel
    have HO := Lib.hid hown
    have z1 := hbel.size
    have hle := blkTo_len (l := l) k
    by_cases hlt : k < l.length
    · have HR := Lib.hid (hr.below hbel (Nat.le_refl _))
      obtain ⟨b, off, rfl, hb, hcs⟩ := Tsk.rd (hr.below hbel (Nat.le_refl _)) hlt
      have l1 : b < wr.heap.size := by omega
      have hkc : k ≤ cap := by omega
      clear hbel hown hcs
      by_cases hcj : cap = k + 1
      case pos =>
        subst hcj
        go_wp2_with fail
        have s1 : IntKind.i64.wrap ((k : Int) + 1) = (k : Int) + 1 := IntWalk.i64_in _ (by omega)
        have s2 : ((k : Int) + 1).toNat = k + 1 := by omega
        have s3 : (0 : Int) ≤ (k : Int) + 1 := by omega
        have s4 : (k : Int) + 1 ≤ l.length := by omega
        have s5 : (k : Int) ≤ (k : Int) + 1 := by omega
        go_region_law (first
          | (refine step_extend rfl (.tmp 22) (.tmp 25) 25 rfl wr.heap.size 50 _ 4 32 Try.underlying25 info_Task rfl (by decide) (by decide) _ 0 [] rfl ?_ b off k _ (flat Tsk.cells (l.take k)) rfl ?_ ((HR.out.take k).news (by repeat (first | (with_reducible exact Below.refl _ _) | ((with_reducible refine alloc_ ?_ ?_); (focus (first | exact Nat.le_refl _ | (simp; done) | (simp; omega) | omega))) | ((with_reducible refine set_ ?_ ?_); (focus (first | exact Nat.le_refl _ | (simp; done) | (simp; omega) | omega))) | (with_reducible refine Below.drew ?_) | ((with_reducible refine after_ ?_ (by assumption) ?_); (rotate_left; (focus (first | exact Nat.le_refl _ | (simp; done) | (simp; omega) | omega)))))) Tsk.four (by decide)) (flat_cells Tsk.ones _) ?_ ?_ ?_; (focus (exact own_empty (heap_drawn _ _ rfl) (Nat.le_refl _))); (focus (rw [flat_len Tsk.four, List.length_take]; omega)); (focus omega); (focus (first | omega | (simp; done) | (simp; omega))); intro v1 w1 hown1 hb1 hk1; have hz1 := hb1.size; (try simp at hz1))
          | (refine step_extend rfl (.tmp 26) (.tmp 30) 25 rfl wr.heap.size 50 _ 4 32 Try.underlying25 info_Task rfl (by decide) (by decide) _ _ _ rfl hown1 b (off) (0) _ (flat Tsk.cells (l.drop (k + 1))) rfl ?_ (no_news (by omega)) (flat_cells Tsk.ones _) ?_ ?_ ?_; (focus (rw [flat_len Tsk.four, List.length_drop] <;> omega)); (focus omega); (focus (first | omega | (simp; omega))); intro v3 w3 hown3 hb3 hk3; have hz3 := hb3.size))
        all_goals
          clear s1 s2 s3 s4 s5
          obtain ⟨A3, cap3, rfl⟩ := ownsRow_shape hown3
          have HW := Lib.hid (own_flat (l := less l k) hown3 (by rw [less_len hlt]; omega) (by rw [List.nil_append, flat_app]; rfl) Tsk.four)
          have HB3 := Lib.hid (show Below wr.heap.size wr w3 from (by repeat (first | (with_reducible exact Below.refl _ _) | ((with_reducible refine alloc_ ?_ ?_); (focus (first | exact Nat.le_refl _ | (simp; done) | (simp; omega) | omega))) | ((with_reducible refine set_ ?_ ?_); (focus (first | exact Nat.le_refl _ | (simp; done) | (simp; omega) | omega))) | (with_reducible refine Below.drew ?_) | ((with_reducible refine after_ ?_ (by assumption) ?_); (rotate_left; (focus (first | exact Nat.le_refl _ | (simp; done) | (simp; omega) | omega)))))))
          have hrd := HW.out.rd Tsk.four
          have hcl := l16Has_c (less l k) A3 cap3 w3 hrd (less_ok hlt HG.out)
          rw [less_len hlt, show l.length - 1 = k by omega] at hcl
          have HCL := Lib.hid hcl
          clear hown3 hown1 hb1 hb3 hk1 hk3 hrd hcl
          go_wp2_with fail
          refine HCL.out.mono ?_
          rintro e w2 ⟨rfl, hb2⟩
          have HQ := Lib.hid (HB3.out.trans (hb2.mono HB3.out.size))
          have HOq := Lib.hid (ownsRow_below HO.out HQ.out)
          have HBq := Lib.hid (HB.out.trans (HQ.out.mono z1))
          have hcq := (HR.out.below HQ.out z1)
          clear hb2 HCL
          rcases hh : has (less l k) with _ | _
          · have HY := Lib.hid (blkTo_no hh)
            go_wp2_with fail
            go_roundw
            case rel => exact ⟨k + 1, by omega, by go_num, by rw [HY.out]; exact HOq.out, HBq.out⟩
            case measure => simp [intOf]; omega
          · have HY := Lib.hid (blkTo_yes hh)
            have zq := HQ.out.size
            obtain ⟨b', off', he, hb', hcs⟩ := Tsk.rd hcq hlt
            simp only [Option.some.injEq, Addr.mk.injEq, and_true] at he
            obtain ⟨rfl, rfl⟩ := he
            have l1 : b < w2.heap.size := by omega
            clear hcq
            go_wp2_with (at_builtin; refine wpList_push _ rfl (.tmp 34) (.tmp 40) 35 rfl w.heap.size 3 (.int .i64 0) 1 8 Try.underlying35 info_int rfl (by decide) (by decide) _ _ _ rfl (HOq.out.alloc _) w2.heap.size [.int .i64 (nth l k).i] rfl rfl ?c1 ?c2 ?c3 ?c4 ?_)
            try case c1 =>
              intro j u hj
              match j, hj with
              | 0, hj => simp at hj; subst hj; simp [go_sem]
            case c2 => first | rfl | (intro u hu; simp at hu; subst hu; rfl)
            case c3 => omega
            case c4 => first | omega | (simp; omega)
            intro v' w' hown' hb'
            have HO' := Lib.hid hown'
            have HB' := Lib.hid (HBq.out.trans ((((Below.refl _ _).alloc (Nat.le_refl _) _).mono HBq.out.size).trans hb'))
            clear hown' hb'
            go_wp2_with fail
            go_roundw
            case rel => exact ⟨k + 1, by omega, by go_num, by rw [HY.out]; simpa using HO'.out, HB'.out⟩
            case measure => simp [intOf]; omega
      case neg =>
        go_wp2_with fail
        have s1 : IntKind.i64.wrap ((k : Int) + 1) = (k : Int) + 1 := IntWalk.i64_in _ (by omega)
        have s2 : ((k : Int) + 1).toNat = k + 1 := by omega
        have s3 : (0 : Int) ≤ (k : Int) + 1 := by omega
        have s4 : (k : Int) + 1 ≤ l.length := by omega
        have s5 : (k : Int) ≤ (k : Int) + 1 := by omega
        go_region_law (first
          | (refine step_extend rfl (.tmp 22) (.tmp 25) 25 rfl wr.heap.size 50 _ 4 32 Try.underlying25 info_Task rfl (by decide) (by decide) _ 0 [] rfl ?_ b off k _ (flat Tsk.cells (l.take k)) rfl ?_ ((HR.out.take k).news (by repeat (first | (with_reducible exact Below.refl _ _) | ((with_reducible refine alloc_ ?_ ?_); (focus (first | exact Nat.le_refl _ | (simp; done) | (simp; omega) | omega))) | ((with_reducible refine set_ ?_ ?_); (focus (first | exact Nat.le_refl _ | (simp; done) | (simp; omega) | omega))) | (with_reducible refine Below.drew ?_) | ((with_reducible refine after_ ?_ (by assumption) ?_); (rotate_left; (focus (first | exact Nat.le_refl _ | (simp; done) | (simp; omega) | omega)))))) Tsk.four (by decide)) (flat_cells Tsk.ones _) ?_ ?_ ?_; (focus (exact own_empty (heap_drawn _ _ rfl) (Nat.le_refl _))); (focus (rw [flat_len Tsk.four, List.length_take]; omega)); (focus omega); (focus (first | omega | (simp; done) | (simp; omega))); intro v1 w1 hown1 hb1 hk1; have hz1 := hb1.size; (try simp at hz1))
          | (refine step_extend rfl (.tmp 26) (.tmp 30) 25 rfl wr.heap.size 50 _ 4 32 Try.underlying25 info_Task rfl (by decide) (by decide) _ _ _ rfl hown1 b (off + (k + 1) * 4) (l.length - (k + 1)) _ (flat Tsk.cells (l.drop (k + 1))) rfl ?_ ((HR.out.drop (k + 1)).news (by repeat (first | (with_reducible exact Below.refl _ _) | ((with_reducible refine alloc_ ?_ ?_); (focus (first | exact Nat.le_refl _ | (simp; done) | (simp; omega) | omega))) | ((with_reducible refine set_ ?_ ?_); (focus (first | exact Nat.le_refl _ | (simp; done) | (simp; omega) | omega))) | (with_reducible refine Below.drew ?_) | ((with_reducible refine after_ ?_ (by assumption) ?_); (rotate_left; (focus (first | exact Nat.le_refl _ | (simp; done) | (simp; omega) | omega)))))) Tsk.four (by decide)) (flat_cells Tsk.ones _) ?_ ?_ ?_; (focus (rw [flat_len Tsk.four, List.length_drop] <;> omega)); (focus omega); (focus (first | omega | (simp; omega))); intro v3 w3 hown3 hb3 hk3; have hz3 := hb3.size))
        all_goals
          clear s1 s2 s3 s4 s5
          obtain ⟨A3, cap3, rfl⟩ := ownsRow_shape hown3
          have HW := Lib.hid (own_flat (l := less l k) hown3 (by rw [less_len hlt]; omega) (by rw [List.nil_append, flat_app]; rfl) Tsk.four)
          have HB3 := Lib.hid (show Below wr.heap.size wr w3 from (by repeat (first | (with_reducible exact Below.refl _ _) | ((with_reducible refine alloc_ ?_ ?_); (focus (first | exact Nat.le_refl _ | (simp; done) | (simp; omega) | omega))) | ((with_reducible refine set_ ?_ ?_); (focus (first | exact Nat.le_refl _ | (simp; done) | (simp; omega) | omega))) | (with_reducible refine Below.drew ?_) | ((with_reducible refine after_ ?_ (by assumption) ?_); (rotate_left; (focus (first | exact Nat.le_refl _ | (simp; done) | (simp; omega) | omega)))))))
          have hrd := HW.out.rd Tsk.four
          have hcl := l16Has_c (less l k) A3 cap3 w3 hrd (less_ok hlt HG.out)
          rw [less_len hlt, show l.length - 1 = k + (l.length - (k + 1)) by omega] at hcl
          have HCL := Lib.hid hcl
          clear hown3 hown1 hb1 hb3 hk1 hk3 hrd hcl
          go_wp2_with fail
          refine HCL.out.mono ?_
          rintro e w2 ⟨rfl, hb2⟩
          have HQ := Lib.hid (HB3.out.trans (hb2.mono HB3.out.size))
          have HOq := Lib.hid (ownsRow_below HO.out HQ.out)
          have HBq := Lib.hid (HB.out.trans (HQ.out.mono z1))
          have hcq := (HR.out.below HQ.out z1)
          clear hb2 HCL
          rcases hh : has (less l k) with _ | _
          · have HY := Lib.hid (blkTo_no hh)
            go_wp2_with fail
            go_roundw
            case rel => exact ⟨k + 1, by omega, by go_num, by rw [HY.out]; exact HOq.out, HBq.out⟩
            case measure => simp [intOf]; omega
          · have HY := Lib.hid (blkTo_yes hh)
            have zq := HQ.out.size
            obtain ⟨b', off', he, hb', hcs⟩ := Tsk.rd hcq hlt
            simp only [Option.some.injEq, Addr.mk.injEq, and_true] at he
            obtain ⟨rfl, rfl⟩ := he
            have l1 : b < w2.heap.size := by omega
            clear hcq
            go_wp2_with (at_builtin; refine wpList_push _ rfl (.tmp 34) (.tmp 40) 35 rfl w.heap.size 3 (.int .i64 0) 1 8 Try.underlying35 info_int rfl (by decide) (by decide) _ _ _ rfl (HOq.out.alloc _) w2.heap.size [.int .i64 (nth l k).i] rfl rfl ?c1 ?c2 ?c3 ?c4 ?_)
            try case c1 =>
              intro j u hj
              match j, hj with
              | 0, hj => simp at hj; subst hj; simp [go_sem]
            case c2 => first | rfl | (intro u hu; simp at hu; subst hu; rfl)
            case c3 => omega
            case c4 => first | omega | (simp; omega)
            intro v' w' hown' hb'
            have HO' := Lib.hid hown'
            have HB' := Lib.hid (HBq.out.trans ((((Below.refl _ _).alloc (Nat.le_refl _) _).mono HBq.out.size).trans hb'))
            clear hown' hb'
            go_wp2_with fail
            go_roundw
            case rel => exact ⟨k + 1, by omega, by go_num, by rw [HY.out]; simpa using HO'.out, HB'.out⟩
            case measure => simp [intOf]; omega
    · obtain rfl : k = l.length := by omega
      obtain ⟨A', cap', rfl⟩ := ownsRow_shape HO.out
      clear hbel hown
      go_wp2_with fail
      go_ret2
      exact ⟨A', cap', retl H.out, by rw [H.out]; exact Own.of_row' HO.out rfl (flat_ints _).symm fun _ => rfl, HB.out⟩
theorem Rd.of_nil {w : World} {B : Nat} {A : Option Addr} {l : List Tsk} {n : Nat} (h : l.length ≤ n) : Rd w B 4 Tsk.cells A (l.drop n) := by
  rw [List.drop_eq_nil_of_le h]; exact Rd.empty
def GivesN (l : List Tsk) (n : Nat) (w : World) (e : Ending) (w' : World) : Prop := ∃ A cap, e = .returned (.slice A n cap) ∧ Own w' w.heap.size 50 4 Tsk.cells A l ∧ Below w.heap.size w w'
theorem concat_less {l : List Tsk} {k n3 B : Nat} (gb b off off2 cap cap2 m2 : Nat) (W wr : World) (hk : k ≤ l.length) (hm : l.length - (k + 1) = m2) (hn3 : (less l k).length = n3) (hl8 : l.length ≤ 8)
    (hr1 : Rd wr B 4 Tsk.cells (some ⟨b, off, none⟩) (l.take k)) (hr2 : Rd wr B 4 Tsk.cells (some ⟨b, off2, none⟩) (l.drop (k + 1))) (hB : B ≤ wr.heap.size) (hb : Below wr.heap.size wr W)
    (hx : Box W gb 25 2 [.slice (some ⟨b, off, none⟩) k cap, .slice (some ⟨b, off2, none⟩) m2 cap2]) :
    Calls Try.prog 66 #[.slice (some ⟨gb, 0, none⟩) 2 2] W (GivesN (less l k) n3 W) := by
  subst hn3
  refine concat_c (l.take k) (l.drop (k + 1)) gb b off cap b off2 cap2 W (by rw [List.length_take, List.length_drop]; omega) ((hr1.below hb hB).mono (Nat.le_trans hB hb.size)) ((hr2.below hb hB).mono (Nat.le_trans hB hb.size)) ?_
  rw [List.length_take, List.length_drop, Nat.min_eq_left hk, hm]
  exact hx
theorem end_less {l : List Tsk} {n3 : Nat} (A : Option Addr) (cap : Nat) (W : World) (hn3 : l.length = n3) (hg : l.length ≤ 8 ∧ ∀ i, i < l.length → okK (nth l i) = true) (hr : Rd W W.heap.size 4 Tsk.cells A l) :
    Calls Try.prog 58 #[.slice A n3 cap] W fun e w' => e = .returned (.tuple #[.int .i64 (eOf l (full l)), .bool (has l)]) ∧ Below W.heap.size W w' := by
  subst hn3
  exact earliestEnd_c l A cap W hr hg
set_option maxHeartbeats 1600000 in
theorem implBlockingTasks_c (l : List Tsk) (A : Option Addr) (cap : Nat) (w : World) (hl : l.length ≤ 1048576) (hcap : l.length ≤ cap) (hr : Rd w w.heap.size 4 Tsk.cells A l) :
    Calls Try.prog 32 #[.slice A l.length cap] w (ListPost (blockP l) w) := by
  rcases hg : goodK l with _ | _
  · have H := Lib.hid (show blockP l = ([], false) by simp [blockP, hg])
    have HP := Lib.hid (show hasP l = (false, false) by simp [hasP, hg])
    go_enter Try.func32, Try.ntmps32
    go_wp2_with fail
    refine (implHasTaskPlan_c l _ _ _ hl hr).mono ?_
    rintro e w1 ⟨rfl, hb1⟩
    rw [HP.out]
    go_wp2_with fail
    go_ret2
    exact ⟨none, 0, retl H.out, by rw [H.out]; exact Own.nil, hb1⟩
  have HG := Lib.hid (goodK_true hg)
  have hl8 := HG.out.1
  have HP := Lib.hid (show hasP l = (has l, true) by simp [hasP, hg])
  have HGG := Lib.hid hg
  clear hg
  go_enter Try.func32, Try.ntmps32
  go_wp2_with fail
  refine (implHasTaskPlan_c l _ _ _ hl hr).mono ?_
  rintro e w1 ⟨rfl, hb1⟩
  rw [HP.out]
  have HB1 := Lib.hid hb1
  clear hb1
  rcases hh : has l with _ | _
  case true =>
    have H := Lib.hid (show blockP l = ([], false) by simp [blockP, hh])
    go_wp2_with fail
    go_ret2
    exact ⟨none, 0, retl H.out, by rw [H.out]; exact Own.nil, HB1.out⟩
  have H := Lib.hid (show blockP l = (blkTo l l.length, true) by simp [blockP, HGG.out, hh])
  clear hh
  go_wp2_with fail
  go_loopw [6, 7, 8, 9, 10, 24] (fun o _ _ _ _ i wr => ∃ k : Nat, k ≤ l.length ∧ i = .int .i64 k ∧ wr.ownsRow w.heap.size 3 1 o (blkTo l k).length ((blkTo l k).map (Value.int .i64)) ∧ Below w.heap.size w wr) (fun _ _ _ _ _ i _ => l.length - (intOf i).toNat)
  case atStart => exact ⟨0, Nat.zero_le _, rfl, own_empty (heap_alloc_new w1 _) HB1.out.size, HB1.out.alloc HB1.out.size _⟩
  case round =>
    obtain ⟨k, hk, rfl, hown, hbel⟩ := hrel
    have HB0 := Lib.hid hbel
    have HO0 := Lib.hid hown
    have z0 := hbel.size
    have hle := blkTo_len (l := l) k
    by_cases hlt : k < l.length
    · have HR0 := Lib.hid (hr.below hbel (Nat.le_refl _))
      obtain ⟨b, off, rfl, hb, hcs⟩ := Tsk.rd (hr.below hbel (Nat.le_refl _)) hlt
      have l1 : b < wr.heap.size := by omega
      have hkc : k ≤ cap := by omega
      clear hbel hown
      go_wp2_with fail
      obtain ⟨wo, rfl⟩ : ∃ wo : World, wo = wr := ⟨_, rfl⟩
      have HBX := Lib.hid (Box.new wo (nth l k).cells 50)
      have hal : Below wo.heap.size wo (wo.alloc (.cells (nth l k).cells.toArray 50)) := (Below.refl _ _).alloc (Nat.le_refl _) _
      have HO := Lib.hid (ownsRow_below HO0.out hal)
      have HB := Lib.hid (HB0.out.trans (hal.mono z0))
      have HR := Lib.hid (HR0.out.below hal z0)
      obtain ⟨wr, hwr⟩ : ∃ wr : World, wo.alloc (.cells (nth l k).cells.toArray 50) = wr := ⟨_, rfl⟩
      have hwr' := hwr
      simp only [Tsk.cells] at hwr'
      rw [hwr] at HBX HO HB HR
      rw [hwr']
      have z1 := HB.out.size
      have s1 : IntKind.i64.wrap ((k : Int) + 1) = (k : Int) + 1 := IntWalk.i64_in _ (by omega)
      have s2 : ((k : Int) + 1).toNat = k + 1 := by omega
      have s3 : (0 : Int) ≤ (k : Int) + 1 := by omega
      have s4 : (k : Int) + 1 ≤ l.length := by omega
      have s5 : (k : Int) ≤ (k : Int) + 1 := by omega
      have s6 : (k : Int) ≤ cap := by omega
      obtain ⟨n3, hn3⟩ : ∃ n3, (less l k).length = n3 := ⟨_, rfl⟩
      have HN := Lib.hid hn3
      clear hcs hwr hwr' hal HR0 HO0 HB0 hn3
      by_cases hcj : cap = k + 1
      case pos =>
        subst hcj
        go_region_with (first
          | (go_at_call 66; refine (concat_less _ b off (off) (k + 1) (0) (0) _ wr hk (by omega) HN.out hl8 (HR.out.take k) (Rd.of_nil (by omega)) z1 ?_ ?_).mono ?_; (focus exact (by repeat (first | (with_reducible exact Below.refl _ _) | ((with_reducible refine alloc_ ?_ ?_); (focus (first | exact Nat.le_refl _ | (simp; done) | (simp; omega) | omega))) | ((with_reducible refine set_ ?_ ?_); (focus (first | exact Nat.le_refl _ | (simp; done) | (simp; omega) | omega))) | (with_reducible refine Below.drew ?_) | ((with_reducible refine after_ ?_ (by assumption) ?_); (rotate_left; (focus (first | exact Nat.le_refl _ | (simp; done) | (simp; omega) | omega))))))); (focus (first | exact (Box.new wr _ _).drew | exact Box.new wr.drew _ _)); rintro e w3 ⟨A3, cap3, rfl, hown3, hb3⟩)
          | (go_at_call 58; refine (end_less _ _ _ HN.out (less_ok hlt HG.out) (hown3.rd Tsk.four)).mono ?_; rintro e w2 ⟨rfl, hb2⟩))
        all_goals
          clear s1 s2 s3 s4 s5 s6
          have hz3 := hb3.size
          simp at hz3
          have HQ := Lib.hid (show Below wr.heap.size wr w2 from (by repeat (first | (with_reducible exact Below.refl _ _) | ((with_reducible refine alloc_ ?_ ?_); (focus (first | exact Nat.le_refl _ | (simp; done) | (simp; omega) | omega))) | ((with_reducible refine set_ ?_ ?_); (focus (first | exact Nat.le_refl _ | (simp; done) | (simp; omega) | omega))) | (with_reducible refine Below.drew ?_) | ((with_reducible refine after_ ?_ (by assumption) ?_); (rotate_left; (focus (first | exact Nat.le_refl _ | (simp; done) | (simp; omega) | omega)))))))
          have HOq := Lib.hid (ownsRow_below HO.out HQ.out)
          have HBq := Lib.hid (HB.out.trans (HQ.out.mono z1))
          have hbx := (HBX.out.carry HQ.out).cell (j := 0) rfl
          clear hb2 hb3 hown3 hz3
          rcases hh : has (less l k) with _ | _
          · have HY := Lib.hid (blkTo_no hh)
            go_wp2_with fail
            go_roundw
            case rel => exact ⟨k + 1, by omega, by go_num, by rw [HY.out]; exact HOq.out, HBq.out⟩
            case measure => simp [intOf]; omega
          · have HY := Lib.hid (blkTo_yes hh)
            have zq := HQ.out.size
            go_wp2_with (at_builtin; refine wpList_push _ rfl (.tmp 43) (.tmp 46) 35 rfl w.heap.size 3 (.int .i64 0) 1 8 Try.underlying35 info_int rfl (by decide) (by decide) _ _ _ rfl (HOq.out.alloc _) w2.heap.size [.int .i64 (nth l k).i] rfl rfl ?c1 ?c2 ?c3 ?c4 ?_)
            try case c1 =>
              intro j u hj
              match j, hj with
              | 0, hj => simp at hj; subst hj; simp [go_sem]
            case c2 => first | rfl | (intro u hu; simp at hu; subst hu; rfl)
            case c3 => omega
            case c4 => first | omega | (simp; omega)
            intro v' w' hown' hb'
            have HO' := Lib.hid hown'
            have HB' := Lib.hid (HBq.out.trans ((((Below.refl _ _).alloc (Nat.le_refl _) _).mono HBq.out.size).trans hb'))
            clear hown' hb'
            go_wp2_with fail
            go_roundw
            case rel => exact ⟨k + 1, by omega, by go_num, by rw [HY.out]; simpa using HO'.out, HB'.out⟩
            case measure => simp [intOf]; omega
      case neg =>
        go_region_with (first
          | (go_at_call 66; refine (concat_less _ b off (off + (k + 1) * 4) (cap) (cap - (k + 1)) (l.length - (k + 1)) _ wr hk (by omega) HN.out hl8 (HR.out.take k) (HR.out.drop (k + 1)) z1 ?_ ?_).mono ?_; (focus exact (by repeat (first | (with_reducible exact Below.refl _ _) | ((with_reducible refine alloc_ ?_ ?_); (focus (first | exact Nat.le_refl _ | (simp; done) | (simp; omega) | omega))) | ((with_reducible refine set_ ?_ ?_); (focus (first | exact Nat.le_refl _ | (simp; done) | (simp; omega) | omega))) | (with_reducible refine Below.drew ?_) | ((with_reducible refine after_ ?_ (by assumption) ?_); (rotate_left; (focus (first | exact Nat.le_refl _ | (simp; done) | (simp; omega) | omega))))))); (focus (first | exact (Box.new wr _ _).drew | exact Box.new wr.drew _ _)); rintro e w3 ⟨A3, cap3, rfl, hown3, hb3⟩)
          | (go_at_call 58; refine (end_less _ _ _ HN.out (less_ok hlt HG.out) (hown3.rd Tsk.four)).mono ?_; rintro e w2 ⟨rfl, hb2⟩))
        all_goals
          clear s1 s2 s3 s4 s5 s6
          have hz3 := hb3.size
          simp at hz3
          have HQ := Lib.hid (show Below wr.heap.size wr w2 from (by repeat (first | (with_reducible exact Below.refl _ _) | ((with_reducible refine alloc_ ?_ ?_); (focus (first | exact Nat.le_refl _ | (simp; done) | (simp; omega) | omega))) | ((with_reducible refine set_ ?_ ?_); (focus (first | exact Nat.le_refl _ | (simp; done) | (simp; omega) | omega))) | (with_reducible refine Below.drew ?_) | ((with_reducible refine after_ ?_ (by assumption) ?_); (rotate_left; (focus (first | exact Nat.le_refl _ | (simp; done) | (simp; omega) | omega)))))))
          have HOq := Lib.hid (ownsRow_below HO.out HQ.out)
          have HBq := Lib.hid (HB.out.trans (HQ.out.mono z1))
          have hbx := (HBX.out.carry HQ.out).cell (j := 0) rfl
          clear hb2 hb3 hown3 hz3
          rcases hh : has (less l k) with _ | _
          · have HY := Lib.hid (blkTo_no hh)
            go_wp2_with fail
            go_roundw
            case rel => exact ⟨k + 1, by omega, by go_num, by rw [HY.out]; exact HOq.out, HBq.out⟩
            case measure => simp [intOf]; omega
          · have HY := Lib.hid (blkTo_yes hh)
            have zq := HQ.out.size
            go_wp2_with (at_builtin; refine wpList_push _ rfl (.tmp 43) (.tmp 46) 35 rfl w.heap.size 3 (.int .i64 0) 1 8 Try.underlying35 info_int rfl (by decide) (by decide) _ _ _ rfl (HOq.out.alloc _) w2.heap.size [.int .i64 (nth l k).i] rfl rfl ?c1 ?c2 ?c3 ?c4 ?_)
            try case c1 =>
              intro j u hj
              match j, hj with
              | 0, hj => simp at hj; subst hj; simp [go_sem]
            case c2 => first | rfl | (intro u hu; simp at hu; subst hu; rfl)
            case c3 => omega
            case c4 => first | omega | (simp; omega)
            intro v' w' hown' hb'
            have HO' := Lib.hid hown'
            have HB' := Lib.hid (HBq.out.trans ((((Below.refl _ _).alloc (Nat.le_refl _) _).mono HBq.out.size).trans hb'))
            clear hown' hb'
            go_wp2_with fail
            go_roundw
            case rel => exact ⟨k + 1, by omega, by go_num, by rw [HY.out]; simpa using HO'.out, HB'.out⟩
            case measure => simp [intOf]; omega
    · obtain rfl : k = l.length := by omega
      obtain ⟨A', cap', rfl⟩ := ownsRow_shape HO0.out
      clear hbel hown
      go_wp2_with fail
      go_ret2
      exact ⟨A', cap', retl H.out, by rw [H.out]; exact Own.of_row' HO0.out rfl (flat_ints _).symm fun _ => rfl, HB0.out⟩
end Go.Proofs.Ytokddcnkfeimkaa
