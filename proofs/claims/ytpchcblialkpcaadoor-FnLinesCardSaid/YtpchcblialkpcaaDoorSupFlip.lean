/- ReverseLine of the program and of the reference return one Lean function; no conditions but the length. -/
import Derived.Test.YtpchcblialkpcaaDoorSupGood
import Derived.Test.YtpchcblialkpcaaDoorSupWays
import Derived.Test.YtpchcblialkpcaaDoorSupRev
import Derived.Test.YtpchcblialkpcaaDoorPush
import Derived.Deep.RegionLaw
namespace Go.Proofs.YtpchcblialkpcaaDoor
open Go.RowKit

def SupPost (p : List Sup × Bool) (w : World) (e : Ending) (w' : World) : Prop := ∃ A cap, e = .returned (.tuple #[.slice A p.1.length cap, .bool p.2]) ∧ Own w' w.heap.size 33 3 Sup.cells A p.1 ∧ Below w.heap.size w w'
theorem retlU {p : List Sup × Bool} {l : List Sup} {b : Bool} {A : Option Addr} {cap : Nat} (h : p = (l, b)) : Ending.returned (.tuple #[.slice A l.length cap, .bool b]) = .returned (.tuple #[.slice A p.1.length cap, .bool p.2]) := by rw [h]
/-- The first k elements are flipped. -/
def FlipTo (o cur : List Sup) (e : Int) (k : Nat) : Prop := cur.length = o.length ∧ ∀ t, t < o.length → nth cur t = if t < k then flipU e (nth o t) else nth o t
theorem FlipTo.done {o cur : List Sup} {e : Int} (h : FlipTo o cur e o.length) : cur = o.map (flipU e) := by
  apply List.ext_getElem (by simp [h.1])
  intro i h1 h2
  have hi : i < o.length := by rw [← h.1]; exact h1
  have := h.2 i hi
  rw [if_pos hi, nth_eq h1, nth_eq hi] at this
  simpa using this
theorem FlipTo.step {o cur : List Sup} {e : Int} {k : Nat} (h : FlipTo o cur e k) (hk : k < o.length) : FlipTo o (cur.set k (flipU e (nth o k))) e (k + 1) := by
  refine ⟨by simp [h.1], fun t ht => ?_⟩
  rw [nth_setU (by rw [h.1]; exact ht)]
  by_cases e1 : k = t
  · subst e1; rw [if_pos rfl, if_pos (by omega)]
  · rw [if_neg e1, h.2 t ht]
    by_cases e2 : t < k
    · rw [if_pos e2, if_pos (by omega)]
    · rw [if_neg e2, if_neg (by omega)]
set_option maxHeartbeats 4000000 in
theorem implReverse_c (l : List Sup) (A : Option Addr) (cap : Nat) (w : World) (hl : l.length ≤ 1048576) (hr : Rd w w.heap.size 3 Sup.cells A l) :
    Calls Tryd.prog 6 #[.slice A l.length cap] w (SupPost (revU l) w) := by
  have HR := Lib.hid hr
  clear hr
  rcases hg : goodU l with _ | _
  · have H := Lib.hid (show revU l = ([], false) by simp [revU, hg])
    go_enter Tryd.func6, Tryd.ntmps6
    go_wp2_with fail
    refine (IsLine_c l _ _ _ hl HR.out).mono ?_
    rintro e w1 ⟨rfl, hb1⟩
    rw [hg]
    go_wp2_with fail
    go_ret2
    exact ⟨none, 0, retlU H.out, by rw [H.out]; exact Own.nil, hb1⟩
  obtain ⟨e0, he0⟩ : ∃ e0, (endU l).a = e0 := ⟨_, rfl⟩
  have H := Lib.hid (show revU l = (l.reverse.map (flipU e0), true) by simp [revU, hg, he0])
  obtain ⟨g1, g2, _, _, _, g6, _⟩ := goodU_true hg
  have G6 := Lib.hid g6
  clear g6
  obtain ⟨m, hm⟩ : ∃ m, l.length = m + 1 := ⟨l.length - 1, by omega⟩
  have hend : (nth l m).a = e0 := by rw [← he0]; unfold endU; rw [show l.length - 1 = m by omega]
  have HM := Lib.hid hm
  have ml : m < l.length := by omega
  have a1 : IntKind.i64.wrap ((l.length : Int) - 1) = (m : Int) := by rw [show (l.length : Int) - 1 = m by omega]; exact IntWalk.i64_in _ (by omega)
  obtain ⟨⟨eb1, eb2⟩, _⟩ := okU_true.1 (G6.out m ml)
  rw [hend] at eb1 eb2
  have HEND := Lib.hid hend
  clear hm he0 hend
  go_enter Tryd.func6, Tryd.ntmps6
  go_wp2_with fail
  refine (IsLine_c l _ _ _ hl HR.out).mono ?_
  rintro e w1 ⟨rfl, hb1⟩
  rw [hg]
  have HR1 := Lib.hid (HR.out.carry hb1)
  have HB1 := Lib.hid hb1
  have z1 := hb1.size
  obtain ⟨b, off, rfl, hb, c0, _, _⟩ := Sup.rd HR1.out ml
  rw [HEND.out] at c0
  have i1 : (m : Int) < l.length := by omega
  have i2 : (0 : Int) ≤ (m : Int) := by omega
  clear hg hb1 HR
  go_wp2_with fail
  go_region_law (first
    | (go_simp; go_at_call 19; refine (cloneU_c l b off _ _ (by omega) (HR1.out.carry (by repeat (first | (with_reducible exact Below.refl _ _) | ((with_reducible refine alloc_ ?_ ?_); (focus (first | exact Nat.le_refl _ | (simp; done) | (simp; omega) | omega))) | ((with_reducible refine set_ ?_ ?_); (focus (first | exact Nat.le_refl _ | (simp; done) | (simp; omega) | omega))) | (with_reducible refine Below.drew ?_) | ((with_reducible refine after_ ?_ (by assumption) ?_); (rotate_left; (focus (first | exact Nat.le_refl _ | (simp; done) | (simp; omega) | omega)))))))).mono ?_; rintro e w3 ⟨g, gc, rfl, hgc, hg0, harr, hb3⟩; have c0' := (hb3.cell (p := ⟨b, off + m * 3, none⟩) hb).trans c0; have HA := Lib.hid harr; have HB3 := Lib.hid hb3; clear harr hb3))
  all_goals
    have HB3' := Lib.hid (show Below w.heap.size w w3 from HB1.out.trans (Below.mono (B := w1.heap.size) (show Below w1.heap.size w1 w3 from ((Below.refl w1.heap.size w1).drew).trans HB3.out) z1))
    have hgw : w.heap.size ≤ g := by first | omega | (simp at hg0; omega)
    clear c0 c0' HB3 HR1 HB1 z1 hg0
    go_wp2_with fail
    refine (reverseU_c l g gc _ g1 (by omega) HA.out).mono ?_
    rintro e w4 ⟨rfl, ha4, hg4⟩
    have HB4 := Lib.hid (HB3'.out.trans (grown_below hg4 hgw HB3'.out.size))
    have HA4 := Lib.hid ha4
    clear ha4 hg4 HA HB3'
    go_wp2_with fail
    go_loopw [6, 23] (fun _ i wr => ∃ (k : Nat) (cur : List Sup), k ≤ l.length ∧ i = .int .i64 k ∧ FlipTo l.reverse cur e0 k ∧ ArrU wr g cur ∧ Below w.heap.size w wr) (fun _ i _ => l.length - (intOf i).toNat)
    case atStart => exact ⟨0, l.reverse, Nat.zero_le _, rfl, ⟨rfl, fun t ht => by rw [if_neg (by omega)]⟩, HA4.out, HB4.out⟩
    case round =>
      obtain ⟨k, cur, hk, rfl, hfl, harr, hbel⟩ := hrel
      have HF := Lib.hid hfl
      have HAr := Lib.hid harr
      have HBr := Lib.hid hbel
      have hcl := hfl.1
      rw [List.length_reverse] at hcl
      clear hfl hbel
      by_cases hlt : k < l.length
      · have hklr : k < l.reverse.length := by simpa using hlt
        obtain ⟨c0, _, _⟩ := harr.cell (i := k) (by omega)
        have cz := harr.frozen
        have cl := harr.lt
        have hkn := HF.out.2 k hklr
        rw [if_neg (by omega)] at hkn
        have hrn : nth l.reverse k = nth l (l.length - 1 - k) := nth_reverse hlt
        obtain ⟨⟨q1, q2⟩, _⟩ := okU_true.1 (G6.out (l.length - 1 - k) (by omega))
        rw [← hrn] at q1 q2
        have HST := Lib.hid (HF.out.step hklr)
        have HKN := Lib.hid hkn
        rw [hkn] at c0
        obtain ⟨x, hx⟩ : ∃ x, nth l.reverse k = x := ⟨_, rfl⟩
        rw [hx] at c0 q1 q2 HST HKN
        have a2 : IntKind.i64.wrap (e0 - x.a) = e0 - x.a := IntWalk.i64_in _ (by omega)
        have i3 : (k : Int) < l.length := by omega
        clear harr hkn hrn hx hklr
        go_wp2_with fail
        go_roundw
        case rel => exact ⟨k + 1, cur.set k (flipU e0 x), by omega, by go_num, HST.out, (by simpa using HAr.out.setField (i := k) (j := 0) (y := flipU e0 x) (v := .int .i64 (e0 - x.a)) (by omega) (by decide) (by rw [HKN.out]; rfl)), HBr.out.setCell hgw _⟩
        case measure => simp [intOf]; omega
      · obtain rfl : k = l.length := by omega
        have HE := Lib.hid (FlipTo.done (o := l.reverse) (cur := cur) (e := e0) (by rw [List.length_reverse]; exact HF.out))
        clear harr
        go_wp2_with fail
        go_ret2
        exact ⟨some ⟨g, 0, none⟩, gc, by rw [H.out]; simp, by rw [H.out, ← HE.out]; exact HAr.out.own hgw, HBr.out⟩
set_option maxHeartbeats 4000000 in
theorem specReverse_c (l : List Sup) (A : Option Addr) (cap : Nat) (w : World) (hl : l.length ≤ 1048576) (hr : Rd w w.heap.size 3 Sup.cells A l) :
    Calls Tryd.prog 7 #[.slice A l.length cap] w (SupPost (revU l) w) := by
  have hr0 := hr.alloc (.cells #[] 33)
  rcases hg : goodU l with _ | _
  · have H := Lib.hid (show revU l = ([], false) by simp [revU, hg])
    go_enter Tryd.func7, Tryd.ntmps7
    go_wp2_with fail
    refine (l2Line_c l _ _ _ hl hr0).mono ?_
    rintro e w1 ⟨rfl, hb1⟩
    rw [hg]
    clear hg
    go_wp2_with fail
    go_ret2
    exact ⟨_, 0, retlU H.out, by rw [H.out]; exact Own.nil, (by repeat (first | (with_reducible exact Below.refl _ _) | ((with_reducible refine alloc_ ?_ ?_); (focus (first | exact Nat.le_refl _ | (simp; done) | (simp; omega) | omega))) | ((with_reducible refine set_ ?_ ?_); (focus (first | exact Nat.le_refl _ | (simp; done) | (simp; omega) | omega))) | (with_reducible refine Below.drew ?_) | ((with_reducible refine after_ ?_ (by assumption) ?_); (rotate_left; (focus (first | exact Nat.le_refl _ | (simp; done) | (simp; omega) | omega))))))⟩
  have HR := Lib.hid hr
  clear hr
  obtain ⟨e0, he0⟩ : ∃ e0, (endU l).a = e0 := ⟨_, rfl⟩
  have H := Lib.hid (show revU l = (l.reverse.map (flipU e0), true) by simp [revU, hg, he0])
  obtain ⟨g1, g2, _, _, _, g6, _⟩ := goodU_true hg
  have G6 := Lib.hid g6
  clear g6
  obtain ⟨m, hm⟩ : ∃ m, l.length = m + 1 := ⟨l.length - 1, by omega⟩
  have hend : (nth l m).a = e0 := by rw [← he0]; unfold endU; rw [show l.length - 1 = m by omega]
  have HM := Lib.hid hm
  have ml : m < l.length := by omega
  have a1 : IntKind.i64.wrap ((l.length : Int) - 1) = (m : Int) := by rw [show (l.length : Int) - 1 = m by omega]; exact IntWalk.i64_in _ (by omega)
  obtain ⟨⟨eb1, eb2⟩, _⟩ := okU_true.1 (G6.out m ml)
  rw [hend] at eb1 eb2
  have HEND := Lib.hid hend
  clear hm he0 hend
  go_enter Tryd.func7, Tryd.ntmps7
  go_wp2_with fail
  refine (l2Line_c l _ _ _ hl hr0).mono ?_
  rintro e w1 ⟨rfl, hb1⟩
  rw [hg]
  have HE1 := Lib.hid (ownsRow_below (ownsRow_empty w 33 3) hb1)
  have HB1 := Lib.hid (show Below w.heap.size w w1 from (by repeat (first | (with_reducible exact Below.refl _ _) | ((with_reducible refine alloc_ ?_ ?_); (focus (first | exact Nat.le_refl _ | (simp; done) | (simp; omega) | omega))) | ((with_reducible refine set_ ?_ ?_); (focus (first | exact Nat.le_refl _ | (simp; done) | (simp; omega) | omega))) | (with_reducible refine Below.drew ?_) | ((with_reducible refine after_ ?_ (by assumption) ?_); (rotate_left; (focus (first | exact Nat.le_refl _ | (simp; done) | (simp; omega) | omega)))))))
  have HR1 := Lib.hid (hr0.carry hb1)
  obtain ⟨b, off, rfl, hb, c0, _, _⟩ := Sup.rd HR1.out ml
  rw [HEND.out] at c0
  have i1 : (m : Int) < l.length := by omega
  have i2 : (0 : Int) ≤ (m : Int) := by omega
  clear hg hb1 hr0
  go_wp2_with fail
  clear c0
  go_loopw [4, 6] (fun v i wr => ∃ (p : Nat) (q : List Sup), q.length + p = l.length ∧ i = .int .i64 ((p : Int) - 1) ∧ (∀ t, t < q.length → nth q t = flipU e0 (nth l.reverse t)) ∧ wr.ownsRow w.heap.size 33 3 v q.length ((q.map Sup.cells).flatten) ∧ Below w.heap.size w wr) (fun _ i _ => (intOf i + 1).toNat)
  case atStart => exact ⟨l.length, [], by simp, by rw [show ((l.length : Int) - 1) = m from by have := HM.out; omega], fun t ht => absurd ht (by simp), HE1.out, HB1.out⟩
  case round =>
    obtain ⟨p, q, hpq, rfl, hq, hown, hbel⟩ := hrel
    have HO := Lib.hid hown
    have HB := Lib.hid hbel
    have HQ := Lib.hid hq
    have HP := Lib.hid hpq
    have zr := hbel.size
    have zz := HB1.out.size
    clear hq hown
    rcases p with _ | p
    · have i0 : ¬ (0 : Int) ≤ (((0 : Nat) : Int) - 1) := by omega
      have hql : q.length = l.length := by omega
      have HE := Lib.hid (show q = l.reverse.map (flipU e0) by
        apply List.ext_getElem (by simp [hql])
        intro i h1 h2
        have := HQ.out i h1
        rw [nth_eq h1, nth_eq (by simp; omega)] at this
        simpa using this)
      have HBe := Lib.hid hbel
      obtain ⟨A', cap', rfl⟩ := ownsRow_shape HO.out
      clear hbel hpq
      go_wp2_with fail
      go_ret2
      exact ⟨A', cap', by rw [H.out]; simp [hql], by rw [H.out, ← HE.out]; exact Own.of_row' HO.out rfl rfl (fun _ => rfl), HBe.out⟩
    · rw [show (((p + 1 : Nat) : Int) - 1) = (p : Int) by omega]
      have hpl : p < l.length := by omega
      obtain ⟨b', off', he, hb', c0, c1, c2⟩ := Sup.rd (HR.out.below hbel (Nat.le_refl _)) hpl
      simp only [Option.some.injEq, Addr.mk.injEq, and_true] at he
      obtain ⟨rfl, rfl⟩ := he
      have hrn : nth l.reverse q.length = nth l p := by rw [nth_reverse (by omega)]; congr 1; omega
      obtain ⟨⟨q1, q2⟩, _⟩ := okU_true.1 (G6.out p hpl)
      obtain ⟨x, hx⟩ : ∃ x, nth l p = x := ⟨_, rfl⟩
      rw [hx] at c0 c1 c2 q1 q2 hrn
      have HRN := Lib.hid hrn
      have a2 : IntKind.i64.wrap (e0 - x.a) = e0 - x.a := IntWalk.i64_in _ (by omega)
      have a3 : IntKind.i64.wrap ((p : Int) - 1) = (p : Int) - 1 := IntWalk.i64_in _ (by omega)
      have i3 : (p : Int) < l.length := by omega
      have i4 : (0 : Int) ≤ (p : Int) := by omega
      have l1 : b < wr.heap.size := by omega
      have hq9 : q.length ≤ 8 := by omega
      clear hbel hpq hrn hx
      go_wp2_with fail
      go_region_law (first
        | (refine step_extend rfl (.tmp 26) (.tmp 45) 24 rfl w.heap.size 33 _ 3 24 Tryd.underlying24 info_sup rfl (by decide) (by decide) _ q.length _ rfl (ownsRow_below HO.out (by repeat (first | (with_reducible exact Below.refl _ _) | ((with_reducible refine alloc_ ?_ ?_); (focus (first | exact Nat.le_refl _ | (simp; done) | (simp; omega) | omega))) | ((with_reducible refine set_ ?_ ?_); (focus (first | exact Nat.le_refl _ | (simp; done) | (simp; omega) | omega))) | (with_reducible refine Below.drew ?_) | ((with_reducible refine after_ ?_ (by assumption) ?_); (rotate_left; (focus (first | exact Nat.le_refl _ | (simp; done) | (simp; omega) | omega))))))) wr.heap.size 0 1 1 [.int .i64 (e0 - x.a), .int .i64 x.h, .bool x.s] rfl rfl (news_one (cs := #[.int .i64 (e0 - x.a), .int .i64 x.h, .bool x.s]) (by first | exact heap_alloc_new _ _ | exact heap_new' _ _ rfl)) (by intro u hu; simp at hu; rcases hu with rfl | rfl | rfl <;> rfl) (by omega) (by first | omega | (simp; omega)) ?_; intro v' w' hown' hb' hk'; have HO' := Lib.hid hown'; have HB' := Lib.hid hb'; clear hown' hk' hb'))
      all_goals
        have HB2 := Lib.hid (show Below w.heap.size w w' from HB.out.trans ((Below.mono (B := wr.heap.size) (((Below.refl _ _).alloc (Nat.le_refl _) (.cells #[.int .i64 (e0 - x.a), .int .i64 x.h, .bool x.s] 33)).drew) zr).trans HB'.out))
        have HN := Lib.hid (show ∀ t, t < (q ++ [flipU e0 x]).length → nth (q ++ [flipU e0 x]) t = flipU e0 (nth l.reverse t) from fun t ht => by
          rw [List.length_append, List.length_singleton] at ht
          by_cases e : t < q.length
          · rw [nth_eq (by simp; omega), List.getElem_append_left e, ← nth_eq e, HQ.out t e]
          · obtain rfl : t = q.length := by omega
            rw [nth_eq (by simp), List.getElem_append_right (Nat.le_refl _), HRN.out]; simp)
        have HO2 := Lib.hid (show w'.ownsRow w.heap.size 33 3 v' (q ++ [flipU e0 x]).length (((q ++ [flipU e0 x]).map Sup.cells).flatten) by simpa [Sup.cells, flipU] using HO'.out)
        clear HO' HB' c0 c1 c2
        go_wp2_with fail
        go_roundw
        case rel => exact ⟨p, q ++ [flipU e0 x], by have := HP.out; simp; omega, rfl, HN.out, HO2.out, HB2.out⟩
        case measure => first | (simp [intOf]; done) | (simp [intOf]; omega)
end Go.Proofs.YtpchcblialkpcaaDoor
