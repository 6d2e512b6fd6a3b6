/- AreConsumers of the program returns one Lean function; no conditions but the sizes. -/
import Derived.Test.YtjlgembpaalijaaConsumer
import Derived.Test.YtjlgembpaalijaaWord
import Derived.Outline
namespace Go.Proofs.Ytjlgembpaalijaa
open Go.RowKit

def okC (x : Cons) : Bool := isWordB x.n && inR x.w 1 1000000 && inR x.r 1 9
def freshC (l : List Cons) (i : Nat) : Bool := !anyTo i fun k => (nth l k).n.toList == (nth l i).n.toList
def goodC (l : List Cons) : Bool := allTo l.length (fun i => okC (nth l i) && freshC l i) && decide (l.length ≤ 8)

theorem consClo_c (x : Cons) (g : Nat) (nm : ByteArray) (w : World) (hc : w.cell? ⟨g, 0, none⟩ = some (.string nm)) (hg : g < w.heap.size) : Calls Try.prog 47 #[.agg #[.string x.n, .int .i64 x.w, .int .i64 x.r], .pointer (some ⟨g, 0, none⟩)] w fun e w' => e = .returned (.bool (x.n.toList == nm.toList)) ∧ Below w.heap.size w w' := by
  go_enter Try.func47, Try.ntmps47
  go_wp2
  go_ret
  exact ⟨rfl, (by repeat (first | (with_reducible exact Below.refl _ _) | ((with_reducible refine alloc_ ?_ ?_); (focus (first | exact Nat.le_refl _ | (simp; done) | (simp; omega) | omega))) | ((with_reducible refine set_ ?_ ?_); (focus (first | exact Nat.le_refl _ | (simp; done) | (simp; omega) | omega))) | (with_reducible refine Below.drew ?_) | ((with_reducible refine after_ ?_ (by assumption) ?_); (rotate_left; (focus (first | exact Nat.le_refl _ | (simp; done) | (simp; omega) | omega))))))⟩
def Foundcons (l : List Cons) (p : Cons → Bool) (w : World) (e : Ending) (w' : World) : Prop := ∃ r : Int, e = .returned (.int .i64 r) ∧ decide (0 ≤ r) = anyTo l.length (fun j => p (nth l j)) ∧ Below w.heap.size w w'
theorem consIndex_c (l : List Cons) (A : Option Addr) (n cap : Nat) (w : World) (hn : n = l.length) (hl : l.length ≤ maxLen) (hr : Rd w w.heap.size 3 Cons.cells A l) (g : Nat) (p : Cons → Bool)
    (hclo : ∀ (x : Cons) (w' : World), Below w.heap.size w w' → Calls Try.prog 47 #[.agg #[.string x.n, .int .i64 x.w, .int .i64 x.r], .pointer (some ⟨g, 0, none⟩)] w' fun e w'' => e = .returned (.bool (p x)) ∧ Below w'.heap.size w' w'') :
    Calls Try.prog 53 #[.slice A n cap, .func (.func 47) #[] #[.pointer (some ⟨g, 0, none⟩)]] w (Foundcons l p w) := by
  subst hn
  have HC := Lib.hid hclo
  clear hclo
  unfold maxLen at hl
  go_enter Try.func53, Try.ntmps53
  go_wp2_with fail
  go_loopw [5, 8] (fun _ i wr => ∃ k : Nat, k ≤ l.length ∧ i = .int .i64 k ∧ (∀ j, j < k → p (nth l j) = false) ∧ Below w.heap.size w wr) (fun _ i _ => l.length - (intOf i).toNat)
  case atStart => exact ⟨0, Nat.zero_le _, rfl, fun j hj => absurd hj (by omega), Below.refl _ _⟩
  case round =>
    obtain ⟨k, hk, rfl, hall, hbel⟩ := hrel
    have HB := Lib.hid hbel
    have HA := Lib.hid hall
    clear hall
    by_cases hlt : k < l.length
    · obtain ⟨b, off, rfl, hb1, hcs⟩ := Cons.rd (hr.below hbel (Nat.le_refl _)) hlt
      have z1 := hbel.size
      clear hbel
      go_wp2_with fail
      refine (HC.out (nth l k) _ HB.out).mono ?_
      rintro e w1 ⟨rfl, hb2⟩
      have HB2 := Lib.hid (HB.out.trans (hb2.mono z1))
      clear hb2
      rcases hp : p (nth l k) with _ | _
      · go_wp2_with fail
        go_roundw
        case rel => exact ⟨k + 1, by omega, by go_num, below_add HA.out hp, HB2.out⟩
        case measure => simp [intOf]; omega
      · go_wp2_with fail
        go_ret
        exact ⟨k, rfl, by rw [anyTo_yes hlt hp]; simp, HB2.out⟩
    · clear hbel
      obtain rfl : k = l.length := by omega
      go_wp2_with fail
      go_ret
      exact ⟨-1, rfl, by rw [anyTo_none HA.out]; rfl, HB.out⟩
theorem consContains_c (l : List Cons) (A : Option Addr) (n cap : Nat) (w : World) (hn : n = l.length) (hl : l.length ≤ maxLen) (hr : Rd w w.heap.size 3 Cons.cells A l) (g : Nat) (p : Cons → Bool)
    (hclo : ∀ (x : Cons) (w' : World), Below w.heap.size w w' → Calls Try.prog 47 #[.agg #[.string x.n, .int .i64 x.w, .int .i64 x.r], .pointer (some ⟨g, 0, none⟩)] w' fun e w'' => e = .returned (.bool (p x)) ∧ Below w'.heap.size w' w'') :
    Calls Try.prog 46 #[.slice A n cap, .func (.func 47) #[] #[.pointer (some ⟨g, 0, none⟩)]] w fun e w' => e = .returned (.bool (anyTo l.length fun j => p (nth l j))) ∧ Below w.heap.size w w' := by
  subst hn
  have HC := Lib.hid hclo
  clear hclo
  go_enter Try.func46, Try.ntmps46
  go_wp2_with fail
  refine (consIndex_c l _ _ _ _ rfl hl hr _ p HC.out).mono ?_
  rintro e w1 ⟨r, rfl, hd, hb1⟩
  have HD := Lib.hid hd
  clear hd
  go_wp2_with fail
  go_ret
  exact ⟨retb HD.out, hb1⟩

theorem goodC_no {l : List Cons} {k : Nat} (hk : k < l.length) (h : (okC (nth l k) && freshC l k) = false) : goodC l = false := by
  have := allTo_no (p := fun i => okC (nth l i) && freshC l i) hk h
  simp [goodC, this]
theorem goodC_all {l : List Cons} (h : ∀ i, i < l.length → (okC (nth l i) && freshC l i) = true) : goodC l = decide (l.length ≤ 8) := by
  simp only [goodC, allTo_true.2 h, Bool.true_and]
theorem freshC_eq {l : List Cons} {k : Nat} (hk : k < l.length) : anyTo (l.take k).length (fun j => (nth (l.take k) j).n.toList == (nth l k).n.toList) = !freshC l k := by
  rw [freshC, Bool.not_not]
  exact anyTo_congr (by simp; omega) fun i hi => by rw [nth_take hi]

theorem AreConsumers_c (l : List Cons) (A : Option Addr) (cap : Nat) (w : World) (hl : l.length ≤ 1048576) (hcap : l.length ≤ cap) (hs : ∀ i, i < l.length → (nth l i).n.size ≤ maxLen) (hr : Rd w w.heap.size 3 Cons.cells A l) :
    Calls Try.prog 27 #[.slice A l.length cap] w fun e w' => e = .returned (.bool (goodC l)) ∧ Below w.heap.size w w' := by
  have HS := Lib.hid hs
  clear hs
  go_enter Try.func27, Try.ntmps27
  go_wp2_with fail
  go_loopw [3, 4, 7] (fun _ _ i wr => ∃ k : Nat, k ≤ l.length ∧ i = .int .i64 k ∧ (∀ j, j < k → (okC (nth l j) && freshC l j) = true) ∧ Below w.heap.size w wr) (fun _ _ i _ => l.length - (intOf i).toNat)
  case atStart => exact ⟨0, Nat.zero_le _, rfl, fun j hj => absurd hj (by omega), Below.refl _ _⟩
  case round =>
    obtain ⟨k, hk, rfl, hall, hbel⟩ := hrel
    have HB := Lib.hid hbel
    have HA := Lib.hid hall
    clear hall
    by_cases hlt : k < l.length
    · obtain ⟨b, off, rfl, hb1, hc0, hc1, hc2⟩ := Cons.rd (hr.below hbel (Nat.le_refl _)) hlt
      have z1 := hbel.size
      clear hbel
      rcases h1 : isWordB (nth l k).n with _ | _
      · have H := Lib.hid (goodC_no hlt (by simp [okC, h1]))
        go_wp2_with (first | (go_at_call 45; refine (isWord_c _ _ (HS.out k hlt)).mono ?_; rintro e w' ⟨rfl, rfl⟩))
        go_ret
        exact ⟨retb H.out.symm, (HB.out.trans (Below.mono (B := wr.heap.size) (by repeat (first | (with_reducible exact Below.refl _ _) | ((with_reducible refine alloc_ ?_ ?_); (focus (first | exact Nat.le_refl _ | (simp; done) | (simp; omega) | omega))) | ((with_reducible refine set_ ?_ ?_); (focus (first | exact Nat.le_refl _ | (simp; done) | (simp; omega) | omega))) | (with_reducible refine Below.drew ?_) | ((with_reducible refine after_ ?_ (by assumption) ?_); (rotate_left; (focus (first | exact Nat.le_refl _ | (simp; done) | (simp; omega) | omega)))))) z1))⟩
      rcases h2 : inR (nth l k).w 1 1000000 with _ | _
      · have H := Lib.hid (goodC_no hlt (by simp [okC, h2]))
        go_wp2_with (first | (go_at_call 45; refine (isWord_c _ _ (HS.out k hlt)).mono ?_; rintro e w' ⟨rfl, rfl⟩) | (go_at_call 32; refine (within_c _ _ _ _).mono ?_; rintro e w' ⟨rfl, rfl⟩))
        go_ret
        exact ⟨retb H.out.symm, (HB.out.trans (Below.mono (B := wr.heap.size) (by repeat (first | (with_reducible exact Below.refl _ _) | ((with_reducible refine alloc_ ?_ ?_); (focus (first | exact Nat.le_refl _ | (simp; done) | (simp; omega) | omega))) | ((with_reducible refine set_ ?_ ?_); (focus (first | exact Nat.le_refl _ | (simp; done) | (simp; omega) | omega))) | (with_reducible refine Below.drew ?_) | ((with_reducible refine after_ ?_ (by assumption) ?_); (rotate_left; (focus (first | exact Nat.le_refl _ | (simp; done) | (simp; omega) | omega)))))) z1))⟩
      rcases h3 : inR (nth l k).r 1 9 with _ | _
      · have H := Lib.hid (goodC_no hlt (by simp [okC, h3]))
        go_wp2_with (first | (go_at_call 45; refine (isWord_c _ _ (HS.out k hlt)).mono ?_; rintro e w' ⟨rfl, rfl⟩) | (go_at_call 32; refine (within_c _ _ _ _).mono ?_; rintro e w' ⟨rfl, rfl⟩))
        go_ret
        exact ⟨retb H.out.symm, (HB.out.trans (Below.mono (B := wr.heap.size) (by repeat (first | (with_reducible exact Below.refl _ _) | ((with_reducible refine alloc_ ?_ ?_); (focus (first | exact Nat.le_refl _ | (simp; done) | (simp; omega) | omega))) | ((with_reducible refine set_ ?_ ?_); (focus (first | exact Nat.le_refl _ | (simp; done) | (simp; omega) | omega))) | (with_reducible refine Below.drew ?_) | ((with_reducible refine after_ ?_ (by assumption) ?_); (rotate_left; (focus (first | exact Nat.le_refl _ | (simp; done) | (simp; omega) | omega)))))) z1))⟩
      go_wp2_with (first | (go_at_call 45; refine (isWord_c _ _ (HS.out k hlt)).mono ?_; rintro e w' ⟨rfl, rfl⟩) | (go_at_call 32; refine (within_c _ _ _ _).mono ?_; rintro e w' ⟨rfl, rfl⟩))
      refine (consContains_c (l.take k) _ _ _ _ (by simp; omega) (by simp [maxLen]; omega) (((hr.take k).below (HB.out.alloc z1 _) (Nat.le_refl _)).mono (by simp; omega)) wr.heap.size (fun x => x.n.toList == (nth l k).n.toList)
        (fun x w' hb => consClo_c x wr.heap.size _ w' ((hb.cell (p := ⟨wr.heap.size, 0, none⟩) (by simp)).trans (by simp [go_sem])) (by have := hb.size; simp at this; omega))).mono ?_
      rintro e w1 ⟨rfl, hb2⟩
      rw [freshC_eq hlt]
      have HB2 := Lib.hid (HB.out.trans ((Below.alloc (Below.refl _ _) (Nat.le_refl _) _).trans (hb2.mono (by simp)) |>.mono z1))
      clear hb2
      rcases h4 : freshC l k with _ | _
      · have H := Lib.hid (goodC_no hlt (by simp [h4]))
        simp only [Bool.not_false]
        go_wp2_with fail
        go_ret
        exact ⟨retb H.out.symm, HB2.out⟩
      · have H := Lib.hid (show (okC (nth l k) && freshC l k) = true by simp [okC, h1, h2, h3, h4])
        simp only [Bool.not_true]
        go_wp2_with fail
        go_roundw
        case rel => exact ⟨k + 1, by omega, by go_num, below_add HA.out H.out, HB2.out⟩
        case measure => simp [intOf]; omega
    · obtain rfl : k = l.length := by omega
      clear hbel
      have H := Lib.hid (goodC_all HA.out)
      go_wp2_with fail
      go_ret
      exact ⟨retb (by rw [H.out]; simp; omega), HB.out⟩
end Go.Proofs.Ytjlgembpaalijaa
