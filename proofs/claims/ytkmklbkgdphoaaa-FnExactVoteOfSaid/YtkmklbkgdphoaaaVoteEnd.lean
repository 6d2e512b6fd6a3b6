/- The program's VoteOf and BrokenSensors return the plain answers; no conditions but the length. -/
import Derived.Test.YtkmklbkgdphoaaaVote
namespace Go.Proofs.Ytkmklbkgdphoaaa
open Go.RowKit Go.Lib

/-- What a call hands back: a list of its own, and whether there is one. -/
def ListPost (p : List Int × Bool) (w : World) (e : Ending) (w' : World) : Prop := ∃ A cap, e = .returned (.tuple #[.slice A p.1.length cap, .bool p.2]) ∧ Own w' w.heap.size 3 1 intCells A p.1 ∧ Below w.heap.size w w'

theorem cloneI_c (o : List Int) (b off cap : Nat) (w : World) (hl : o.length ≤ 1000) (h0 : 0 < o.length) (hr : Rd w w.heap.size 1 intCells (some ⟨b, off, none⟩) o) :
    Calls Try.prog 22 #[.slice (some ⟨b, off, none⟩) o.length cap] w (GivesR o w) := by
  have hnil := @Lib.run_eql_slice_nil Try.prog
  have HR := Lib.hid hr
  have HL := Lib.hid (flat_len (k := 1) (cells := intCells) (fun _ => rfl) o)
  clear hr
  go_enter Try.func22, Try.ntmps22
  go_wp2_with (refine wpList_extend _ rfl (.tmp 5) (.tmp 6) 22 rfl w.heap.size 3 _ 1 8 Try.underlying22 info_int rfl (by decide) (by decide) _ 0 [] rfl (ownsRow_empty w 3 1) b off o.length cap (flat intCells o) rfl HL.out (HR.out.news (by repeat (first | (with_reducible exact Below.refl _ _) | ((with_reducible refine alloc_ ?_ ?_); (focus (first | exact Nat.le_refl _ | (simp; done) | (simp; omega) | omega))) | ((with_reducible refine set_ ?_ ?_); (focus (first | exact Nat.le_refl _ | (simp; done) | (simp; omega) | omega))) | (with_reducible refine Below.drew ?_) | ((with_reducible refine after_ ?_ (by assumption) ?_); (rotate_left; (focus (first | exact Nat.le_refl _ | (simp; done) | (simp; omega) | omega)))))) (fun _ => rfl) (by decide)) (flat_cells (fun _ u hu => by simp [intCells] at hu; subst hu; rfl) o) (by omega) (by simp) ?_; intro v w1 hown hb1 hk1)
  rw [List.nil_append, show flat intCells o = o.map (Value.int .i64) from flat_ints o] at hown
  obtain ⟨g, gc, rfl, hg, harr⟩ := Arr.of_owns hown (by omega) (by omega)
  have hcp := Lib.hid (own_cap hown)
  have HA := Lib.hid harr
  have HB := Lib.hid (show Below w.heap.size w w1 from (by repeat (first | (with_reducible exact Below.refl _ _) | ((with_reducible refine alloc_ ?_ ?_); (focus (first | exact Nat.le_refl _ | (simp; done) | (simp; omega) | omega))) | ((with_reducible refine set_ ?_ ?_); (focus (first | exact Nat.le_refl _ | (simp; done) | (simp; omega) | omega))) | (with_reducible refine Below.drew ?_) | ((with_reducible refine after_ ?_ (by assumption) ?_); (rotate_left; (focus (first | exact Nat.le_refl _ | (simp; done) | (simp; omega) | omega)))))))
  clear hown hb1 hk1 harr hnil
  go_wp2_with fail
  go_ret
  exact ⟨g, gc, retG (by omega), by have := hcp.out; omega, hg, HA.out, HB.out⟩
def okV (o : List Int) : Bool := inR o.length 1 5 && allR o (-1) 60
theorem okV_true {o : List Int} (h : okV o = true) : (1 ≤ o.length ∧ o.length ≤ 5) ∧ ∀ i, i < o.length → -1 ≤ nth o i ∧ nth o i ≤ 60 := by
  simp only [okV, Bool.and_eq_true, inR_true, allR, allTo_true] at h
  exact ⟨by omega, fun i hi => h.2 i hi⟩
def voteV (o : List Int) : Int := if 2 * (posL o).length < o.length then 60 else nth (isort (posL o)) ((posL o).length / 2)
def voteP (o : List Int) : Int × Bool := if okV o then (voteV o, true) else (0, false)
theorem rett2 {p : Int × Bool} {a b : Int} {c d : Bool} (h : p = (b, d)) (h1 : a = b) (h2 : c = d) : Ending.returned (.tuple #[.int .i64 a, .bool c]) = .returned (.tuple #[.int .i64 p.1, .bool p.2]) := by rw [h, h1, h2]
theorem sort_n (o : List Int) (n g cap : Nat) (w : World) (hn : o.length = n) (hl : n ≤ 12) (ha : Arr w g o) : Calls Try.prog 24 #[.slice (some ⟨g, 0, none⟩) n cap] w (SortPost o g w) := by
  subst hn
  exact sort_c o g cap w hl ha
set_option maxHeartbeats 800000 in
theorem voteOf_c (o : List Int) (A : Option Addr) (cap : Nat) (w : World) (hl : o.length ≤ 1048576) (hr : Rd w w.heap.size 1 intCells A o) :
    Calls Try.prog 15 #[.slice A o.length cap] w fun e w' => e = .returned (.tuple #[.int .i64 (voteP o).1, .bool (voteP o).2]) ∧ Below w.heap.size w w' := by
  rcases hn : inR o.length 1 5 with _ | _
  · have H := Lib.hid (show voteP o = (0, false) by simp [voteP, okV, hn])
    go_enter Try.func15, Try.ntmps15
    go_wp2_with (go_at_call 19; refine (within_c _ _ _ _).mono ?_; rintro e w' ⟨rfl, rfl⟩)
    go_ret2
    exact ⟨rett2 H.out rfl rfl, Below.refl _ _⟩
  obtain ⟨n1, n5⟩ := inR_true.1 hn
  rcases ha : allR o (-1) 60 with _ | _
  · have H := Lib.hid (show voteP o = (0, false) by simp [voteP, okV, ha])
    go_enter Try.func15, Try.ntmps15
    go_wp2_with (first | (go_at_call 19; refine (within_c _ _ _ _).mono ?_; rintro e w' ⟨rfl, rfl⟩) | (go_at_call 20; refine (allIn_c o _ _ _ _ _ hl hr).mono ?_; rintro e w' ⟨rfl, rfl⟩))
    go_ret2
    exact ⟨rett2 H.out rfl rfl, Below.refl _ _⟩
  have H := Lib.hid (show voteP o = (voteV o, true) by simp [voteP, okV, hn, ha])
  obtain ⟨b, off, rfl, hb, _⟩ := hr.int (show 0 < o.length by omega)
  have HR := Lib.hid hr
  have HN := Lib.hid hn
  have HAl := Lib.hid ha
  have hpl := posL_le o
  have HL := Lib.hid (isort_len (posL o))
  obtain ⟨m, hm⟩ : ∃ m, (posL o).length = m := ⟨_, rfl⟩
  have HM := Lib.hid hm
  rw [hm] at hpl
  clear hm
  go_enter Try.func15, Try.ntmps15
  go_wp2_with (first | (go_at_call 19; refine (within_c _ _ _ _).mono ?_; rintro e w' ⟨rfl, rfl⟩) | (go_at_call 20; refine (allIn_c o _ _ _ _ _ hl HR.out).mono ?_; rintro e w' ⟨rfl, rfl⟩))
  clear hn ha hr
  refine (cloneI_c o b off cap w (by omega) (by omega) HR.out).mono ?_
  rintro e w1 ⟨g, gc, rfl, hgc, hg, harr, hb1⟩
  have HA1 := Lib.hid harr
  have HB1 := Lib.hid hb1
  clear harr hb1
  go_wp2_with fail
  refine (deleteNeg_c o g gc w1 (by omega) hgc HA1.out).mono ?_
  rintro e w2 ⟨gc2, rfl, harr, hgr⟩
  have HA2 := Lib.hid harr
  have HB2 := Lib.hid (HB1.out.trans (grown_below hgr hg HB1.out.size))
  rw [HM.out]
  clear harr hgr
  by_cases h2 : 2 * m < o.length
  · have HV := Lib.hid (show voteV o = 60 by unfold voteV; rw [HM.out, if_pos h2])
    have h2' : (2 : Int) * m < o.length := by omega
    go_wp2_with fail
    go_ret2
    exact ⟨rett2 H.out HV.out.symm rfl, HB2.out⟩
  · have HV := Lib.hid (show voteV o = nth (isort (posL o)) (m / 2) by unfold voteV; rw [HM.out, if_neg h2])
    have h2' : ¬ (2 : Int) * m < o.length := by omega
    go_wp2_with fail
    refine (sort_n (posL o) m g gc2 w2 HM.out (by omega) HA2.out).mono ?_
    rintro e w3 ⟨rfl, harr, hgr⟩
    have hc := harr.cell (i := m / 2) (by have h := HL.out; have h' := HM.out; omega)
    have HB3 := Lib.hid (HB2.out.trans (grown_below hgr hg (Nat.le_trans HB2.out.size (Nat.le_refl _))))
    have i1 : (m : Int) / 2 < m := by omega
    have i2 : ((m : Int) / 2).toNat = m / 2 := by omega
    clear harr hgr
    go_wp2_with fail
    go_ret2
    exact ⟨rett2 H.out HV.out.symm rfl, HB3.out⟩
theorem implVoteOf_c (o : List Int) (A : Option Addr) (cap : Nat) (w : World) (hl : o.length ≤ 1048576) (hr : Rd w w.heap.size 1 intCells A o) :
    Calls Try.prog 7 #[.slice A o.length cap] w fun e w' => e = .returned (.tuple #[.int .i64 (voteP o).1, .bool (voteP o).2]) ∧ Below w.heap.size w w' := by
  go_enter Try.func7, Try.ntmps7
  go_wp2_with fail
  refine (voteOf_c o _ _ _ hl hr).mono ?_
  rintro e w1 ⟨rfl, hb1⟩
  go_wp2_with fail
  go_ret2
  exact ⟨rfl, hb1⟩
end Go.Proofs.Ytkmklbkgdphoaaa
