/- The program's AddTask returns the plain answer; no conditions but the length. -/
import Derived.Test.YtokddcnkfeimkaaAdd
import Derived.Lib.SmallJoins
namespace Go.Proofs.Ytokddcnkfeimkaa
open Go.RowKit Go.Lib

theorem owns_atT {w : World} {base size n cap : Nat} {e : TypeId} {A : Option Addr} {xs : List Value} (h : w.ownsRow base e size (.slice A n cap) n xs) : ∀ g, A = some ⟨g, 0, none⟩ → base ≤ g ∧ g < w.heap.size := fun g hA => by
  subst hA
  rcases h.2 with ⟨h1, _⟩ | ⟨g', cap', cur, h1, hg, hh, _⟩
  · cases h1
  · injection h1 with h2
    injection h2 with h2
    injection h2 with h2
    subst h2
    exact ⟨hg, (Array.getElem?_eq_some_iff.1 hh).1⟩
theorem insert_c (l : List Tsk) (x : Tsk) (k : Nat) (A : Option Addr) (cap vb base : Nat) (w : World) (hk : k ≤ l.length) (hl : l.length ≤ 1000) (hown : w.ownsRow base 50 4 (.slice A l.length cap) l.length (flat Tsk.cells l))
    (hv : w.heap[vb]? = some (.cells x.cells.toArray 50 (0, 0))) (hne : ∀ g, A = some ⟨g, 0, none⟩ → vb ≠ g) (hbase : base ≤ w.heap.size) :
    Calls Try.prog 70 #[.slice A l.length cap, .int .i64 k, .slice (some ⟨vb, 0, none⟩) 1 1] w (OwnsT base (l.take k ++ x :: l.drop k) w) := by
  by_cases hkl : k = l.length
  · subst hkl
    have h := insert_end l x A cap vb base w hl hown hv hbase
    rwa [List.take_length, List.drop_length]
  · obtain ⟨g, cap', he⟩ := Joins.ownsRow_form hown (by omega)
    injection he with h1 h2 h3
    subst h1 h3
    have hlen : l.length = k + (l.length - k) := by omega
    have hpq : l = l.take k ++ l.drop k := (List.take_append_drop k l).symm
    have hcap : l.length ≤ cap := by
      obtain ⟨_, _, _, _, h, _, _⟩ := owns_block hown
      exact h
    have hown2 : w.ownsRow base 50 4 (.slice (some ⟨g, 0, none⟩) (k + (l.length - k)) cap) (k + (l.length - k)) (flat Tsk.cells (l.take k ++ l.drop k)) := by rw [← hlen, ← hpq]; exact hown
    rw [hlen]
    by_cases hc : cap = k + (l.length - k)
    · subst hc
      exact insert_grow (l.take k) (l.drop k) x k (l.length - k) g vb base w (by simp; omega) (by simp) (by omega) (by omega) hown2 hv hbase
    · exact insert_room (l.take k) (l.drop k) x k (l.length - k) cap g vb base w (by simp; omega) (by simp) (by omega) (by omega) (by omega) hown2 hv (hne g rfl)
def OwnsN (base n : Nat) (l : List Tsk) (w : World) (e : Ending) (w' : World) : Prop := ∃ A cap, e = .returned (.slice A n cap) ∧ w'.ownsRow base 50 4 (.slice A n cap) n (flat Tsk.cells l) ∧ Below base w w'
theorem insert_n (l : List Tsk) (x : Tsk) (k n : Nat) (A : Option Addr) (cap vb base : Nat) (w : World) (hn : (l.take k ++ x :: l.drop k).length = n) (hk : k ≤ l.length) (hl : l.length ≤ 1000) (hown : w.ownsRow base 50 4 (.slice A l.length cap) l.length (flat Tsk.cells l))
    (hv : w.heap[vb]? = some (.cells x.cells.toArray 50 (0, 0))) (hne : ∀ g, A = some ⟨g, 0, none⟩ → vb ≠ g) (hbase : base ≤ w.heap.size) :
    Calls Try.prog 70 #[.slice A l.length cap, .int .i64 k, .slice (some ⟨vb, 0, none⟩) 1 1] w (OwnsN base n (l.take k ++ x :: l.drop k) w) := by
  subst hn
  exact insert_c l x k A cap vb base w hk hl hown hv hne hbase
theorem has_n (l : List Tsk) (n : Nat) (A : Option Addr) (cap : Nat) (w : World) (hn : l.length = n) (hl : n ≤ 1048576) (hr : Rd w w.heap.size 4 Tsk.cells A l) :
    Calls Try.prog 22 #[.slice A n cap] w fun e w' => e = .returned (.tuple #[.bool (hasP l).1, .bool (hasP l).2]) ∧ Below w.heap.size w w' := by
  subst hn
  exact implHasTaskPlan_c l A cap w hl hr
/-- What a call hands back: a list of tasks of its own, and whether there is one. -/
def ListPostT (p : List Tsk × Bool) (w : World) (e : Ending) (w' : World) : Prop := ∃ A cap, e = .returned (.tuple #[.slice A p.1.length cap, .bool p.2]) ∧ Own w' w.heap.size 50 4 Tsk.cells A p.1 ∧ Below w.heap.size w w'
set_option maxHeartbeats 1600000 in
theorem implAddTask_c (l : List Tsk) (x : Tsk) (b off cap : Nat) (w : World) (hl : l.length ≤ 1048576) (hr : Rd w w.heap.size 4 Tsk.cells (some ⟨b, off, none⟩) l) :
    Calls Try.prog 40 #[.slice (some ⟨b, off, none⟩) l.length cap, .agg #[.int .i64 x.i, .int .i64 x.f, .int .i64 x.u, .int .i64 x.d]] w (ListPostT (addP l x) w) := by
  rcases hg : goodK l with _ | _
  · have H := Lib.hid (show addP l x = ([], false) by simp [addP, hg])
    go_enter Try.func40, Try.ntmps40
    go_wp2_with fail
    refine (AreTasks_c l _ _ _ hl (hr.alloc _)).mono ?_
    rintro e w1 ⟨rfl, hb1⟩
    go_wp2_with fail
    go_ret2
    exact ⟨none, 0, retl H.out, by rw [H.out]; exact Own.nil, (by repeat (first | (with_reducible exact Below.refl _ _) | ((with_reducible refine alloc_ ?_ ?_); (focus (first | exact Nat.le_refl _ | (simp; done) | (simp; omega) | omega))) | ((with_reducible refine set_ ?_ ?_); (focus (first | exact Nat.le_refl _ | (simp; done) | (simp; omega) | omega))) | (with_reducible refine Below.drew ?_) | ((with_reducible refine after_ ?_ (by assumption) ?_); (rotate_left; (focus (first | exact Nat.le_refl _ | (simp; done) | (simp; omega) | omega))))))⟩
  have HG := Lib.hid hg
  have hl8 := (goodK_true hg).1
  have hX := Box.new w x.cells 50
  go_enter Try.func40, Try.ntmps40
  go_wp2_with fail
  refine (AreTasks_c l _ _ _ hl (hr.alloc _)).mono ?_
  rintro e w1 ⟨rfl, hb1⟩
  rw [hg]
  have hX1 := hX.carry hb1
  have HX1 := Lib.hid hX1
  have HR1 := Lib.hid ((hr.alloc (.cells x.cells.toArray 50)).carry hb1)
  have HB1 := Lib.hid (show Below w.heap.size w w1 from (by repeat (first | (with_reducible exact Below.refl _ _) | ((with_reducible refine alloc_ ?_ ?_); (focus (first | exact Nat.le_refl _ | (simp; done) | (simp; omega) | omega))) | ((with_reducible refine set_ ?_ ?_); (focus (first | exact Nat.le_refl _ | (simp; done) | (simp; omega) | omega))) | (with_reducible refine Below.drew ?_) | ((with_reducible refine after_ ?_ (by assumption) ?_); (rotate_left; (focus (first | exact Nat.le_refl _ | (simp; done) | (simp; omega) | omega)))))))
  have x0 := hX1.cell (j := 0) rfl
  have x1 := hX1.cell (j := 1) rfl
  have x2 := hX1.cell (j := 2) rfl
  have x3 := hX1.cell (j := 3) rfl
  clear hb1 hX hX1 hg hr
  go_wp2_with fail
  refine (search_c l x _ _ _ HG.out HR1.out).mono ?_
  rintro e w2 ⟨fnd, rfl, hb2⟩
  have hX2 := HX1.out.carry hb2
  have HR2 := Lib.hid (HR1.out.carry hb2)
  have HB2 := Lib.hid (HB1.out.trans (hb2.mono HB1.out.size))
  have hxl := hX2.lt
  have y0 := hX2.cell (j := 0) rfl
  have y1 := hX2.cell (j := 1) rfl
  have y2 := hX2.cell (j := 2) rfl
  have y3 := hX2.cell (j := 3) rfl
  have HK := Lib.hid (scan_le l x)
  obtain ⟨k, hk⟩ : ∃ k, scan l x = k := ⟨_, rfl⟩
  rw [hk] at HK ⊢
  have HI := Lib.hid (show l.take k ++ x :: l.drop k = ins l x by unfold ins; rw [hk])
  obtain ⟨n4, hn4⟩ : ∃ n4, l.length + 1 = n4 := ⟨_, rfl⟩
  have HN := Lib.hid (show (ins l x).length = n4 by rw [ins_len]; exact hn4)
  have hn8 : n4 ≤ 9 := by omega
  have HX2 := Lib.hid hX2
  clear hb2 hX2 x0 x1 x2 x3 hk hn4
  go_wp2_with fail
  go_region_with (first
    | (go_at_call 71; refine (clone_c l b off _ _ hl ((HR2.out.below (B' := w2.heap.size) (by repeat (first | (with_reducible exact Below.refl _ _) | ((with_reducible refine alloc_ ?_ ?_); (focus (first | exact Nat.le_refl _ | (simp; done) | (simp; omega) | omega))) | ((with_reducible refine set_ ?_ ?_); (focus (first | exact Nat.le_refl _ | (simp; done) | (simp; omega) | omega))) | (with_reducible refine Below.drew ?_) | ((with_reducible refine after_ ?_ (by assumption) ?_); (rotate_left; (focus (first | exact Nat.le_refl _ | (simp; done) | (simp; omega) | omega)))))) (Nat.le_refl _)).mono (by first | exact Nat.le_refl _ | (simp; done) | (simp; omega)))).mono ?_; rintro e w3 ⟨A3, cap3, rfl, hown3, hb3⟩; have hz3 := hb3.size; (try simp at hz3); have HW3 := Lib.hid (show Below w2.heap.size w2 w3 from (by repeat (first | (with_reducible exact Below.refl _ _) | ((with_reducible refine alloc_ ?_ ?_); (focus (first | exact Nat.le_refl _ | (simp; done) | (simp; omega) | omega))) | ((with_reducible refine set_ ?_ ?_); (focus (first | exact Nat.le_refl _ | (simp; done) | (simp; omega) | omega))) | (with_reducible refine Below.drew ?_) | ((with_reducible refine after_ ?_ (by assumption) ?_); (rotate_left; (focus (first | exact Nat.le_refl _ | (simp; done) | (simp; omega) | omega))))))); have v0 := (HX2.out.below HW3.out hxl).cell (j := 0) rfl; have v1 := (HX2.out.below HW3.out hxl).cell (j := 1) rfl; have v2 := (HX2.out.below HW3.out hxl).cell (j := 2) rfl; have v3 := (HX2.out.below HW3.out hxl).cell (j := 3) rfl)
    | (go_at_call 70; refine (insert_n l x k n4 _ _ _ w2.heap.size _ (by rw [HI.out]; exact HN.out) HK.out (by omega) ?_ ?_ ?_ ?_).mono ?_; (focus exact Joins.ownsRow_le (ownsRow_below hown3 (by repeat (first | (with_reducible exact Below.refl _ _) | ((with_reducible refine alloc_ ?_ ?_); (focus (first | exact Nat.le_refl _ | (simp; done) | (simp; omega) | omega))) | ((with_reducible refine set_ ?_ ?_); (focus (first | exact Nat.le_refl _ | (simp; done) | (simp; omega) | omega))) | (with_reducible refine Below.drew ?_) | ((with_reducible refine after_ ?_ (by assumption) ?_); (rotate_left; (focus (first | exact Nat.le_refl _ | (simp; done) | (simp; omega) | omega))))))) (by first | exact Nat.le_refl _ | (simp; done) | (simp; omega))); (focus (first | exact heap_alloc_new _ _ | exact (hb3.block _ (by simp)).trans (heap_alloc_new _ _))); (focus (intro g hA; have h := owns_atT hown3 g hA; (try simp at h); omega)); (focus (first | omega | (simp; done) | (simp; omega))); rintro e w4 ⟨A4, cap4, rfl, hown4, hb4⟩))
  all_goals
    rw [HI.out] at hown4
    have HB4 := Lib.hid (show Below w2.heap.size w2 w4 from (by repeat (first | (with_reducible exact Below.refl _ _) | ((with_reducible refine alloc_ ?_ ?_); (focus (first | exact Nat.le_refl _ | (simp; done) | (simp; omega) | omega))) | ((with_reducible refine set_ ?_ ?_); (focus (first | exact Nat.le_refl _ | (simp; done) | (simp; omega) | omega))) | (with_reducible refine Below.drew ?_) | ((with_reducible refine after_ ?_ (by assumption) ?_); (rotate_left; (focus (first | exact Nat.le_refl _ | (simp; done) | (simp; omega) | omega)))))))
    have HO4 := Lib.hid (own_flat hown4 HN.out.symm rfl Tsk.four)
    have hcl := has_n (ins l x) n4 A4 cap4 w4 HN.out (by omega) (HO4.out.rd Tsk.four)
    have HCL := Lib.hid hcl
    clear hcl hown4 hb4 hown3 hb3 hz3
    go_wp2_with fail
    refine HCL.out.mono ?_
    rintro e w5 ⟨rfl, hb5⟩
    have HB5 := Lib.hid (HB2.out.trans ((HB4.out.trans (hb5.mono HB4.out.size)).mono HB2.out.size))
    have HO5 := Lib.hid ((HO4.out.carry hb5).less HB2.out.size)
    clear hb5 HCL y0 y1 y2 y3 v0 v1 v2 v3
    rcases hg2 : goodK (ins l x) with _ | _
    · have H := Lib.hid (show addP l x = ([], false) by simp [addP, hg2])
      have HP := Lib.hid (show hasP (ins l x) = (false, false) by simp [hasP, hg2])
      rw [HP.out]
      go_wp2_with fail
      go_ret2
      exact ⟨none, 0, retl H.out, by rw [H.out]; exact Own.nil, HB5.out⟩
    · have HP := Lib.hid (show hasP (ins l x) = (has (ins l x), true) by simp [hasP, hg2])
      rw [HP.out]
      rcases hh : has (ins l x) with _ | _
      · have H := Lib.hid (show addP l x = ([], false) by simp [addP, hh])
        go_wp2_with fail
        go_ret2
        exact ⟨none, 0, retl H.out, by rw [H.out]; exact Own.nil, HB5.out⟩
      · have H := Lib.hid (show addP l x = (ins l x, true) by simp [addP, HG.out, hg2, hh])
        go_wp2_with fail
        go_ret2
        exact ⟨A4, cap4, by rw [H.out]; simp only [HN.out]; rfl, by rw [H.out]; exact HO5.out, HB5.out⟩
end Go.Proofs.Ytokddcnkfeimkaa
