/- The program's AddDamage returns the plain answer; no conditions but the length. -/
import Derived.Test.YtlgpgcfncmomiaaDamAdd
import Derived.Lib.SmallJoins
import Derived.BigRegion
namespace Go.Proofs.Ytlgpgcfncmomiaa
open Go.RowKit Go.Lib

theorem owns_atD {w : World} {base size n cap : Nat} {e : TypeId} {A : Option Addr} {xs : List Value} (h : w.ownsRow base e size (.slice A n cap) n xs) : ∀ g, A = some ⟨g, 0, none⟩ → base ≤ g ∧ g < w.heap.size := fun g hA => by
  subst hA
  rcases h.2 with ⟨h1, _⟩ | ⟨g', cap', cur, h1, hg, hh, _⟩
  · cases h1
  · injection h1 with h2
    injection h2 with h2
    injection h2 with h2
    subst h2
    exact ⟨hg, (Array.getElem?_eq_some_iff.1 hh).1⟩
theorem insertD_c (l : List Dam) (x : Dam) (k : Nat) (A : Option Addr) (cap vb base : Nat) (w : World) (hk : k ≤ l.length) (hl : l.length ≤ 1000) (hown : w.ownsRow base 28 3 (.slice A l.length cap) l.length (flat Dam.cells l))
    (hv : w.heap[vb]? = some (.cells x.cells.toArray 28 (0, 0))) (hne : ∀ g, A = some ⟨g, 0, none⟩ → vb ≠ g) (hbase : base ≤ w.heap.size) :
    Calls Try.prog 26 #[.slice A l.length cap, .int .i64 k, .slice (some ⟨vb, 0, none⟩) 1 1] w (OwnsD base (l.take k ++ x :: l.drop k) w) := by
  by_cases hkl : k = l.length
  · subst hkl
    have h := insert_end l x A cap vb base w hl hown hv hbase
    rwa [List.take_length, List.drop_length]
  · obtain ⟨g, cap', he⟩ := Joins.ownsRow_form hown (by omega)
    injection he with h1 h2 h3
    subst h1 h3
    have hlen : l.length = k + (l.length - k) := by omega
    have hpq : l = l.take k ++ l.drop k := (List.take_append_drop k l).symm
    have hcap : l.length ≤ cap := by
      obtain ⟨_, _, _, _, h, _, _⟩ := owns_block hown
      exact h
    have hown2 : w.ownsRow base 28 3 (.slice (some ⟨g, 0, none⟩) (k + (l.length - k)) cap) (k + (l.length - k)) (flat Dam.cells (l.take k ++ l.drop k)) := by rw [← hlen, ← hpq]; exact hown
    rw [hlen]
    by_cases hc : cap = k + (l.length - k)
    · subst hc
      exact insert_grow (l.take k) (l.drop k) x k (l.length - k) g vb base w (by simp; omega) (by simp) (by omega) (by omega) hown2 hv hbase
    · exact insert_room (l.take k) (l.drop k) x k (l.length - k) cap g vb base w (by simp; omega) (by simp) (by omega) (by omega) (by omega) hown2 hv (hne g rfl)
theorem insertD_n (l : List Dam) (x : Dam) (k n : Nat) (m : List Dam) (A : Option Addr) (cap vb base : Nat) (w : World) (hm : l.take k ++ x :: l.drop k = m) (hn : m.length = n) (hk : k ≤ l.length) (hl : l.length ≤ 1000) (hown : w.ownsRow base 28 3 (.slice A l.length cap) l.length (flat Dam.cells l))
    (hv : w.heap[vb]? = some (.cells x.cells.toArray 28 (0, 0))) (hne : ∀ g, A = some ⟨g, 0, none⟩ → vb ≠ g) (hbase : base ≤ w.heap.size) :
    Calls Try.prog 26 #[.slice A l.length cap, .int .i64 k, .slice (some ⟨vb, 0, none⟩) 1 1] w fun e w' => ∃ A cap, e = .returned (.slice A n cap) ∧ Own w' base 28 3 Dam.cells A m ∧ Below base w w' := by
  subst hm hn
  refine (insertD_c l x k A cap vb base w hk hl hown hv hne hbase).mono ?_
  rintro e w' ⟨A', cap', rfl, ho, hb⟩
  exact ⟨A', cap', rfl, own_flat ho rfl rfl Dam.three, hb⟩
theorem areD_n (k : Kin) (l : List Dam) (n : Nat) (A : Option Addr) (cap : Nat) (w : World) (hn : l.length = n) (hl : n ≤ 1048576) (hr : Rd w w.heap.size 3 Dam.cells A l) :
    Calls Try.prog 10 #[.agg #[.int .i64 k.i, .int .i64 k.st, .int .i64 k.wi, .int .i64 k.we, .int .i64 k.sg], .slice A n cap] w fun e w' => e = .returned (.bool (goodD k l)) ∧ Below w.heap.size w w' := by
  subst hn
  exact AreDamages_c k l A cap w hl hr
theorem addD_false {k : Kin} {l : List Dam} {d : Dam} (h : goodD k l = false ∨ okDm k d = false ∨ goodD k (putD l d) = false) : addD k l d = ([], false) := by
  unfold addD
  rw [if_neg]
  intro hp
  simp only [Bool.and_eq_true, decide_eq_true_eq] at hp
  have := okDm_of hp.1.1 hp.1.2 hp.2
  rcases h with h | h | h
  · rw [hp.1.1] at h; cases h
  · rw [this] at h; cases h
  · rw [hp.2] at h; cases h
theorem addD_true {k : Kin} {l : List Dam} {d : Dam} (h1 : goodD k l = true) (h2 : okDm k d = true) (h3 : goodD k (putD l d) = true) : addD k l d = (putD l d, true) := by
  have := (okDm_true.1 h2).2.2.1
  simp [addD, h1, h3, this]
/-- What a call hands back: a list of damages of its own, and whether there is one. -/
def ListPostD (p : List Dam × Bool) (w : World) (e : Ending) (w' : World) : Prop := ∃ A cap, e = .returned (.tuple #[.slice A p.1.length cap, .bool p.2]) ∧ Own w' w.heap.size 28 3 Dam.cells A p.1 ∧ Below w.heap.size w w'
theorem putD_len {l : List Dam} {d : Dam} : (putD l d).length = if knownD l d = true then l.length else l.length + 1 := by
  rcases h : knownD l d with _ | _
  · have := scanD_le l d
    rw [putD_ins h]; simp; omega
  · rw [putD_set h]; simp
theorem known_at {l : List Dam} {d : Dam} (h : knownD l d = true) : (nth l (scanD l d)).a = d.a ∧ (nth l (scanD l d)).s = d.s := by
  simp only [knownD, sameD, Bool.and_eq_true, decide_eq_true_eq] at h
  exact h.2
set_option maxHeartbeats 3200000 in
theorem implAddDamage_c (k : Kin) (l : List Dam) (d : Dam) (b off cap : Nat) (w : World) (hl : l.length ≤ 1048576) (hr : Rd w w.heap.size 3 Dam.cells (some ⟨b, off, none⟩) l) :
    Calls Try.prog 6 #[.agg #[.int .i64 k.i, .int .i64 k.st, .int .i64 k.wi, .int .i64 k.we, .int .i64 k.sg], .slice (some ⟨b, off, none⟩) l.length cap, .agg #[.int .i64 d.a, .int .i64 d.s, .int .i64 d.w]] w (ListPostD (addD k l d) w) := by
  have HX := Lib.hid ((Box.new w k.cells 25).alloc (.cells d.cells.toArray 28))
  have hy := Box.new (w.alloc (.cells k.cells.toArray 25)) d.cells 28
  rw [World.size_alloc] at hy
  have HY := Lib.hid hy
  have HR := Lib.hid ((hr.alloc (.cells k.cells.toArray 25)).alloc (.cells d.cells.toArray 28))
  have HB0 := Lib.hid (show Below w.heap.size w ((w.alloc (.cells k.cells.toArray 25)).alloc (.cells d.cells.toArray 28)) from ((Below.refl _ _).alloc (Nat.le_refl _) _).alloc (by simp) _)
  clear hr hy
  rcases hg : goodD k l with _ | _
  · have H := Lib.hid (addD_false (d := d) (.inl hg))
    go_enter Try.func6, Try.ntmps6
    go_wp2_with (go_at_call 10; refine (AreDamages_c k l _ _ _ hl HR.out).mono ?_; rintro e w1 ⟨rfl, hb1⟩; rw [hg])
    go_ret2
    exact ⟨none, 0, retl H.out, by rw [H.out]; exact Own.nil, HB0.out.trans (hb1.mono HB0.out.size)⟩
  have HG := Lib.hid hg
  have hl8 := (goodD_true hg).2.1
  have HK := Lib.hid (goodD_true hg).1
  rcases hd : okDm k d with _ | _
  · have H := Lib.hid (addD_false (.inr (.inl hd)) : addD k l d = _)
    go_enter Try.func6, Try.ntmps6
    go_wp2_with fail
    refine (AreDamages_c k l _ _ _ hl HR.out).mono ?_
    rintro e w1 ⟨rfl, hb1⟩
    rw [hg]
    have HB1 := Lib.hid (HB0.out.trans (hb1.mono HB0.out.size))
    have HX1 := Lib.hid (HX.out.carry hb1)
    have HY1 := Lib.hid (HY.out.carry hb1)
    have x0 := HX1.out.cell (j := 0) rfl
    have x1 := HX1.out.cell (j := 1) rfl
    have x2 := HX1.out.cell (j := 2) rfl
    have x3 := HX1.out.cell (j := 3) rfl
    have x4 := HX1.out.cell (j := 4) rfl
    have y0 := HY1.out.cell (j := 0) rfl
    have y1 := HY1.out.cell (j := 1) rfl
    have y2 := HY1.out.cell (j := 2) rfl
    have lx := HX1.out.lt
    have ly := HY1.out.lt
    clear hb1
    go_wp2_with (go_at_call 22; refine (isDamage_c k d _ HK.out).mono ?_; rintro e w2 ⟨rfl, hb2⟩; rw [hd])
    go_ret2
    exact ⟨none, 0, retl H.out, by rw [H.out]; exact Own.nil, HB1.out.trans (hb2.mono HB1.out.size)⟩
  have HD := Lib.hid hd
  obtain ⟨_, _, d1, d2⟩ := okDm_true.1 hd
  have hwk := (okKd_true.1 (goodD_true hg).1).2.2.1
  go_enter Try.func6, Try.ntmps6
  go_wp2_with fail
  refine (AreDamages_c k l _ _ _ hl HR.out).mono ?_
  rintro e w1 ⟨rfl, hb1⟩
  rw [hg]
  have HB1 := Lib.hid (HB0.out.trans (hb1.mono HB0.out.size))
  have HX1 := Lib.hid (HX.out.carry hb1)
  have HY1 := Lib.hid (HY.out.carry hb1)
  have HR1 := Lib.hid (HR.out.carry hb1)
  have x0 := HX1.out.cell (j := 0) rfl
  have x1 := HX1.out.cell (j := 1) rfl
  have x2 := HX1.out.cell (j := 2) rfl
  have x3 := HX1.out.cell (j := 3) rfl
  have x4 := HX1.out.cell (j := 4) rfl
  have y0 := HY1.out.cell (j := 0) rfl
  have y1 := HY1.out.cell (j := 1) rfl
  have y2 := HY1.out.cell (j := 2) rfl
  have lx := HX1.out.lt
  have ly := HY1.out.lt
  clear hb1 hg
  go_wp2_with fail
  refine (isDamage_c k d _ HK.out).mono ?_
  rintro e w2 ⟨rfl, hb2⟩
  rw [hd]
  have HB2 := Lib.hid (HB1.out.trans (hb2.mono HB1.out.size))
  have HX2 := Lib.hid (HX1.out.carry hb2)
  have HY2 := Lib.hid (HY1.out.carry hb2)
  have HR2 := Lib.hid (HR1.out.carry hb2)
  clear hb2 hd x0 x1 x2 x3 x4 y0 y1 y2 lx ly
  go_wp2_with fail
  refine (clone_c l b off _ _ hl HR2.out).mono ?_
  rintro e w3 ⟨A3, cap3, rfl, hown3, hb3⟩
  have HB3 := Lib.hid (HB2.out.trans (hb3.mono HB2.out.size))
  have HX3 := Lib.hid (HX2.out.carry hb3)
  have HY3 := Lib.hid (HY2.out.carry hb3)
  have HO3 := Lib.hid hown3
  have HW3 := Lib.hid (own_flat hown3 rfl rfl Dam.three : Own _ _ _ _ _ _ l)
  have y0 := HY3.out.cell (j := 0) rfl
  have y1 := HY3.out.cell (j := 1) rfl
  have y2 := HY3.out.cell (j := 2) rfl
  have ly := HY3.out.lt
  have z3 := hb3.size
  have zx := HX2.out.lt
  have zy := HY2.out.lt
  clear hb3 hown3
  go_wp2_with fail
  refine (searchD_c k l d _ _ _ HG.out (HW3.out.rd Dam.three)).mono ?_
  rintro e w4 ⟨rfl, hb4⟩
  have HS := Lib.hid (scanD_le l d)
  have hsl := scanD_le l d
  have HB4 := Lib.hid (HB3.out.trans (hb4.mono HB3.out.size))
  have HX4 := Lib.hid (HX3.out.carry hb4)
  have HY4 := Lib.hid (HY3.out.carry hb4)
  have HO4 := Lib.hid (ownsRow_below HO3.out hb4)
  have HW4 := Lib.hid (HW3.out.carry hb4)
  have z4 := hb4.size
  have y0 := HY4.out.cell (j := 0) rfl
  have y1 := HY4.out.cell (j := 1) rfl
  have y2 := HY4.out.cell (j := 2) rfl
  have ly4 := HY4.out.lt
  clear hb4 HX2 HY2 HX3 HY3 HO3 HW3
  obtain ⟨s, hs⟩ : ∃ s, scanD l d = s := ⟨_, rfl⟩
  have HSc := Lib.hid hs
  rw [hs] at HS hsl ⊢
  rcases hkn : knownD l d with _ | _
  · have HP := Lib.hid (show l.take s ++ d :: l.drop s = putD l d by rw [putD_ins hkn, hs])
    obtain ⟨n, hn⟩ : ∃ n, l.length + 1 = n := ⟨_, rfl⟩
    have HLen := Lib.hid (show (putD l d).length = n by rw [putD_len, hkn, if_neg (by simp), hn])
    clear hs hkn
    go_wp2_with (go_at_call 26; refine (insertD_n l d s n (putD l d) A3 cap3 _ w2.heap.size _ HP.out HLen.out HS.out (by omega) (Joins.ownsRow_le (ownsRow_below HO4.out (by repeat (first | (with_reducible exact Below.refl _ _) | ((with_reducible refine alloc_ ?_ ?_); (focus (first | exact Nat.le_refl _ | (simp; done) | (simp; omega) | omega))) | ((with_reducible refine set_ ?_ ?_); (focus (first | exact Nat.le_refl _ | (simp; done) | (simp; omega) | omega))) | (with_reducible refine Below.drew ?_) | ((with_reducible refine after_ ?_ (by assumption) ?_); (rotate_left; (focus (first | exact Nat.le_refl _ | (simp; done) | (simp; omega) | omega))))))) (Nat.le_refl _)) (heap_alloc_new _ _) ?_ ?_).mono ?_; (focus (intro g hA; have h := owns_atD HO4.out g hA; omega)); (focus (simp; omega)); rintro e w5 ⟨A5, cap5, rfl, ho5, hb5⟩; have HBW := Lib.hid (((Below.refl w2.heap.size w4).alloc (by omega) (.cells d.cells.toArray 28)).trans hb5); have HO5 := Lib.hid ho5; have hx5 := HX4.out.below HBW.out zx; clear hb5 ho5; have x0 := hx5.cell (j := 0) rfl; have x1 := hx5.cell (j := 1) rfl; have x2 := hx5.cell (j := 2) rfl; have x3 := hx5.cell (j := 3) rfl; have x4 := hx5.cell (j := 4) rfl; have lx := hx5.lt; clear hx5)
    refine (areD_n k (putD l d) n A5 cap5 w5 HLen.out (by omega) (HO5.out.rd Dam.three)).mono ?_
    rintro e w6 ⟨rfl, hb6⟩
    have HB6 := Lib.hid (HB4.out.trans ((HBW.out.mono HB2.out.size).trans (hb6.mono (Nat.le_trans HB4.out.size (Nat.le_trans (by omega) HBW.out.size)))))
    rcases hg2 : goodD k (putD l d) with _ | _
    · have H := Lib.hid (addD_false (d := d) (.inr (.inr hg2)))
      go_wp2_with fail
      go_ret2
      exact ⟨none, 0, retl H.out, by rw [H.out]; exact Own.nil, HB6.out⟩
    · have H := Lib.hid (addD_true HG.out HD.out hg2)
      go_wp2_with fail
      go_ret2
      exact ⟨A5, cap5, by rw [H.out]; simp only [HLen.out]; rfl, by rw [H.out]; exact (HO5.out.carry hb6).less HB2.out.size, HB6.out⟩
  · have hlt : s < l.length := by simp only [knownD, Bool.and_eq_true, decide_eq_true_eq] at hkn; omega
    have HP := Lib.hid (show putD l d = l.set s ⟨d.a, d.s, (nth l s).w + d.w⟩ by rw [putD_set hkn, hs])
    have HLen := Lib.hid (show (putD l d).length = l.length by rw [putD_len, hkn, if_pos rfl])
    obtain ⟨g, cap', he⟩ := Joins.ownsRow_form HO4.out (by omega)
    injection he with h1 h2 h3
    subst h1 h3
    obtain ⟨b', off', he, hb, c0, c1, c2⟩ := Dam.rd (HW4.out.rd Dam.three) hlt
    simp only [Option.some.injEq, Addr.mk.injEq, and_true] at he
    obtain ⟨rfl, rfl⟩ := he
    simp only [Nat.zero_add] at c2
    obtain ⟨hput, hfz, hbg, hgl⟩ := HW4.out.put (i := s) (j := 2) (y := ⟨d.a, d.s, (nth l s).w + d.w⟩) (u := .int .i64 ((nth l s).w + d.w)) hlt (by omega) (by
      obtain ⟨f1, f2⟩ := known_at hkn
      rw [hs] at f1 f2
      intro j' v hj' hv
      match j', hj', hv with
      | 0, _, hv => simpa [Dam.cells, f1] using hv
      | 1, _, hv => simpa [Dam.cells, f2] using hv
      | 2, _, hv => simpa [Dam.cells, eq_comm] using hv)
    rw [← HP.out] at hput
    have HO5 := Lib.hid hput
    have e1 : IntKind.i64.wrap ((nth l s).w + d.w) = (nth l s).w + d.w := IntWalk.i64_in _ (by have := (okDm_true.1 ((goodD_true HG.out).2.2.1 s hlt)).2.2; omega)
    have i1 : (0 : Int) ≤ (s : Int) := by omega
    have i2 : (s : Int) < l.length := by omega
    have HBW := Lib.hid ((Below.refl w2.heap.size w4).setCell (p := ⟨g, s * 3 + 2, none⟩) hbg (.int .i64 ((nth l s).w + d.w)))
    have hx5 := Lib.hid (HX4.out.below HBW.out zx)
    clear hs hkn hput c0 c1
    go_wp2_with fail
    go_region
    obtain ⟨w5, hw5⟩ : ∃ w5, (w4.setCell ⟨g, s * 3 + 2, none⟩ (.int .i64 ((nth l s).w + d.w))).drew = w5 := ⟨_, rfl⟩
    have HO5 := Lib.hid (show Own w5 w2.heap.size 28 3 Dam.cells (some ⟨g, 0, none⟩) (putD l d) from hw5 ▸ HO5.out)
    have HBW := Lib.hid (show Below w2.heap.size w4 w5 from hw5 ▸ HBW.out.drew)
    rw [hw5]
    have hx5 := HX4.out.below HBW.out zx
    have x0 := hx5.cell (j := 0) rfl
    have x1 := hx5.cell (j := 1) rfl
    have x2 := hx5.cell (j := 2) rfl
    have x3 := hx5.cell (j := 3) rfl
    have x4 := hx5.cell (j := 4) rfl
    have lx := hx5.lt
    clear hw5 hx5 c2 hfz y0 y1 y2 e1
    go_wp2_with fail
    refine (areD_n k (putD l d) l.length (some ⟨g, 0, none⟩) cap3 w5 HLen.out (by omega) (HO5.out.rd Dam.three)).mono ?_
    rintro e w6 ⟨rfl, hb6⟩
    have HB6 := Lib.hid (HB4.out.trans ((HBW.out.mono HB2.out.size).trans (hb6.mono (Nat.le_trans HB4.out.size HBW.out.size))))
    rcases hg2 : goodD k (putD l d) with _ | _
    · have H := Lib.hid (addD_false (d := d) (.inr (.inr hg2)))
      go_wp2_with fail
      go_ret2
      exact ⟨none, 0, retl H.out, by rw [H.out]; exact Own.nil, HB6.out⟩
    · have H := Lib.hid (addD_true HG.out HD.out hg2)
      go_wp2_with fail
      go_ret2
      exact ⟨some ⟨g, 0, none⟩, cap3, by rw [H.out]; simp only [HLen.out]; rfl, by rw [H.out]; exact (HO5.out.carry hb6).less HB2.out.size, HB6.out⟩
end Go.Proofs.Ytlgpgcfncmomiaa
