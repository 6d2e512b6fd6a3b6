/- The reference's AddDamage returns the plain answer; no conditions but the length, and a kind and a damage that are not far off. -/
import Derived.Test.YtlgpgcfncmomiaaDamAddI
import Derived.Test.YtlgpgcfncmomiaaDamSum
import Derived.Deep.RegionLaw
namespace Go.Proofs.Ytlgpgcfncmomiaa
open Go.RowKit Go.Lib

theorem heap_newD (W : World) (o : Obj) {g : Nat} (h : g = W.heap.size) : (W.alloc o).drew.heap[g]? = some o := by subst h; exact heap_alloc_new W o
theorem heap_oldD (W : World) (o : Obj) {g : Nat} {x : Obj} (h : W.heap[g]? = some x) : (W.alloc o).drew.heap[g]? = some x := by
  have hlt : g < W.heap.size := by
    rcases Nat.lt_or_ge g W.heap.size with h' | h'
    · exact h'
    · rw [Array.getElem?_eq_none h'] at h; cases h
  exact (heap_alloc_old W o hlt).trans h
section
variable {w : World} {base size : Nat} {e : TypeId} {N : Obj}
theorem od1 (hb : base ≤ w.heap.size) : (w.alloc (.cells #[] e)).drew.ownsRow base e size (.slice (some ⟨w.heap.size, 0, none⟩) 0 0) 0 [] := own_empty (heap_newD w _ rfl) hb
theorem od2 (hb : base ≤ w.heap.size) : ((w.alloc (.cells #[] e)).alloc N).drew.ownsRow base e size (.slice (some ⟨w.heap.size, 0, none⟩) 0 0) 0 [] := own_empty (heap_oldD _ _ (heap_alloc_new w _)) hb
theorem od3 (hb : base ≤ w.heap.size) : ((w.alloc N).alloc (.cells #[] e)).drew.ownsRow base e size (.slice (some ⟨w.heap.size + 1, 0, none⟩) 0 0) 0 [] := own_empty (heap_newD _ _ (by simp)) (by omega)
theorem ndh2 {E : Obj} : ((w.alloc E).alloc N).drew.heap[w.heap.size + 1]? = some N := heap_newD _ _ (by simp)
theorem nd2 {w1 : World} {E : Obj} {n c : Nat} {R : Nat → Prop} (h : ∀ g, g < ((w.alloc E).alloc N).drew.heap.size → (Value.slice (some ⟨w.heap.size, 0, none⟩) n c).ownBlock ≠ some g → w1.heap[g]? = ((w.alloc E).alloc N).drew.heap[g]? ∧ R g) : w1.heap[w.heap.size + 1]? = some N := by
  refine (h _ ?_ ?_).1.trans ndh2
  · show _ < ((w.alloc E).alloc N).heap.size
    simp
  · simp [Value.ownBlock]
theorem ndh3 {E : Obj} : ((w.alloc N).alloc E).drew.heap[w.heap.size]? = some N := heap_oldD _ _ (heap_alloc_new w _)
theorem nd3 {w1 : World} {E : Obj} {n c : Nat} {R : Nat → Prop} (h : ∀ g, g < ((w.alloc N).alloc E).drew.heap.size → (Value.slice (some ⟨w.heap.size + 1, 0, none⟩) n c).ownBlock ≠ some g → w1.heap[g]? = ((w.alloc N).alloc E).drew.heap[g]? ∧ R g) : w1.heap[w.heap.size]? = some N := by
  refine (h _ ?_ ?_).1.trans ndh3
  · show _ < ((w.alloc N).alloc E).heap.size
    simp; omega
  · simp [Value.ownBlock]
end
theorem goodS_n (k : Kin) (l : List Dam) (n : Nat) (A : Option Addr) (cap : Nat) (w : World) (hn : l.length = n) (hl : n ≤ 1048576) (hst : -1000 ≤ k.st ∧ k.st ≤ 1000) (hr : Rd w w.heap.size 3 Dam.cells A l) :
    Calls Try.prog 27 #[.agg #[.int .i64 k.i, .int .i64 k.st, .int .i64 k.wi, .int .i64 k.we, .int .i64 k.sg], .slice A n cap] w fun e w' => e = .returned (.bool (goodD k l)) ∧ Below w.heap.size w w' := by
  subst hn
  exact l3Good_c k l A cap w hl hst hr
/-- A list of damages of the call's own, in a block even if it is empty, and whether there is one. -/
def ListPostS (p : List Dam × Bool) (w : World) (e : Ending) (w' : World) : Prop := ∃ g cap, e = .returned (.tuple #[.slice (some ⟨g, 0, none⟩) p.1.length cap, .bool p.2]) ∧ w'.ownsRow w.heap.size 28 3 (.slice (some ⟨g, 0, none⟩) p.1.length cap) p.1.length (flat Dam.cells p.1) ∧ Below w.heap.size w w'
theorem listS_none {p : List Dam × Bool} {w wx : World} (h : p = ([], false)) (hb : Below w.heap.size w wx) : ListPostS p w (.returned (.tuple #[.slice (some ⟨wx.heap.size, 0, none⟩) 0 0, .bool false])) (wx.alloc (.cells #[] 28)) := by
  subst h
  exact ⟨wx.heap.size, 0, rfl, Joins.ownsRow_le (ownsRow_empty wx 28 3) hb.size, hb.alloc hb.size _⟩
theorem no_newsD {l : List Dam} {k : Nat} {P : Nat → Value → Prop} (h : l.length ≤ k) : ∀ j u, (flat Dam.cells (l.drop k))[j]? = some u → P j u := fun j u hj => by
  rw [List.drop_eq_nil_of_le h] at hj
  simp [flat] at hj
theorem drop_next {w : World} {B b off k : Nat} {l : List Dam} (h : Rd w B 3 Dam.cells (some ⟨b, off, none⟩) l) : Rd w B 3 Dam.cells (some ⟨b, off + k * 3 + 3, none⟩) (l.drop (k + 1)) := by
  have h1 := h.drop (k + 1)
  rwa [show off + (k + 1) * 3 = off + k * 3 + 3 by omega] at h1
set_option maxHeartbeats 6400000 in
theorem specAddDamage_c (k : Kin) (l : List Dam) (d : Dam) (b off cap : Nat) (w : World) (hl : l.length ≤ 1048576) (hcap : l.length ≤ cap) (hst : -1000 ≤ k.st ∧ k.st ≤ 1000) (hdw : -1000000 ≤ d.w ∧ d.w ≤ 1000000) (hr : Rd w w.heap.size 3 Dam.cells (some ⟨b, off, none⟩) l) :
    Calls Try.prog 7 #[.agg #[.int .i64 k.i, .int .i64 k.st, .int .i64 k.wi, .int .i64 k.we, .int .i64 k.sg], .slice (some ⟨b, off, none⟩) l.length cap, .agg #[.int .i64 d.a, .int .i64 d.s, .int .i64 d.w]] w (ListPostS (addD k l d) w) := by
  have HX := Lib.hid ((Box.new w k.cells 25).alloc (.cells d.cells.toArray 28))
  have hy := Box.new (w.alloc (.cells k.cells.toArray 25)) d.cells 28
  rw [World.size_alloc] at hy
  have HY := Lib.hid hy
  have HR := Lib.hid hr
  have HB0 := Lib.hid (show Below w.heap.size w ((w.alloc (.cells k.cells.toArray 25)).alloc (.cells d.cells.toArray 28)) from ((Below.refl _ _).alloc (Nat.le_refl _) _).alloc (by simp) _)
  have HST := Lib.hid hst
  clear hr hy hst
  go_enter Try.func7, Try.ntmps7
  go_wp2_with fail
  refine (l3Good_c k l _ _ _ hl HST.out ((HR.out.alloc _).alloc _)).mono ?_
  rintro e w1 ⟨rfl, hb1⟩
  have HB1 := Lib.hid (HB0.out.trans (hb1.mono HB0.out.size))
  have HX1 := Lib.hid (HX.out.carry hb1)
  have HY1 := Lib.hid (HY.out.carry hb1)
  have y2 := HY1.out.cell (j := 2) rfl
  have ly := HY1.out.lt
  clear hb1
  rcases hg : goodD k l with _ | _
  · have H := Lib.hid (addD_false (d := d) (.inl hg))
    go_wp2_with fail
    go_ret2
    exact listS_none H.out HB1.out
  have HG := Lib.hid hg
  have hl8 := (goodD_true hg).2.1
  by_cases hd1 : d.w < 1
  · have H := Lib.hid (show addD k l d = ([], false) by simp [addD]; intros; omega)
    clear hg
    go_wp2_with fail
    go_ret2
    exact listS_none H.out HB1.out
  have HDW := Lib.hid (show 1 ≤ d.w by omega)
  have HWB := Lib.hid (show ∀ i, i < l.length → 0 ≤ (nth l i).w ∧ (nth l i).w ≤ 40 from (good_few hg).2)
  clear hg
  go_wp2_with fail
  go_loopw [8] (fun i wr => ∃ k' : Nat, k' ≤ l.length ∧ i = .int .i64 k' ∧ (∀ j, j < k' → ltD (nth l j) d = true) ∧ Below w.heap.size w wr ∧ Box wr (w.heap.size + 1) 28 3 d.cells ∧ Box wr w.heap.size 25 5 k.cells) (fun i _ => l.length - (intOf i).toNat)
  case atStart => exact ⟨0, Nat.zero_le _, rfl, fun j hj => absurd hj (by omega), HB1.out, HY1.out, HX1.out⟩
  case round =>
    obtain ⟨k', hk, rfl, hall, hbel, hbx, hbk⟩ := hrel
    have HB := Lib.hid hbel
    have HA := Lib.hid hall
    have HBd := Lib.hid hbx
    have HBk := Lib.hid hbk
    have z1 := hbel.size
    have hxl := hbx.lt
    have y0 := hbx.cell (j := 0) rfl
    have y1 := hbx.cell (j := 1) rfl
    have y2 := hbx.cell (j := 2) rfl
    clear hall hbel hbx hbk
    by_cases hlt : k' < l.length
    · obtain ⟨b', off', he, hb, c0, c1, c2⟩ := Dam.rd (HR.out.below HB.out (Nat.le_refl _)) hlt
      simp only [Option.some.injEq, Addr.mk.injEq, and_true] at he
      obtain ⟨rfl, rfl⟩ := he
      have l1 : b < wr.heap.size := by omega
      have i1 : (0 : Int) ≤ (k' : Int) := by omega
      have i2 : (k' : Int) < l.length := by omega
      rcases Int.lt_trichotomy (nth l k').a d.a with h | h | h
      · have H1 := Lib.hid (below_add (p := fun j => ltD (nth l j) d = true) HA.out (ltD_true.2 (.inl h)))
        have q1 : decide ((nth l k').a < d.a) = true := decide_eq_true h
        clear h
        go_wp2_with fail
        refine wp_region_mem (by kernel_rfl) (by kernel_rfl) ?_
        repeat (go_big_quiet_step (fail))
        refine wpQuiet_nil ?_
        intro _ hw'
        obtain ⟨⟨wq, hbq⟩, hw''⟩ := hw'
        obtain rfl := hw''.symm
        obtain ⟨hcq, hfq, hzq⟩ := bcell hbq
        try simp [Nat.add_one_le_iff] at hzq
        go_wp2_with fail
        go_roundw
        case rel => exact ⟨k' + 1, by omega, by go_num, H1.out, HB.out.trans (hbq.mono z1), HBd.out.carry hbq, HBk.out.carry hbq⟩
        case measure => simp [intOf]; omega
      · have q1 : decide ((nth l k').a < d.a) = false := decide_eq_false (by omega)
        have q2 : ((nth l k').a == d.a) = true := by simpa using h
        by_cases h3 : (nth l k').s < d.s
        · have H1 := Lib.hid (below_add (p := fun j => ltD (nth l j) d = true) HA.out (ltD_true.2 (.inr ⟨h, h3⟩)))
          have q3 : decide ((nth l k').s < d.s) = true := decide_eq_true h3
          clear h h3
          go_wp2_with fail
          refine wp_region_mem (by kernel_rfl) (by kernel_rfl) ?_
          repeat (go_big_quiet_step (fail))
          refine wpQuiet_nil ?_
          intro _ hw'
          obtain ⟨⟨wq, hbq⟩, hw''⟩ := hw'
          obtain rfl := hw''.symm
          obtain ⟨hcq, hfq, hzq⟩ := bcell hbq
          try simp [Nat.add_one_le_iff] at hzq
          go_wp2_with fail
          go_roundw
          case rel => exact ⟨k' + 1, by omega, by go_num, H1.out, HB.out.trans (hbq.mono z1), HBd.out.carry hbq, HBk.out.carry hbq⟩
          case measure => simp [intOf]; omega
        · have q3 : decide ((nth l k').s < d.s) = false := decide_eq_false h3
          have hsc := scanD_eq (l := l) (x := d) (k := k') hk HA.out fun _ => ltD_false.2 (.inr ⟨h, by omega⟩)
          have hcj : ¬ cap = k' := by omega
          by_cases h4 : (nth l k').s = d.s
          · have hkn : knownD l d = true := by unfold knownD sameD; rw [hsc]; simp [hlt, h, h4]
            have q4 : ((nth l k').s == d.s) = true := by simpa using h4
            have HP := Lib.hid (show putD l d = l.take k' ++ ⟨d.a, d.s, d.w + (nth l k').w⟩ :: l.drop (k' + 1) by unfold putD; rw [if_pos hkn, hsc, Int.add_comm])
            obtain ⟨n4, hn4⟩ : ∃ n4, l.length = n4 := ⟨_, rfl⟩
            have HN := Lib.hid (show (putD l d).length = n4 by rw [putD_len, hkn, if_pos rfl, hn4])
            have HN4 := Lib.hid hn4
            have hn1 : 1 ≤ n4 := by omega
            have hn2 : n4 ≤ 16 := by omega
            clear hn4
            clear h h3 h4 hsc hkn
            go_wp2_with fail
            refine wp_region_mem (by kernel_rfl) (by kernel_rfl) ?_
            repeat (go_big_quiet_step (fail))
            refine wpQuiet_nil ?_
            intro _ hw'
            obtain ⟨⟨wq, hbq⟩, hw''⟩ := hw'
            obtain rfl := hw''.symm
            obtain ⟨hcq, hfq, hzq⟩ := bcell hbq
            try simp [Nat.add_one_le_iff] at hzq
            have HBq := Lib.hid (HB.out.trans (hbq.mono z1))
            have HDq := Lib.hid (HBd.out.carry hbq)
            have HKq := Lib.hid (HBk.out.carry hbq)
            have zq := HBq.out.size
            have hdq := HDq.out
            have y0 := hdq.cell (j := 0) rfl
            have y1 := hdq.cell (j := 1) rfl
            have y2 := hdq.cell (j := 2) rfl
            have hxl := hdq.lt
            clear hdq
            go_wp2_with fail
            clear hcq hfq hw'' hbq
            have s3 : (k' : Int) ≤ l.length := by omega
            have s4 : (k' : Int) ≤ cap := by omega
            have s5 : (k' : Int) ≤ (k' : Int) := by omega
            try clear c0 c1 c2
            obtain ⟨b', off', he, hb', c0, c1, c2⟩ := Dam.rd (HR.out.below HBq.out (Nat.le_refl _)) hlt
            simp only [Option.some.injEq, Addr.mk.injEq, and_true] at he
            obtain ⟨rfl, rfl⟩ := he
            have l2 : b < wq.heap.size := by omega
            have i3 : 0 < l.length - k' := by omega
            have i4 : (0 : Int) < ((l.length - k' : Nat) : Int) := by omega
            go_wp2_with fail
            refine wp_region_mem (by kernel_rfl) (by kernel_rfl) ?_
            repeat (go_big_quiet_step (fail))
            refine wpQuiet_nil ?_
            intro _ hw'
            obtain ⟨⟨wv, hbv⟩, hw''⟩ := hw'
            obtain rfl := hw''.symm
            obtain ⟨hcv, hfv, hzv⟩ := bcell hbv
            try simp [Nat.add_one_le_iff] at hzv
            have HBv := Lib.hid (HBq.out.trans (hbv.mono HBq.out.size))
            have HDv := Lib.hid (HDq.out.carry hbv)
            have HKv := Lib.hid (HKq.out.carry hbv)
            have y0 := HDv.out.cell (j := 0) rfl
            have y1 := HDv.out.cell (j := 1) rfl
            have y2 := HDv.out.cell (j := 2) rfl
            have yz := HDv.out.frozen 2
            have ly := HDv.out.lt
            have zv := HBv.out.size
            go_wp2_with fail
            clear hcv hfv hw'' hbv
            try clear c0 c1 c2
            obtain ⟨b', off', he, hb', c0, c1, c2⟩ := Dam.rd (HR.out.below HBv.out (Nat.le_refl _)) hlt
            simp only [Option.some.injEq, Addr.mk.injEq, and_true] at he
            obtain ⟨rfl, rfl⟩ := he
            have l2 : b < wv.heap.size := by omega
            obtain ⟨q1, q2⟩ := HWB.out k' hlt
            have e1 : IntKind.i64.wrap (d.w + (nth l k').w) = d.w + (nth l k').w := IntWalk.i64_in _ (by omega)
            go_region
            obtain ⟨wz, hwz⟩ : ∃ wz, (wv.setCell ⟨w.heap.size + 1, 2, none⟩ (.int .i64 (d.w + (nth l k').w))).drew = wz := ⟨_, rfl⟩
            have HBz := Lib.hid (show Below w.heap.size w wz from hwz ▸ (HBv.out.setCell (p := ⟨w.heap.size + 1, 2, none⟩) (by simp) _).drew)
            have HDz := Lib.hid (show Box wz (w.heap.size + 1) 28 3 (⟨d.a, d.s, d.w + (nth l k').w⟩ : Dam).cells from hwz ▸ (HDv.out.set 2 (.int .i64 (d.w + (nth l k').w))).drew)
            have HKz := Lib.hid (show Box wz w.heap.size 25 5 k.cells from hwz ▸ (HKv.out.far (p := ⟨w.heap.size + 1, 2, none⟩) (by simp) (.int .i64 (d.w + (nth l k').w))).drew)
            have HRz := Lib.hid ((HR.out.below HBz.out (Nat.le_refl _)).mono HBz.out.size)
            have hdz := HDz.out.lt
            rw [hwz]
            clear hwz c0 c1 c2 y0 y1 y2 yz ly q1 q2 e1
            have y0 := HDz.out.cell (j := 0) rfl
            have y1 := HDz.out.cell (j := 1) rfl
            have y2 := HDz.out.cell (j := 2) rfl
            have i5 : (1 : Int) ≤ ((l.length - k' : Nat) : Int) := by omega
            have i6 : (1 : Int) ≤ ((cap - k' : Nat) : Int) := by omega
            have i7 : 1 ≤ l.length - k' := by omega
            have i8 : 1 ≤ cap - k' := by omega
            by_cases hc1 : cap - k' = 1
            case pos =>
              go_wp2_with fail
              go_region_law (first
                | (refine step_extend rfl (.tmp 91) (.tmp 94) 26 rfl wz.heap.size 28 _ 3 24 Try.underlying26 info_Damage rfl (by decide) (by decide) _ 0 [] rfl ?_ b off k' _ (flat Dam.cells (l.take k')) rfl ?_ ((HRz.out.take k').news (by repeat (first | (with_reducible exact Below.refl _ _) | ((with_reducible refine alloc_ ?_ ?_); (focus (first | exact Nat.le_refl _ | (simp; done) | (simp; omega) | omega))) | ((with_reducible refine set_ ?_ ?_); (focus (first | exact Nat.le_refl _ | (simp; done) | (simp; omega) | omega))) | (with_reducible refine Below.drew ?_) | ((with_reducible refine after_ ?_ (by assumption) ?_); (rotate_left; (focus (first | exact Nat.le_refl _ | (simp; done) | (simp; omega) | omega)))))) Dam.three (by decide)) (flat_cells Dam.ones _) ?_ ?_ ?_; (focus (first | exact od1 (Nat.le_refl _) | exact od2 (Nat.le_refl _) | exact od3 (Nat.le_refl _))); (focus (rw [flat_len Dam.three, List.length_take]; omega)); (focus omega); (focus (first | omega | (simp; done) | (simp; omega))); intro v1 w1 hown1 hb1 hk1; have hz1 := hb1.size; (try simp at hz1); have HW1 := Lib.hid (show Below wz.heap.size wz w1 from (by repeat (first | (with_reducible exact Below.refl _ _) | ((with_reducible refine alloc_ ?_ ?_); (focus (first | exact Nat.le_refl _ | (simp; done) | (simp; omega) | omega))) | ((with_reducible refine set_ ?_ ?_); (focus (first | exact Nat.le_refl _ | (simp; done) | (simp; omega) | omega))) | (with_reducible refine Below.drew ?_) | ((with_reducible refine after_ ?_ (by assumption) ?_); (rotate_left; (focus (first | exact Nat.le_refl _ | (simp; done) | (simp; omega) | omega))))))); have e0 := (HDz.out.below HW1.out hdz).cell (j := 0) rfl; have e1 := (HDz.out.below HW1.out hdz).cell (j := 1) rfl; have e2 := (HDz.out.below HW1.out hdz).cell (j := 2) rfl)
                | (refine step_extend rfl (.tmp 95) (.tmp 97) 26 rfl wz.heap.size 28 _ 3 24 Try.underlying26 info_Damage rfl (by decide) (by decide) _ ?_ ?_ rfl ?_ _ _ _ _ (flat Dam.cells [(⟨d.a, d.s, d.w + (nth l k').w⟩ : Dam)]) rfl rfl ?_ ?_ ?_ ?_ ?_; rotate_left 2; (focus (first | exact hown1 | exact hown1.alloc _)); (focus (first | exact news_one (cs := ((⟨d.a, d.s, d.w + (nth l k').w⟩ : Dam)).cells.toArray) (heap_alloc_new _ _) | exact news_one (cs := ((⟨d.a, d.s, d.w + (nth l k').w⟩ : Dam)).cells.toArray) (nd2 hk1) | exact news_one (cs := ((⟨d.a, d.s, d.w + (nth l k').w⟩ : Dam)).cells.toArray) (nd3 hk1))); (focus exact flat_cells Dam.ones [(⟨d.a, d.s, d.w + (nth l k').w⟩ : Dam)]); (focus omega); (focus (first | omega | (simp; omega))); intro v2 w2 hown2 hb2 hk2; have hz2 := hb2.size; (try simp at hz2))
                | (refine step_extend rfl (.tmp 98) (.tmp 99) 26 rfl wz.heap.size 28 _ 3 24 Try.underlying26 info_Damage rfl (by decide) (by decide) _ _ _ rfl hown2 b (off + k' * 3) (l.length - k' - 1) _ (flat Dam.cells (l.drop (k' + 1))) rfl ?_ (no_newsD (by omega)) (flat_cells Dam.ones _) ?_ ?_ ?_; (focus (rw [flat_len Dam.three, List.length_drop] <;> omega)); (focus omega); (focus (first | omega | (simp; omega))); intro v3 w3 hown3 hb3 hk3; have hz3 := hb3.size))
              all_goals
                rw [show 0 + k' + 1 + (l.length - k' - 1) = n4 by have := HN4.out; omega, show ([] ++ flat Dam.cells (l.take k')) ++ flat Dam.cells [(⟨d.a, d.s, d.w + (nth l k').w⟩ : Dam)] ++ flat Dam.cells (l.drop (k' + 1)) = flat Dam.cells (putD l d) by rw [HP.out]; simp [flat]] at hown3
                obtain ⟨g3, cap3, rfl⟩ := Joins.ownsRow_form hown3 (by omega)
                have HO3 := Lib.hid hown3
                have HW3 := Lib.hid (show Below wz.heap.size wz w3 from (by repeat (first | (with_reducible exact Below.refl _ _) | ((with_reducible refine alloc_ ?_ ?_); (focus (first | exact Nat.le_refl _ | (simp; done) | (simp; omega) | omega))) | ((with_reducible refine set_ ?_ ?_); (focus (first | exact Nat.le_refl _ | (simp; done) | (simp; omega) | omega))) | (with_reducible refine Below.drew ?_) | ((with_reducible refine after_ ?_ (by assumption) ?_); (rotate_left; (focus (first | exact Nat.le_refl _ | (simp; done) | (simp; omega) | omega)))))))
                have HB3 := Lib.hid (HBz.out.trans (HW3.out.mono HBz.out.size))
                have hkx := HKz.out.carry HW3.out
                have x0 := hkx.cell (j := 0) rfl
                have x1 := hkx.cell (j := 1) rfl
                have x2 := hkx.cell (j := 2) rfl
                have x3 := hkx.cell (j := 3) rfl
                have x4 := hkx.cell (j := 4) rfl
                have lx := hkx.lt
                clear hown3 hown2 hown1 hb1 hb2 hb3 hk1 hk2 hk3 e0 e1 e2 y0 y1 y2 hz1 hz2 hz3 HW1 hkx
                go_wp2_with fail
                refine (goodS_n k (putD l d) n4 _ cap3 w3 HN.out (by omega) HST.out ((own_flat HO3.out HN.out.symm rfl Dam.three : Own _ _ _ _ _ _ (putD l d)).rd Dam.three)).mono ?_
                rintro e w5 ⟨rfl, hb5⟩
                have HO5 := Lib.hid (ownsRow_below HO3.out hb5)
                have HB5 := Lib.hid (HB3.out.trans (hb5.mono HB3.out.size))
                clear hb5
                rcases hg2 : goodD k (putD l d) with _ | _
                · have H := Lib.hid (addD_false (d := d) (.inr (.inr hg2)))
                  go_wp2_with fail
                  go_ret2
                  exact listS_none H.out HB5.out
                · have H := Lib.hid (show addD k l d = (putD l d, true) by simp [addD, HG.out, hg2, HDW.out])
                  go_wp2_with fail
                  go_ret2
                  exact ⟨g3, cap3, by rw [H.out]; simp only [HN.out]; rfl, by rw [H.out]; simp only [HN.out]; exact Joins.ownsRow_le HO5.out HBz.out.size, HB5.out⟩
            case neg =>
              go_wp2_with fail
              go_region_law (first
                | (refine step_extend rfl (.tmp 91) (.tmp 94) 26 rfl wz.heap.size 28 _ 3 24 Try.underlying26 info_Damage rfl (by decide) (by decide) _ 0 [] rfl ?_ b off k' _ (flat Dam.cells (l.take k')) rfl ?_ ((HRz.out.take k').news (by repeat (first | (with_reducible exact Below.refl _ _) | ((with_reducible refine alloc_ ?_ ?_); (focus (first | exact Nat.le_refl _ | (simp; done) | (simp; omega) | omega))) | ((with_reducible refine set_ ?_ ?_); (focus (first | exact Nat.le_refl _ | (simp; done) | (simp; omega) | omega))) | (with_reducible refine Below.drew ?_) | ((with_reducible refine after_ ?_ (by assumption) ?_); (rotate_left; (focus (first | exact Nat.le_refl _ | (simp; done) | (simp; omega) | omega)))))) Dam.three (by decide)) (flat_cells Dam.ones _) ?_ ?_ ?_; (focus (first | exact od1 (Nat.le_refl _) | exact od2 (Nat.le_refl _) | exact od3 (Nat.le_refl _))); (focus (rw [flat_len Dam.three, List.length_take]; omega)); (focus omega); (focus (first | omega | (simp; done) | (simp; omega))); intro v1 w1 hown1 hb1 hk1; have hz1 := hb1.size; (try simp at hz1); have HW1 := Lib.hid (show Below wz.heap.size wz w1 from (by repeat (first | (with_reducible exact Below.refl _ _) | ((with_reducible refine alloc_ ?_ ?_); (focus (first | exact Nat.le_refl _ | (simp; done) | (simp; omega) | omega))) | ((with_reducible refine set_ ?_ ?_); (focus (first | exact Nat.le_refl _ | (simp; done) | (simp; omega) | omega))) | (with_reducible refine Below.drew ?_) | ((with_reducible refine after_ ?_ (by assumption) ?_); (rotate_left; (focus (first | exact Nat.le_refl _ | (simp; done) | (simp; omega) | omega))))))); have e0 := (HDz.out.below HW1.out hdz).cell (j := 0) rfl; have e1 := (HDz.out.below HW1.out hdz).cell (j := 1) rfl; have e2 := (HDz.out.below HW1.out hdz).cell (j := 2) rfl)
                | (refine step_extend rfl (.tmp 95) (.tmp 97) 26 rfl wz.heap.size 28 _ 3 24 Try.underlying26 info_Damage rfl (by decide) (by decide) _ ?_ ?_ rfl ?_ _ _ _ _ (flat Dam.cells [(⟨d.a, d.s, d.w + (nth l k').w⟩ : Dam)]) rfl rfl ?_ ?_ ?_ ?_ ?_; rotate_left 2; (focus (first | exact hown1 | exact hown1.alloc _)); (focus (first | exact news_one (cs := ((⟨d.a, d.s, d.w + (nth l k').w⟩ : Dam)).cells.toArray) (heap_alloc_new _ _) | exact news_one (cs := ((⟨d.a, d.s, d.w + (nth l k').w⟩ : Dam)).cells.toArray) (nd2 hk1) | exact news_one (cs := ((⟨d.a, d.s, d.w + (nth l k').w⟩ : Dam)).cells.toArray) (nd3 hk1))); (focus exact flat_cells Dam.ones [(⟨d.a, d.s, d.w + (nth l k').w⟩ : Dam)]); (focus omega); (focus (first | omega | (simp; omega))); intro v2 w2 hown2 hb2 hk2; have hz2 := hb2.size; (try simp at hz2))
                | (refine step_extend rfl (.tmp 98) (.tmp 99) 26 rfl wz.heap.size 28 _ 3 24 Try.underlying26 info_Damage rfl (by decide) (by decide) _ _ _ rfl hown2 b (off + k' * 3 + 3) (l.length - k' - 1) _ (flat Dam.cells (l.drop (k' + 1))) rfl ?_ ((drop_next HRz.out).news (by repeat (first | (with_reducible exact Below.refl _ _) | ((with_reducible refine alloc_ ?_ ?_); (focus (first | exact Nat.le_refl _ | (simp; done) | (simp; omega) | omega))) | ((with_reducible refine set_ ?_ ?_); (focus (first | exact Nat.le_refl _ | (simp; done) | (simp; omega) | omega))) | (with_reducible refine Below.drew ?_) | ((with_reducible refine after_ ?_ (by assumption) ?_); (rotate_left; (focus (first | exact Nat.le_refl _ | (simp; done) | (simp; omega) | omega)))))) Dam.three (by decide)) (flat_cells Dam.ones _) ?_ ?_ ?_; (focus (rw [flat_len Dam.three, List.length_drop] <;> omega)); (focus omega); (focus (first | omega | (simp; omega))); intro v3 w3 hown3 hb3 hk3; have hz3 := hb3.size))
              all_goals
                rw [show 0 + k' + 1 + (l.length - k' - 1) = n4 by have := HN4.out; omega, show ([] ++ flat Dam.cells (l.take k')) ++ flat Dam.cells [(⟨d.a, d.s, d.w + (nth l k').w⟩ : Dam)] ++ flat Dam.cells (l.drop (k' + 1)) = flat Dam.cells (putD l d) by rw [HP.out]; simp [flat]] at hown3
                obtain ⟨g3, cap3, rfl⟩ := Joins.ownsRow_form hown3 (by omega)
                have HO3 := Lib.hid hown3
                have HW3 := Lib.hid (show Below wz.heap.size wz w3 from (by repeat (first | (with_reducible exact Below.refl _ _) | ((with_reducible refine alloc_ ?_ ?_); (focus (first | exact Nat.le_refl _ | (simp; done) | (simp; omega) | omega))) | ((with_reducible refine set_ ?_ ?_); (focus (first | exact Nat.le_refl _ | (simp; done) | (simp; omega) | omega))) | (with_reducible refine Below.drew ?_) | ((with_reducible refine after_ ?_ (by assumption) ?_); (rotate_left; (focus (first | exact Nat.le_refl _ | (simp; done) | (simp; omega) | omega)))))))
                have HB3 := Lib.hid (HBz.out.trans (HW3.out.mono HBz.out.size))
                have hkx := HKz.out.carry HW3.out
                have x0 := hkx.cell (j := 0) rfl
                have x1 := hkx.cell (j := 1) rfl
                have x2 := hkx.cell (j := 2) rfl
                have x3 := hkx.cell (j := 3) rfl
                have x4 := hkx.cell (j := 4) rfl
                have lx := hkx.lt
                clear hown3 hown2 hown1 hb1 hb2 hb3 hk1 hk2 hk3 e0 e1 e2 y0 y1 y2 hz1 hz2 hz3 HW1 hkx
                go_wp2_with fail
                refine (goodS_n k (putD l d) n4 _ cap3 w3 HN.out (by omega) HST.out ((own_flat HO3.out HN.out.symm rfl Dam.three : Own _ _ _ _ _ _ (putD l d)).rd Dam.three)).mono ?_
                rintro e w5 ⟨rfl, hb5⟩
                have HO5 := Lib.hid (ownsRow_below HO3.out hb5)
                have HB5 := Lib.hid (HB3.out.trans (hb5.mono HB3.out.size))
                clear hb5
                rcases hg2 : goodD k (putD l d) with _ | _
                · have H := Lib.hid (addD_false (d := d) (.inr (.inr hg2)))
                  go_wp2_with fail
                  go_ret2
                  exact listS_none H.out HB5.out
                · have H := Lib.hid (show addD k l d = (putD l d, true) by simp [addD, HG.out, hg2, HDW.out])
                  go_wp2_with fail
                  go_ret2
                  exact ⟨g3, cap3, by rw [H.out]; simp only [HN.out]; rfl, by rw [H.out]; simp only [HN.out]; exact Joins.ownsRow_le HO5.out HBz.out.size, HB5.out⟩
          · have hkn : knownD l d = false := by unfold knownD sameD; rw [hsc]; simp [hlt, h, h4]
            have q4 : ((nth l k').s == d.s) = false := by simpa using h4
            have HP := Lib.hid (show putD l d = l.take k' ++ d :: l.drop k' by rw [putD_ins hkn, hsc])
            obtain ⟨n4, hn4⟩ : ∃ n4, l.length + 1 = n4 := ⟨_, rfl⟩
            have HN := Lib.hid (show (putD l d).length = n4 by rw [putD_len, hkn, if_neg (by simp), hn4])
            have HN4 := Lib.hid hn4
            have hn1 : 1 ≤ n4 := by omega
            have hn2 : n4 ≤ 16 := by omega
            clear hn4
            clear h h3 h4 hsc hkn
            go_wp2_with fail
            refine wp_region_mem (by kernel_rfl) (by kernel_rfl) ?_
            repeat (go_big_quiet_step (fail))
            refine wpQuiet_nil ?_
            intro _ hw'
            obtain ⟨⟨wq, hbq⟩, hw''⟩ := hw'
            obtain rfl := hw''.symm
            obtain ⟨hcq, hfq, hzq⟩ := bcell hbq
            try simp [Nat.add_one_le_iff] at hzq
            have HBq := Lib.hid (HB.out.trans (hbq.mono z1))
            have HDq := Lib.hid (HBd.out.carry hbq)
            have HKq := Lib.hid (HBk.out.carry hbq)
            have zq := HBq.out.size
            have hdq := HDq.out
            have y0 := hdq.cell (j := 0) rfl
            have y1 := hdq.cell (j := 1) rfl
            have y2 := hdq.cell (j := 2) rfl
            have hxl := hdq.lt
            clear hdq
            go_wp2_with fail
            clear hcq hfq hw'' hbq
            have s3 : (k' : Int) ≤ l.length := by omega
            have s4 : (k' : Int) ≤ cap := by omega
            have s5 : (k' : Int) ≤ (k' : Int) := by omega
            try clear c0 c1 c2
            obtain ⟨b', off', he, hb', c0, c1, c2⟩ := Dam.rd (HR.out.below HBq.out (Nat.le_refl _)) hlt
            simp only [Option.some.injEq, Addr.mk.injEq, and_true] at he
            obtain ⟨rfl, rfl⟩ := he
            have l2 : b < wq.heap.size := by omega
            have i3 : 0 < l.length - k' := by omega
            have i4 : (0 : Int) < ((l.length - k' : Nat) : Int) := by omega
            go_wp2_with fail
            refine wp_region_mem (by kernel_rfl) (by kernel_rfl) ?_
            repeat (go_big_quiet_step (fail))
            refine wpQuiet_nil ?_
            intro _ hw'
            obtain ⟨⟨wv, hbv⟩, hw''⟩ := hw'
            obtain rfl := hw''.symm
            obtain ⟨hcv, hfv, hzv⟩ := bcell hbv
            try simp [Nat.add_one_le_iff] at hzv
            have HBz := Lib.hid (HBq.out.trans (hbv.mono HBq.out.size))
            have HDz := Lib.hid (HDq.out.carry hbv)
            have HKz := Lib.hid (HKq.out.carry hbv)
            have HRz := Lib.hid ((HR.out.below HBz.out (Nat.le_refl _)).mono HBz.out.size)
            have hdz := HDz.out.lt
            have y0 := HDz.out.cell (j := 0) rfl
            have y1 := HDz.out.cell (j := 1) rfl
            have y2 := HDz.out.cell (j := 2) rfl
            go_wp2_with fail
            clear hcv hfv hw'' hbv
            obtain ⟨wz, hwz⟩ : ∃ wz, wz = wv := ⟨_, rfl⟩
            subst hwz
            go_region_law (first
              | (refine step_extend rfl (.tmp 91) (.tmp 94) 26 rfl wz.heap.size 28 _ 3 24 Try.underlying26 info_Damage rfl (by decide) (by decide) _ 0 [] rfl ?_ b off k' _ (flat Dam.cells (l.take k')) rfl ?_ ((HRz.out.take k').news (by repeat (first | (with_reducible exact Below.refl _ _) | ((with_reducible refine alloc_ ?_ ?_); (focus (first | exact Nat.le_refl _ | (simp; done) | (simp; omega) | omega))) | ((with_reducible refine set_ ?_ ?_); (focus (first | exact Nat.le_refl _ | (simp; done) | (simp; omega) | omega))) | (with_reducible refine Below.drew ?_) | ((with_reducible refine after_ ?_ (by assumption) ?_); (rotate_left; (focus (first | exact Nat.le_refl _ | (simp; done) | (simp; omega) | omega)))))) Dam.three (by decide)) (flat_cells Dam.ones _) ?_ ?_ ?_; (focus (first | exact od1 (Nat.le_refl _) | exact od2 (Nat.le_refl _) | exact od3 (Nat.le_refl _))); (focus (rw [flat_len Dam.three, List.length_take]; omega)); (focus omega); (focus (first | omega | (simp; done) | (simp; omega))); intro v1 w1 hown1 hb1 hk1; have hz1 := hb1.size; (try simp at hz1); have HW1 := Lib.hid (show Below wz.heap.size wz w1 from (by repeat (first | (with_reducible exact Below.refl _ _) | ((with_reducible refine alloc_ ?_ ?_); (focus (first | exact Nat.le_refl _ | (simp; done) | (simp; omega) | omega))) | ((with_reducible refine set_ ?_ ?_); (focus (first | exact Nat.le_refl _ | (simp; done) | (simp; omega) | omega))) | (with_reducible refine Below.drew ?_) | ((with_reducible refine after_ ?_ (by assumption) ?_); (rotate_left; (focus (first | exact Nat.le_refl _ | (simp; done) | (simp; omega) | omega))))))); have e0 := (HDz.out.below HW1.out hdz).cell (j := 0) rfl; have e1 := (HDz.out.below HW1.out hdz).cell (j := 1) rfl; have e2 := (HDz.out.below HW1.out hdz).cell (j := 2) rfl)
              | (refine step_extend rfl (.tmp 95) (.tmp 97) 26 rfl wz.heap.size 28 _ 3 24 Try.underlying26 info_Damage rfl (by decide) (by decide) _ ?_ ?_ rfl ?_ _ _ _ _ (flat Dam.cells [d]) rfl rfl ?_ ?_ ?_ ?_ ?_; rotate_left 2; (focus (first | exact hown1 | exact hown1.alloc _)); (focus (first | exact news_one (cs := (d).cells.toArray) (heap_alloc_new _ _) | exact news_one (cs := (d).cells.toArray) (nd2 hk1) | exact news_one (cs := (d).cells.toArray) (nd3 hk1))); (focus exact flat_cells Dam.ones [d]); (focus omega); (focus (first | omega | (simp; omega))); intro v2 w2 hown2 hb2 hk2; have hz2 := hb2.size; (try simp at hz2))
              | (refine step_extend rfl (.tmp 98) (.tmp 99) 26 rfl wz.heap.size 28 _ 3 24 Try.underlying26 info_Damage rfl (by decide) (by decide) _ _ _ rfl hown2 b (off + k' * 3) (l.length - k') _ (flat Dam.cells (l.drop (k'))) rfl ?_ ((HRz.out.drop k').news (by repeat (first | (with_reducible exact Below.refl _ _) | ((with_reducible refine alloc_ ?_ ?_); (focus (first | exact Nat.le_refl _ | (simp; done) | (simp; omega) | omega))) | ((with_reducible refine set_ ?_ ?_); (focus (first | exact Nat.le_refl _ | (simp; done) | (simp; omega) | omega))) | (with_reducible refine Below.drew ?_) | ((with_reducible refine after_ ?_ (by assumption) ?_); (rotate_left; (focus (first | exact Nat.le_refl _ | (simp; done) | (simp; omega) | omega)))))) Dam.three (by decide)) (flat_cells Dam.ones _) ?_ ?_ ?_; (focus (rw [flat_len Dam.three, List.length_drop] <;> omega)); (focus omega); (focus (first | omega | (simp; omega))); intro v3 w3 hown3 hb3 hk3; have hz3 := hb3.size))
            all_goals
              rw [show 0 + k' + 1 + (l.length - k') = n4 by have := HN4.out; omega, show ([] ++ flat Dam.cells (l.take k')) ++ flat Dam.cells [d] ++ flat Dam.cells (l.drop (k')) = flat Dam.cells (putD l d) by rw [HP.out]; simp [flat]] at hown3
              obtain ⟨g3, cap3, rfl⟩ := Joins.ownsRow_form hown3 (by omega)
              have HO3 := Lib.hid hown3
              have HW3 := Lib.hid (show Below wz.heap.size wz w3 from (by repeat (first | (with_reducible exact Below.refl _ _) | ((with_reducible refine alloc_ ?_ ?_); (focus (first | exact Nat.le_refl _ | (simp; done) | (simp; omega) | omega))) | ((with_reducible refine set_ ?_ ?_); (focus (first | exact Nat.le_refl _ | (simp; done) | (simp; omega) | omega))) | (with_reducible refine Below.drew ?_) | ((with_reducible refine after_ ?_ (by assumption) ?_); (rotate_left; (focus (first | exact Nat.le_refl _ | (simp; done) | (simp; omega) | omega)))))))
              have HB3 := Lib.hid (HBz.out.trans (HW3.out.mono HBz.out.size))
              have hkx := HKz.out.carry HW3.out
              have x0 := hkx.cell (j := 0) rfl
              have x1 := hkx.cell (j := 1) rfl
              have x2 := hkx.cell (j := 2) rfl
              have x3 := hkx.cell (j := 3) rfl
              have x4 := hkx.cell (j := 4) rfl
              have lx := hkx.lt
              clear hown3 hown2 hown1 hb1 hb2 hb3 hk1 hk2 hk3 e0 e1 e2 y0 y1 y2 hz1 hz2 hz3 HW1 hkx
              go_wp2_with fail
              refine (goodS_n k (putD l d) n4 _ cap3 w3 HN.out (by omega) HST.out ((own_flat HO3.out HN.out.symm rfl Dam.three : Own _ _ _ _ _ _ (putD l d)).rd Dam.three)).mono ?_
              rintro e w5 ⟨rfl, hb5⟩
              have HO5 := Lib.hid (ownsRow_below HO3.out hb5)
              have HB5 := Lib.hid (HB3.out.trans (hb5.mono HB3.out.size))
              clear hb5
              rcases hg2 : goodD k (putD l d) with _ | _
              · have H := Lib.hid (addD_false (d := d) (.inr (.inr hg2)))
                go_wp2_with fail
                go_ret2
                exact listS_none H.out HB5.out
              · have H := Lib.hid (show addD k l d = (putD l d, true) by simp [addD, HG.out, hg2, HDW.out])
                go_wp2_with fail
                go_ret2
                exact ⟨g3, cap3, by rw [H.out]; simp only [HN.out]; rfl, by rw [H.out]; simp only [HN.out]; exact Joins.ownsRow_le HO5.out HBz.out.size, HB5.out⟩
      · have q1 : decide ((nth l k').a < d.a) = false := decide_eq_false (by omega)
        have q2 : ((nth l k').a == d.a) = false := by simp; omega
        have hsc := scanD_eq (l := l) (x := d) (k := k') hk HA.out fun _ => ltD_false.2 (.inl h)
        have hcj : ¬ cap = k' := by omega
        have hkn : knownD l d = false := by unfold knownD sameD; rw [hsc]; simp; omega
        have HP := Lib.hid (show putD l d = l.take k' ++ d :: l.drop k' by rw [putD_ins hkn, hsc])
        obtain ⟨n4, hn4⟩ : ∃ n4, l.length + 1 = n4 := ⟨_, rfl⟩
        have HN := Lib.hid (show (putD l d).length = n4 by rw [putD_len, hkn, if_neg (by simp), hn4])
        have HN4 := Lib.hid hn4
        have hn1 : 1 ≤ n4 := by omega
        have hn2 : n4 ≤ 16 := by omega
        clear hn4
        clear h hsc hkn
        go_wp2_with fail
        refine wp_region_mem (by kernel_rfl) (by kernel_rfl) ?_
        repeat (go_big_quiet_step (fail))
        refine wpQuiet_nil ?_
        intro _ hw'
        obtain ⟨⟨wq, hbq⟩, hw''⟩ := hw'
        obtain rfl := hw''.symm
        obtain ⟨hcq, hfq, hzq⟩ := bcell hbq
        try simp [Nat.add_one_le_iff] at hzq
        have HBq := Lib.hid (HB.out.trans (hbq.mono z1))
        have HDq := Lib.hid (HBd.out.carry hbq)
        have HKq := Lib.hid (HBk.out.carry hbq)
        have zq := HBq.out.size
        have hdq := HDq.out
        have y0 := hdq.cell (j := 0) rfl
        have y1 := hdq.cell (j := 1) rfl
        have y2 := hdq.cell (j := 2) rfl
        have hxl := hdq.lt
        clear hdq
        go_wp2_with fail
        clear hcq hfq hw'' hbq
        have s3 : (k' : Int) ≤ l.length := by omega
        have s4 : (k' : Int) ≤ cap := by omega
        have s5 : (k' : Int) ≤ (k' : Int) := by omega
        try clear c0 c1 c2
        obtain ⟨b', off', he, hb', c0, c1, c2⟩ := Dam.rd (HR.out.below HBq.out (Nat.le_refl _)) hlt
        simp only [Option.some.injEq, Addr.mk.injEq, and_true] at he
        obtain ⟨rfl, rfl⟩ := he
        have l2 : b < wq.heap.size := by omega
        have i3 : 0 < l.length - k' := by omega
        have i4 : (0 : Int) < ((l.length - k' : Nat) : Int) := by omega
        go_wp2_with fail
        refine wp_region_mem (by kernel_rfl) (by kernel_rfl) ?_
        repeat (go_big_quiet_step (fail))
        refine wpQuiet_nil ?_
        intro _ hw'
        obtain ⟨⟨wv, hbv⟩, hw''⟩ := hw'
        obtain rfl := hw''.symm
        obtain ⟨hcv, hfv, hzv⟩ := bcell hbv
        try simp [Nat.add_one_le_iff] at hzv
        have HBz := Lib.hid (HBq.out.trans (hbv.mono HBq.out.size))
        have HDz := Lib.hid (HDq.out.carry hbv)
        have HKz := Lib.hid (HKq.out.carry hbv)
        have HRz := Lib.hid ((HR.out.below HBz.out (Nat.le_refl _)).mono HBz.out.size)
        have hdz := HDz.out.lt
        have y0 := HDz.out.cell (j := 0) rfl
        have y1 := HDz.out.cell (j := 1) rfl
        have y2 := HDz.out.cell (j := 2) rfl
        go_wp2_with fail
        clear hcv hfv hw'' hbv
        obtain ⟨wz, hwz⟩ : ∃ wz, wz = wv := ⟨_, rfl⟩
        subst hwz
        go_region_law (first
          | (refine step_extend rfl (.tmp 91) (.tmp 94) 26 rfl wz.heap.size 28 _ 3 24 Try.underlying26 info_Damage rfl (by decide) (by decide) _ 0 [] rfl ?_ b off k' _ (flat Dam.cells (l.take k')) rfl ?_ ((HRz.out.take k').news (by repeat (first | (with_reducible exact Below.refl _ _) | ((with_reducible refine alloc_ ?_ ?_); (focus (first | exact Nat.le_refl _ | (simp; done) | (simp; omega) | omega))) | ((with_reducible refine set_ ?_ ?_); (focus (first | exact Nat.le_refl _ | (simp; done) | (simp; omega) | omega))) | (with_reducible refine Below.drew ?_) | ((with_reducible refine after_ ?_ (by assumption) ?_); (rotate_left; (focus (first | exact Nat.le_refl _ | (simp; done) | (simp; omega) | omega)))))) Dam.three (by decide)) (flat_cells Dam.ones _) ?_ ?_ ?_; (focus (first | exact od1 (Nat.le_refl _) | exact od2 (Nat.le_refl _) | exact od3 (Nat.le_refl _))); (focus (rw [flat_len Dam.three, List.length_take]; omega)); (focus omega); (focus (first | omega | (simp; done) | (simp; omega))); intro v1 w1 hown1 hb1 hk1; have hz1 := hb1.size; (try simp at hz1); have HW1 := Lib.hid (show Below wz.heap.size wz w1 from (by repeat (first | (with_reducible exact Below.refl _ _) | ((with_reducible refine alloc_ ?_ ?_); (focus (first | exact Nat.le_refl _ | (simp; done) | (simp; omega) | omega))) | ((with_reducible refine set_ ?_ ?_); (focus (first | exact Nat.le_refl _ | (simp; done) | (simp; omega) | omega))) | (with_reducible refine Below.drew ?_) | ((with_reducible refine after_ ?_ (by assumption) ?_); (rotate_left; (focus (first | exact Nat.le_refl _ | (simp; done) | (simp; omega) | omega))))))); have e0 := (HDz.out.below HW1.out hdz).cell (j := 0) rfl; have e1 := (HDz.out.below HW1.out hdz).cell (j := 1) rfl; have e2 := (HDz.out.below HW1.out hdz).cell (j := 2) rfl)
          | (refine step_extend rfl (.tmp 95) (.tmp 97) 26 rfl wz.heap.size 28 _ 3 24 Try.underlying26 info_Damage rfl (by decide) (by decide) _ ?_ ?_ rfl ?_ _ _ _ _ (flat Dam.cells [d]) rfl rfl ?_ ?_ ?_ ?_ ?_; rotate_left 2; (focus (first | exact hown1 | exact hown1.alloc _)); (focus (first | exact news_one (cs := (d).cells.toArray) (heap_alloc_new _ _) | exact news_one (cs := (d).cells.toArray) (nd2 hk1) | exact news_one (cs := (d).cells.toArray) (nd3 hk1))); (focus exact flat_cells Dam.ones [d]); (focus omega); (focus (first | omega | (simp; omega))); intro v2 w2 hown2 hb2 hk2; have hz2 := hb2.size; (try simp at hz2))
          | (refine step_extend rfl (.tmp 98) (.tmp 99) 26 rfl wz.heap.size 28 _ 3 24 Try.underlying26 info_Damage rfl (by decide) (by decide) _ _ _ rfl hown2 b (off + k' * 3) (l.length - k') _ (flat Dam.cells (l.drop (k'))) rfl ?_ ((HRz.out.drop k').news (by repeat (first | (with_reducible exact Below.refl _ _) | ((with_reducible refine alloc_ ?_ ?_); (focus (first | exact Nat.le_refl _ | (simp; done) | (simp; omega) | omega))) | ((with_reducible refine set_ ?_ ?_); (focus (first | exact Nat.le_refl _ | (simp; done) | (simp; omega) | omega))) | (with_reducible refine Below.drew ?_) | ((with_reducible refine after_ ?_ (by assumption) ?_); (rotate_left; (focus (first | exact Nat.le_refl _ | (simp; done) | (simp; omega) | omega)))))) Dam.three (by decide)) (flat_cells Dam.ones _) ?_ ?_ ?_; (focus (rw [flat_len Dam.three, List.length_drop] <;> omega)); (focus omega); (focus (first | omega | (simp; omega))); intro v3 w3 hown3 hb3 hk3; have hz3 := hb3.size))
        all_goals
          rw [show 0 + k' + 1 + (l.length - k') = n4 by have := HN4.out; omega, show ([] ++ flat Dam.cells (l.take k')) ++ flat Dam.cells [d] ++ flat Dam.cells (l.drop (k')) = flat Dam.cells (putD l d) by rw [HP.out]; simp [flat]] at hown3
          obtain ⟨g3, cap3, rfl⟩ := Joins.ownsRow_form hown3 (by omega)
          have HO3 := Lib.hid hown3
          have HW3 := Lib.hid (show Below wz.heap.size wz w3 from (by repeat (first | (with_reducible exact Below.refl _ _) | ((with_reducible refine alloc_ ?_ ?_); (focus (first | exact Nat.le_refl _ | (simp; done) | (simp; omega) | omega))) | ((with_reducible refine set_ ?_ ?_); (focus (first | exact Nat.le_refl _ | (simp; done) | (simp; omega) | omega))) | (with_reducible refine Below.drew ?_) | ((with_reducible refine after_ ?_ (by assumption) ?_); (rotate_left; (focus (first | exact Nat.le_refl _ | (simp; done) | (simp; omega) | omega)))))))
          have HB3 := Lib.hid (HBz.out.trans (HW3.out.mono HBz.out.size))
          have hkx := HKz.out.carry HW3.out
          have x0 := hkx.cell (j := 0) rfl
          have x1 := hkx.cell (j := 1) rfl
          have x2 := hkx.cell (j := 2) rfl
          have x3 := hkx.cell (j := 3) rfl
          have x4 := hkx.cell (j := 4) rfl
          have lx := hkx.lt
          clear hown3 hown2 hown1 hb1 hb2 hb3 hk1 hk2 hk3 e0 e1 e2 y0 y1 y2 hz1 hz2 hz3 HW1 hkx
          go_wp2_with fail
          refine (goodS_n k (putD l d) n4 _ cap3 w3 HN.out (by omega) HST.out ((own_flat HO3.out HN.out.symm rfl Dam.three : Own _ _ _ _ _ _ (putD l d)).rd Dam.three)).mono ?_
          rintro e w5 ⟨rfl, hb5⟩
          have HO5 := Lib.hid (ownsRow_below HO3.out hb5)
          have HB5 := Lib.hid (HB3.out.trans (hb5.mono HB3.out.size))
          clear hb5
          rcases hg2 : goodD k (putD l d) with _ | _
          · have H := Lib.hid (addD_false (d := d) (.inr (.inr hg2)))
            go_wp2_with fail
            go_ret2
            exact listS_none H.out HB5.out
          · have H := Lib.hid (show addD k l d = (putD l d, true) by simp [addD, HG.out, hg2, HDW.out])
            go_wp2_with fail
            go_ret2
            exact ⟨g3, cap3, by rw [H.out]; simp only [HN.out]; rfl, by rw [H.out]; simp only [HN.out]; exact Joins.ownsRow_le HO5.out HBz.out.size, HB5.out⟩
    · have hsc := scanD_eq (l := l) (x := d) (k := k') hk HA.out fun h => absurd h hlt
      have hkn : knownD l d = false := by unfold knownD; rw [hsc]; simp [hlt]
      have HP := Lib.hid (show putD l d = l.take k' ++ d :: l.drop k' by rw [putD_ins hkn, hsc])
      obtain ⟨n4, hn4⟩ : ∃ n4, l.length + 1 = n4 := ⟨_, rfl⟩
      have HN := Lib.hid (show (putD l d).length = n4 by rw [putD_len, hkn, if_neg (by simp), hn4])
      have HN4 := Lib.hid hn4
      have hn1 : 1 ≤ n4 := by omega
      have hn2 : n4 ≤ 16 := by omega
      clear hn4
      clear hsc hkn
      by_cases hcj : cap = k'
      case pos =>
        have hcj2 := hcj.symm
        subst hcj2
        go_wp2_with fail
        refine wp_region_mem (by kernel_rfl) (by kernel_rfl) ?_
        repeat (go_big_quiet_step (fail))
        refine wpQuiet_nil ?_
        intro _ hw'
        obtain ⟨⟨wq, hbq⟩, hw''⟩ := hw'
        obtain rfl := hw''.symm
        obtain ⟨hcq, hfq, hzq⟩ := bcell hbq
        try simp [Nat.add_one_le_iff] at hzq
        have HBq := Lib.hid (HB.out.trans (hbq.mono z1))
        have HDq := Lib.hid (HBd.out.carry hbq)
        have HKq := Lib.hid (HBk.out.carry hbq)
        have zq := HBq.out.size
        have hdq := HDq.out
        have y0 := hdq.cell (j := 0) rfl
        have y1 := hdq.cell (j := 1) rfl
        have y2 := hdq.cell (j := 2) rfl
        have hxl := hdq.lt
        clear hdq
        go_wp2_with fail
        clear hcq hfq hw'' hbq
        have s3 : (k' : Int) ≤ l.length := by omega
        have s4 : (k' : Int) ≤ (k' : Int) := by omega
        have s5 : (k' : Int) ≤ (k' : Int) := by omega
        go_wp2_with fail
        refine wp_region_mem (by kernel_rfl) (by kernel_rfl) ?_
        repeat (go_big_quiet_step (fail))
        refine wpQuiet_nil ?_
        intro _ hw'
        obtain ⟨⟨wv, hbv⟩, hw''⟩ := hw'
        obtain rfl := hw''.symm
        obtain ⟨hcv, hfv, hzv⟩ := bcell hbv
        try simp [Nat.add_one_le_iff] at hzv
        have HBz := Lib.hid (HBq.out.trans (hbv.mono HBq.out.size))
        have HDz := Lib.hid (HDq.out.carry hbv)
        have HKz := Lib.hid (HKq.out.carry hbv)
        have HRz := Lib.hid ((HR.out.below HBz.out (Nat.le_refl _)).mono HBz.out.size)
        have hdz := HDz.out.lt
        have y0 := HDz.out.cell (j := 0) rfl
        have y1 := HDz.out.cell (j := 1) rfl
        have y2 := HDz.out.cell (j := 2) rfl
        go_wp2_with fail
        clear hcv hfv hw'' hbv
        obtain ⟨wz, hwz⟩ : ∃ wz, wz = wv := ⟨_, rfl⟩
        subst hwz
        go_region_law (first
          | (refine step_extend rfl (.tmp 91) (.tmp 94) 26 rfl wz.heap.size 28 _ 3 24 Try.underlying26 info_Damage rfl (by decide) (by decide) _ 0 [] rfl ?_ b off k' _ (flat Dam.cells (l.take k')) rfl ?_ ((HRz.out.take k').news (by repeat (first | (with_reducible exact Below.refl _ _) | ((with_reducible refine alloc_ ?_ ?_); (focus (first | exact Nat.le_refl _ | (simp; done) | (simp; omega) | omega))) | ((with_reducible refine set_ ?_ ?_); (focus (first | exact Nat.le_refl _ | (simp; done) | (simp; omega) | omega))) | (with_reducible refine Below.drew ?_) | ((with_reducible refine after_ ?_ (by assumption) ?_); (rotate_left; (focus (first | exact Nat.le_refl _ | (simp; done) | (simp; omega) | omega)))))) Dam.three (by decide)) (flat_cells Dam.ones _) ?_ ?_ ?_; (focus (first | exact od1 (Nat.le_refl _) | exact od2 (Nat.le_refl _) | exact od3 (Nat.le_refl _))); (focus (rw [flat_len Dam.three, List.length_take]; omega)); (focus omega); (focus (first | omega | (simp; done) | (simp; omega))); intro v1 w1 hown1 hb1 hk1; have hz1 := hb1.size; (try simp at hz1); have HW1 := Lib.hid (show Below wz.heap.size wz w1 from (by repeat (first | (with_reducible exact Below.refl _ _) | ((with_reducible refine alloc_ ?_ ?_); (focus (first | exact Nat.le_refl _ | (simp; done) | (simp; omega) | omega))) | ((with_reducible refine set_ ?_ ?_); (focus (first | exact Nat.le_refl _ | (simp; done) | (simp; omega) | omega))) | (with_reducible refine Below.drew ?_) | ((with_reducible refine after_ ?_ (by assumption) ?_); (rotate_left; (focus (first | exact Nat.le_refl _ | (simp; done) | (simp; omega) | omega))))))); have e0 := (HDz.out.below HW1.out hdz).cell (j := 0) rfl; have e1 := (HDz.out.below HW1.out hdz).cell (j := 1) rfl; have e2 := (HDz.out.below HW1.out hdz).cell (j := 2) rfl)
          | (refine step_extend rfl (.tmp 95) (.tmp 97) 26 rfl wz.heap.size 28 _ 3 24 Try.underlying26 info_Damage rfl (by decide) (by decide) _ ?_ ?_ rfl ?_ _ _ _ _ (flat Dam.cells [d]) rfl rfl ?_ ?_ ?_ ?_ ?_; rotate_left 2; (focus (first | exact hown1 | exact hown1.alloc _)); (focus (first | exact news_one (cs := (d).cells.toArray) (heap_alloc_new _ _) | exact news_one (cs := (d).cells.toArray) (nd2 hk1) | exact news_one (cs := (d).cells.toArray) (nd3 hk1))); (focus exact flat_cells Dam.ones [d]); (focus omega); (focus (first | omega | (simp; omega))); intro v2 w2 hown2 hb2 hk2; have hz2 := hb2.size; (try simp at hz2))
          | (refine step_extend rfl (.tmp 98) (.tmp 99) 26 rfl wz.heap.size 28 _ 3 24 Try.underlying26 info_Damage rfl (by decide) (by decide) _ _ _ rfl hown2 b (off) (0) _ (flat Dam.cells (l.drop (k'))) rfl ?_ (no_newsD (by omega)) (flat_cells Dam.ones _) ?_ ?_ ?_; (focus (rw [flat_len Dam.three, List.length_drop] <;> omega)); (focus omega); (focus (first | omega | (simp; omega))); intro v3 w3 hown3 hb3 hk3; have hz3 := hb3.size))
        all_goals
          rw [show 0 + k' + 1 + (0) = n4 by have := HN4.out; omega, show ([] ++ flat Dam.cells (l.take k')) ++ flat Dam.cells [d] ++ flat Dam.cells (l.drop (k')) = flat Dam.cells (putD l d) by rw [HP.out]; simp [flat]] at hown3
          obtain ⟨g3, cap3, rfl⟩ := Joins.ownsRow_form hown3 (by omega)
          have HO3 := Lib.hid hown3
          have HW3 := Lib.hid (show Below wz.heap.size wz w3 from (by repeat (first | (with_reducible exact Below.refl _ _) | ((with_reducible refine alloc_ ?_ ?_); (focus (first | exact Nat.le_refl _ | (simp; done) | (simp; omega) | omega))) | ((with_reducible refine set_ ?_ ?_); (focus (first | exact Nat.le_refl _ | (simp; done) | (simp; omega) | omega))) | (with_reducible refine Below.drew ?_) | ((with_reducible refine after_ ?_ (by assumption) ?_); (rotate_left; (focus (first | exact Nat.le_refl _ | (simp; done) | (simp; omega) | omega)))))))
          have HB3 := Lib.hid (HBz.out.trans (HW3.out.mono HBz.out.size))
          have hkx := HKz.out.carry HW3.out
          have x0 := hkx.cell (j := 0) rfl
          have x1 := hkx.cell (j := 1) rfl
          have x2 := hkx.cell (j := 2) rfl
          have x3 := hkx.cell (j := 3) rfl
          have x4 := hkx.cell (j := 4) rfl
          have lx := hkx.lt
          clear hown3 hown2 hown1 hb1 hb2 hb3 hk1 hk2 hk3 e0 e1 e2 y0 y1 y2 hz1 hz2 hz3 HW1 hkx
          go_wp2_with fail
          refine (goodS_n k (putD l d) n4 _ cap3 w3 HN.out (by omega) HST.out ((own_flat HO3.out HN.out.symm rfl Dam.three : Own _ _ _ _ _ _ (putD l d)).rd Dam.three)).mono ?_
          rintro e w5 ⟨rfl, hb5⟩
          have HO5 := Lib.hid (ownsRow_below HO3.out hb5)
          have HB5 := Lib.hid (HB3.out.trans (hb5.mono HB3.out.size))
          clear hb5
          rcases hg2 : goodD k (putD l d) with _ | _
          · have H := Lib.hid (addD_false (d := d) (.inr (.inr hg2)))
            go_wp2_with fail
            go_ret2
            exact listS_none H.out HB5.out
          · have H := Lib.hid (show addD k l d = (putD l d, true) by simp [addD, HG.out, hg2, HDW.out])
            go_wp2_with fail
            go_ret2
            exact ⟨g3, cap3, by rw [H.out]; simp only [HN.out]; rfl, by rw [H.out]; simp only [HN.out]; exact Joins.ownsRow_le HO5.out HBz.out.size, HB5.out⟩
      case neg =>
        have i3 : l.length - k' = 0 := by omega
        go_wp2_with fail
        refine wp_region_mem (by kernel_rfl) (by kernel_rfl) ?_
        repeat (go_big_quiet_step (fail))
        refine wpQuiet_nil ?_
        intro _ hw'
        obtain ⟨⟨wq, hbq⟩, hw''⟩ := hw'
        obtain rfl := hw''.symm
        obtain ⟨hcq, hfq, hzq⟩ := bcell hbq
        try simp [Nat.add_one_le_iff] at hzq
        have HBq := Lib.hid (HB.out.trans (hbq.mono z1))
        have HDq := Lib.hid (HBd.out.carry hbq)
        have HKq := Lib.hid (HBk.out.carry hbq)
        have zq := HBq.out.size
        have hdq := HDq.out
        have y0 := hdq.cell (j := 0) rfl
        have y1 := hdq.cell (j := 1) rfl
        have y2 := hdq.cell (j := 2) rfl
        have hxl := hdq.lt
        clear hdq
        go_wp2_with fail
        clear hcq hfq hw'' hbq
        have s3 : (k' : Int) ≤ l.length := by omega
        have s4 : (k' : Int) ≤ cap := by omega
        have s5 : (k' : Int) ≤ (k' : Int) := by omega
        go_wp2_with fail
        refine wp_region_mem (by kernel_rfl) (by kernel_rfl) ?_
        repeat (go_big_quiet_step (fail))
        refine wpQuiet_nil ?_
        intro _ hw'
        obtain ⟨⟨wv, hbv⟩, hw''⟩ := hw'
        obtain rfl := hw''.symm
        obtain ⟨hcv, hfv, hzv⟩ := bcell hbv
        try simp [Nat.add_one_le_iff] at hzv
        have HBz := Lib.hid (HBq.out.trans (hbv.mono HBq.out.size))
        have HDz := Lib.hid (HDq.out.carry hbv)
        have HKz := Lib.hid (HKq.out.carry hbv)
        have HRz := Lib.hid ((HR.out.below HBz.out (Nat.le_refl _)).mono HBz.out.size)
        have hdz := HDz.out.lt
        have y0 := HDz.out.cell (j := 0) rfl
        have y1 := HDz.out.cell (j := 1) rfl
        have y2 := HDz.out.cell (j := 2) rfl
        go_wp2_with fail
        clear hcv hfv hw'' hbv
        obtain ⟨wz, hwz⟩ : ∃ wz, wz = wv := ⟨_, rfl⟩
        subst hwz
        go_region_law (first
          | (refine step_extend rfl (.tmp 91) (.tmp 94) 26 rfl wz.heap.size 28 _ 3 24 Try.underlying26 info_Damage rfl (by decide) (by decide) _ 0 [] rfl ?_ b off k' _ (flat Dam.cells (l.take k')) rfl ?_ ((HRz.out.take k').news (by repeat (first | (with_reducible exact Below.refl _ _) | ((with_reducible refine alloc_ ?_ ?_); (focus (first | exact Nat.le_refl _ | (simp; done) | (simp; omega) | omega))) | ((with_reducible refine set_ ?_ ?_); (focus (first | exact Nat.le_refl _ | (simp; done) | (simp; omega) | omega))) | (with_reducible refine Below.drew ?_) | ((with_reducible refine after_ ?_ (by assumption) ?_); (rotate_left; (focus (first | exact Nat.le_refl _ | (simp; done) | (simp; omega) | omega)))))) Dam.three (by decide)) (flat_cells Dam.ones _) ?_ ?_ ?_; (focus (first | exact od1 (Nat.le_refl _) | exact od2 (Nat.le_refl _) | exact od3 (Nat.le_refl _))); (focus (rw [flat_len Dam.three, List.length_take]; omega)); (focus omega); (focus (first | omega | (simp; done) | (simp; omega))); intro v1 w1 hown1 hb1 hk1; have hz1 := hb1.size; (try simp at hz1); have HW1 := Lib.hid (show Below wz.heap.size wz w1 from (by repeat (first | (with_reducible exact Below.refl _ _) | ((with_reducible refine alloc_ ?_ ?_); (focus (first | exact Nat.le_refl _ | (simp; done) | (simp; omega) | omega))) | ((with_reducible refine set_ ?_ ?_); (focus (first | exact Nat.le_refl _ | (simp; done) | (simp; omega) | omega))) | (with_reducible refine Below.drew ?_) | ((with_reducible refine after_ ?_ (by assumption) ?_); (rotate_left; (focus (first | exact Nat.le_refl _ | (simp; done) | (simp; omega) | omega))))))); have e0 := (HDz.out.below HW1.out hdz).cell (j := 0) rfl; have e1 := (HDz.out.below HW1.out hdz).cell (j := 1) rfl; have e2 := (HDz.out.below HW1.out hdz).cell (j := 2) rfl)
          | (refine step_extend rfl (.tmp 95) (.tmp 97) 26 rfl wz.heap.size 28 _ 3 24 Try.underlying26 info_Damage rfl (by decide) (by decide) _ ?_ ?_ rfl ?_ _ _ _ _ (flat Dam.cells [d]) rfl rfl ?_ ?_ ?_ ?_ ?_; rotate_left 2; (focus (first | exact hown1 | exact hown1.alloc _)); (focus (first | exact news_one (cs := (d).cells.toArray) (heap_alloc_new _ _) | exact news_one (cs := (d).cells.toArray) (nd2 hk1) | exact news_one (cs := (d).cells.toArray) (nd3 hk1))); (focus exact flat_cells Dam.ones [d]); (focus omega); (focus (first | omega | (simp; omega))); intro v2 w2 hown2 hb2 hk2; have hz2 := hb2.size; (try simp at hz2))
          | (refine step_extend rfl (.tmp 98) (.tmp 99) 26 rfl wz.heap.size 28 _ 3 24 Try.underlying26 info_Damage rfl (by decide) (by decide) _ _ _ rfl hown2 b (off + k' * 3) (0) _ (flat Dam.cells (l.drop (k'))) rfl ?_ (no_newsD (by omega)) (flat_cells Dam.ones _) ?_ ?_ ?_; (focus (rw [flat_len Dam.three, List.length_drop] <;> omega)); (focus omega); (focus (first | omega | (simp; omega))); intro v3 w3 hown3 hb3 hk3; have hz3 := hb3.size))
        all_goals
          rw [show 0 + k' + 1 + (0) = n4 by have := HN4.out; omega, show ([] ++ flat Dam.cells (l.take k')) ++ flat Dam.cells [d] ++ flat Dam.cells (l.drop (k')) = flat Dam.cells (putD l d) by rw [HP.out]; simp [flat]] at hown3
          obtain ⟨g3, cap3, rfl⟩ := Joins.ownsRow_form hown3 (by omega)
          have HO3 := Lib.hid hown3
          have HW3 := Lib.hid (show Below wz.heap.size wz w3 from (by repeat (first | (with_reducible exact Below.refl _ _) | ((with_reducible refine alloc_ ?_ ?_); (focus (first | exact Nat.le_refl _ | (simp; done) | (simp; omega) | omega))) | ((with_reducible refine set_ ?_ ?_); (focus (first | exact Nat.le_refl _ | (simp; done) | (simp; omega) | omega))) | (with_reducible refine Below.drew ?_) | ((with_reducible refine after_ ?_ (by assumption) ?_); (rotate_left; (focus (first | exact Nat.le_refl _ | (simp; done) | (simp; omega) | omega)))))))
          have HB3 := Lib.hid (HBz.out.trans (HW3.out.mono HBz.out.size))
          have hkx := HKz.out.carry HW3.out
          have x0 := hkx.cell (j := 0) rfl
          have x1 := hkx.cell (j := 1) rfl
          have x2 := hkx.cell (j := 2) rfl
          have x3 := hkx.cell (j := 3) rfl
          have x4 := hkx.cell (j := 4) rfl
          have lx := hkx.lt
          clear hown3 hown2 hown1 hb1 hb2 hb3 hk1 hk2 hk3 e0 e1 e2 y0 y1 y2 hz1 hz2 hz3 HW1 hkx
          go_wp2_with fail
          refine (goodS_n k (putD l d) n4 _ cap3 w3 HN.out (by omega) HST.out ((own_flat HO3.out HN.out.symm rfl Dam.three : Own _ _ _ _ _ _ (putD l d)).rd Dam.three)).mono ?_
          rintro e w5 ⟨rfl, hb5⟩
          have HO5 := Lib.hid (ownsRow_below HO3.out hb5)
          have HB5 := Lib.hid (HB3.out.trans (hb5.mono HB3.out.size))
          clear hb5
          rcases hg2 : goodD k (putD l d) with _ | _
          · have H := Lib.hid (addD_false (d := d) (.inr (.inr hg2)))
            go_wp2_with fail
            go_ret2
            exact listS_none H.out HB5.out
          · have H := Lib.hid (show addD k l d = (putD l d, true) by simp [addD, HG.out, hg2, HDW.out])
            go_wp2_with fail
            go_ret2
            exact ⟨g3, cap3, by rw [H.out]; simp only [HN.out]; rfl, by rw [H.out]; simp only [HN.out]; exact Joins.ownsRow_le HO5.out HBz.out.size, HB5.out⟩
end Go.Proofs.Ytlgpgcfncmomiaa
