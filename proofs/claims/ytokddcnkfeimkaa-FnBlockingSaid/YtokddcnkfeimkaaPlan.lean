/- The test whether days are a plan for tasks: the program's and the reference's return one Lean function; no conditions but the lengths and that the tasks are valid. -/
import Derived.Test.YtokddcnkfeimkaaTasks
namespace Go.Proofs.Ytokddcnkfeimkaa
open Go.RowKit

def lastS (x : Tsk) : Int := x.u - x.d + 1
def hits (p q : Int) (d : Int) : Bool := decide (p < q + d)
def ovl (l : List Tsk) (p : List Int) (i k : Nat) : Bool := hits (nth p i) (nth p k) (nth l k).d && hits (nth p k) (nth p i) (nth l i).d
def okP (l : List Tsk) (p : List Int) (i : Nat) : Bool := inR (nth p i) (nth l i).f (lastS (nth l i)) && allTo i fun k => !ovl l p i k
def planB (l : List Tsk) (p : List Int) : Bool := decide (p.length = l.length) && allTo l.length (okP l p)
theorem planB_no {l : List Tsk} {p : List Int} {i : Nat} (hi : i < l.length) (h : okP l p i = false) : planB l p = false := by
  simp [planB, allTo_no hi h]
theorem planB_len {l : List Tsk} {p : List Int} (h : p.length ≠ l.length) : planB l p = false := by simp [planB, h]
theorem planB_yes {l : List Tsk} {p : List Int} (h : p.length = l.length) (ha : ∀ i, i < l.length → okP l p i = true) : planB l p = true := by
  simp [planB, h, allTo_true.2 ha]
theorem okP_in {l : List Tsk} {p : List Int} {i : Nat} (h : okP l p i = true) : (nth l i).f ≤ nth p i ∧ nth p i ≤ lastS (nth l i) := by
  simp only [okP, Bool.and_eq_true, inR_true] at h; exact h.1
theorem okP_no {l : List Tsk} {p : List Int} {i k : Nat} (hk : k < i) (h : ovl l p i k = true) : okP l p i = false := by
  simp [okP, allTo_no (p := fun k => !ovl l p i k) hk (by simp [h])]
theorem okP_out {l : List Tsk} {p : List Int} {i : Nat} (h : inR (nth p i) (nth l i).f (lastS (nth l i)) = false) : okP l p i = false := by simp [okP, h]
theorem okP_yes {l : List Tsk} {p : List Int} {i : Nat} (h : inR (nth p i) (nth l i).f (lastS (nth l i)) = true) (ha : ∀ k, k < i → ovl l p i k = false) : okP l p i = true := by
  simp only [okP, h, Bool.true_and]; exact allTo_true.2 fun k hk => by simp [ha k hk]

theorem isTaskPlan_c (l : List Tsk) (p : List Int) (A B : Option Addr) (cap cap' : Nat) (w : World) (hr : Rd w w.heap.size 4 Tsk.cells A l) (hs : Rd w w.heap.size 1 intCells B p) (hp : p.length ≤ 1048576) (hg : l.length ≤ 8 ∧ ∀ i, i < l.length → okK (nth l i) = true) :
    Calls Try.prog 61 #[.slice A l.length cap, .slice B p.length cap'] w fun e w' => e = .returned (.bool (planB l p)) ∧ Below w.heap.size w w' := by
  obtain ⟨hl2, hg⟩ := hg
  have HG := Lib.hid hg
  clear hg
  by_cases he : p.length = l.length
  case neg =>
    have hn : ((p.length : Int) != l.length) = true := by rw [bne_iff_ne]; omega
    have H := Lib.hid (planB_len he)
    clear he
    go_enter Try.func61, Try.ntmps61
    go_wp2_with fail
    go_ret
    exact ⟨retb H.out.symm, Below.refl _ _⟩
  have HE := Lib.hid he
  have hn : ((p.length : Int) != l.length) = false := by simp [he]
  have hp : p.length ≤ 8 := by omega
  clear he
  go_enter Try.func61, Try.ntmps61
  go_wp2_with fail
  go_loopw [5, 6, 7, 15, 35] (fun _ _ _ i _ wr => ∃ k : Nat, k ≤ l.length ∧ i = .int .i64 k ∧ (∀ j, j < k → okP l p j = true) ∧ Below w.heap.size w wr) (fun _ _ _ i _ _ => l.length - (intOf i).toNat)
  case atStart => exact ⟨0, Nat.zero_le _, rfl, fun j hj => absurd hj (by omega), Below.refl _ _⟩
  case round =>
    obtain ⟨k, hk, rfl, hall, hbel⟩ := hrel
    have HB := Lib.hid hbel
    have HA := Lib.hid hall
    clear hall
    by_cases hlt : k < l.length
    · have hlp : k < p.length := by have := HE.out; omega
      obtain ⟨b, off, rfl, hb1, hc0, hc1, hc2, hc3⟩ := Tsk.rd (hr.below hbel (Nat.le_refl _)) hlt
      obtain ⟨b', off', rfl, hb2, hd⟩ := (hs.below hbel (Nat.le_refl _)).int hlp
      have z1 := hbel.size
      have l1 : b < wr.heap.size := by omega
      have l2 : b' < wr.heap.size := by omega
      have i1 : (0 : Int) ≤ (k : Int) := by omega
      have i2 : (k : Int) < p.length := by omega
      obtain ⟨⟨e1, e2⟩, ⟨e3, e4⟩, ⟨e5, e6⟩, ⟨e7, e8⟩⟩ := okK_true.1 (HG.out k hlt)
      have s1 : IntKind.i64.wrap ((nth l k).u - (nth l k).d) = (nth l k).u - (nth l k).d := IntWalk.i64_in _ (by omega)
      have s2 : IntKind.i64.wrap ((nth l k).u - (nth l k).d + 1) = (nth l k).u - (nth l k).d + 1 := IntWalk.i64_in _ (by omega)
      clear hbel
      rcases hin : inR (nth p k) (nth l k).f (lastS (nth l k)) with _ | _
      · have H := Lib.hid (planB_no hlt (okP_out hin))
        go_wp2_with fail
        refine wp_region_mem (by kernel_rfl) (by kernel_rfl) ?_
        repeat (go_big_quiet_step ((go_at_call 65; exact same_bool (within_c _ _ _ _) hin)))
        refine wpQuiet_nil ?_
        intro _ hw'
        obtain ⟨⟨wq, hbq⟩, hw''⟩ := hw'
        obtain rfl := hw''.symm
        obtain ⟨hcq, hfq, hzq⟩ := bcell hbq
        try simp [Nat.add_one_le_iff] at hzq
        clear s1 s2
        go_wp2_with fail
        go_ret
        exact ⟨retb H.out.symm, (HB.out.trans (Below.mono (B := wr.heap.size) (by repeat (first | (with_reducible exact Below.refl _ _) | ((with_reducible refine alloc_ ?_ ?_); (focus (first | exact Nat.le_refl _ | (simp; done) | (simp; omega) | omega))) | ((with_reducible refine set_ ?_ ?_); (focus (first | exact Nat.le_refl _ | (simp; done) | (simp; omega) | omega))) | (with_reducible refine Below.drew ?_) | ((with_reducible refine after_ ?_ (by assumption) ?_); (rotate_left; (focus (first | exact Nat.le_refl _ | (simp; done) | (simp; omega) | omega)))))) z1))⟩
      go_wp2_with fail
      refine wp_region_mem (by kernel_rfl) (by kernel_rfl) ?_
      repeat (go_big_quiet_step ((go_at_call 65; exact same_bool (within_c _ _ _ _) hin)))
      refine wpQuiet_nil ?_
      intro _ hw'
      obtain ⟨⟨wq, hbq⟩, hw''⟩ := hw'
      obtain rfl := hw''.symm
      obtain ⟨hcq, hfq, hzq⟩ := bcell hbq
      try simp [Nat.add_one_le_iff] at hzq
      clear s1 s2
      go_wp2_with fail
      have HQ : Below w.heap.size w wq := (HB.out.trans (Below.mono (B := wr.heap.size) (by repeat (first | (with_reducible exact Below.refl _ _) | ((with_reducible refine alloc_ ?_ ?_); (focus (first | exact Nat.le_refl _ | (simp; done) | (simp; omega) | omega))) | ((with_reducible refine set_ ?_ ?_); (focus (first | exact Nat.le_refl _ | (simp; done) | (simp; omega) | omega))) | (with_reducible refine Below.drew ?_) | ((with_reducible refine after_ ?_ (by assumption) ?_); (rotate_left; (focus (first | exact Nat.le_refl _ | (simp; done) | (simp; omega) | omega)))))) z1))
      have zq := HQ.size
      have hrq := hr.below HQ (Nat.le_refl _)
      have hsq := hs.below HQ (Nat.le_refl _)
      have HQ' := Lib.hid HQ
      have HX := Lib.hid ((Box.new wr (Tsk.cells (nth l k)) 50).carry hbq)
      clear HQ hcq hfq
      have l5 : wr.heap.size < wq.heap.size := by omega
      have l3 : b < wq.heap.size := by omega
      have l4 : b' < wq.heap.size := by omega
      go_loopw [7, 35] (fun _ i wi => ∃ j : Nat, j ≤ k ∧ i = .int .i64 j ∧ (∀ m, m < j → ovl l p k m = false) ∧ Below wq.heap.size wq wi) (fun _ i _ => k - (intOf i).toNat)
      case atStart => exact ⟨0, Nat.zero_le _, rfl, fun m hm => absurd hm (by omega), Below.refl _ _⟩
      case round =>
        obtain ⟨j, hj, rfl, hno, hbi⟩ := hrel
        have HI := Lib.hid hbi
        have HN := Lib.hid hno
        clear hno
        by_cases hjk : j < k
        · have hjp : j < p.length := by omega
          have hzI := hbi.size
          have hx3 := (HX.out.carry hbi).cell (j := 3) rfl
          obtain ⟨b3, off3, he3, hb3, ha0, ha1, ha2, ha3⟩ := Tsk.rd (hrq.below (hbi.mono zq) (Nat.le_refl _)) (show j < l.length by omega)
          obtain ⟨b4, off4, he4, hb4, ha4⟩ := (hsq.below (hbi.mono zq) (Nat.le_refl _)).int hjp
          simp only [Option.some.injEq, Addr.mk.injEq, and_true] at he3 he4
          obtain ⟨rfl, rfl⟩ := he3
          obtain ⟨rfl, rfl⟩ := he4
          obtain ⟨⟨g1, g2⟩, ⟨g3, g4⟩, ⟨g5, g6⟩, ⟨g7, g8⟩⟩ := okK_true.1 (HG.out j (by omega))
          obtain ⟨g9, g10⟩ := okP_in (HA.out j hjk)
          obtain ⟨g11, g12⟩ := inR_true.1 hin
          unfold lastS at g10 g12
          have s1 : IntKind.i64.wrap (nth p j + (nth l j).d) = nth p j + (nth l j).d := IntWalk.i64_in _ (by omega)
          have s2 : IntKind.i64.wrap (nth p k + (nth l k).d) = nth p k + (nth l k).d := IntWalk.i64_in _ (by omega)
          have i3 : (0 : Int) ≤ (j : Int) := by omega
          have i4 : (j : Int) < p.length := by omega
          have i5 : (j : Int) < l.length := by omega
          obtain ⟨b5, off5, he5, hb5, ha5⟩ := (hsq.below (hbi.mono zq) (Nat.le_refl _)).int hlp
          simp only [Option.some.injEq, Addr.mk.injEq, and_true] at he5
          obtain ⟨rfl, rfl⟩ := he5
          have l6 := Nat.lt_of_lt_of_le l3 hzI
          have l7 := Nat.lt_of_lt_of_le l4 hzI
          have l8 := Nat.lt_of_lt_of_le l5 hzI
          clear hbi
          by_cases q1 : nth p k < nth p j + (nth l j).d
          · by_cases q2 : nth p j < nth p k + (nth l k).d
            · have H := Lib.hid (planB_no hlt (okP_no hjk (show ovl l p k j = true by simp [ovl, hits, q1, q2])))
              go_wp2_with fail
              refine wp_region_mem (by kernel_rfl) (by kernel_rfl) ?_
              repeat (go_big_quiet_step (fail))
              refine wpQuiet_nil ?_
              intro _ hw'
              obtain ⟨⟨wr, hbr⟩, hw''⟩ := hw'
              obtain rfl := hw''.symm
              obtain ⟨hcr, hfr, hzr⟩ := bcell hbr
              try simp [Nat.add_one_le_iff] at hzr
              clear s1 s2
              go_wp2_with fail
              go_ret
              exact ⟨retb H.out.symm, HQ'.out.trans ((HI.out.trans (hbr.mono hzI)).mono zq)⟩
            · have H := Lib.hid (show ovl l p k j = false by simp [ovl, hits, q2])
              have q2' : decide (nth p j < nth p k + (nth l k).d) = false := by simpa using q2
              go_wp2_with fail
              refine wp_region_mem (by kernel_rfl) (by kernel_rfl) ?_
              repeat (go_big_quiet_step (fail))
              refine wpQuiet_nil ?_
              intro _ hw'
              obtain ⟨⟨wr, hbr⟩, hw''⟩ := hw'
              obtain rfl := hw''.symm
              obtain ⟨hcr, hfr, hzr⟩ := bcell hbr
              try simp [Nat.add_one_le_iff] at hzr
              clear s1 s2
              go_wp2_with fail
              go_roundw
              case rel => exact ⟨j + 1, by omega, by go_num, below_add HN.out H.out, HI.out.trans (hbr.mono hzI)⟩
              case measure => simp [intOf]; omega
          · have H := Lib.hid (show ovl l p k j = false by simp [ovl, hits, q1])
            have q1' : decide (nth p k < nth p j + (nth l j).d) = false := by simpa using q1
            go_wp2_with fail
            refine wp_region_mem (by kernel_rfl) (by kernel_rfl) ?_
            repeat (go_big_quiet_step (fail))
            refine wpQuiet_nil ?_
            intro _ hw'
            obtain ⟨⟨wr, hbr⟩, hw''⟩ := hw'
            obtain rfl := hw''.symm
            obtain ⟨hcr, hfr, hzr⟩ := bcell hbr
            try simp [Nat.add_one_le_iff] at hzr
            clear s1 s2
            go_wp2_with fail
            go_roundw
            case rel => exact ⟨j + 1, by omega, by go_num, below_add HN.out H.out, HI.out.trans (hbr.mono hzI)⟩
            case measure => simp [intOf]; omega
        · obtain rfl : j = k := by omega
          have H := Lib.hid (okP_yes hin HN.out)
          clear hbi
          go_wp2_with fail
          go_roundw
          case rel => exact ⟨j + 1, by omega, by go_num, below_add HA.out H.out, HQ'.out.trans (HI.out.mono zq)⟩
          case measure => simp [intOf]; omega
    · obtain rfl : k = l.length := by omega
      clear hbel
      have H := Lib.hid (planB_yes HE.out HA.out)
      go_wp2_with fail
      go_ret
      exact ⟨retb H.out.symm, HB.out⟩
theorem l16Plan_c (l : List Tsk) (p : List Int) (A B : Option Addr) (cap cap' : Nat) (w : World) (hr : Rd w w.heap.size 4 Tsk.cells A l) (hs : Rd w w.heap.size 1 intCells B p) (hp : p.length ≤ 1048576) (hg : l.length ≤ 8 ∧ ∀ i, i < l.length → okK (nth l i) = true) :
    Calls Try.prog 60 #[.slice A l.length cap, .slice B p.length cap'] w fun e w' => e = .returned (.bool (planB l p)) ∧ Below w.heap.size w w' := by
  obtain ⟨hl2, hg⟩ := hg
  have HG := Lib.hid hg
  clear hg
  by_cases he : p.length = l.length
  case neg =>
    have hn : ((p.length : Int) != l.length) = true := by rw [bne_iff_ne]; omega
    have H := Lib.hid (planB_len he)
    clear he
    go_enter Try.func60, Try.ntmps60
    go_wp2_with fail
    go_ret
    exact ⟨retb H.out.symm, Below.refl _ _⟩
  have HE := Lib.hid he
  have hn : ((p.length : Int) != l.length) = false := by simp [he]
  have hp : p.length ≤ 8 := by omega
  clear he
  go_enter Try.func60, Try.ntmps60
  go_wp2_with fail
  go_loopw [5, 6, 7] (fun i _ _ wr => ∃ k : Nat, k ≤ l.length ∧ i = .int .i64 k ∧ (∀ j, j < k → okP l p j = true) ∧ Below w.heap.size w wr) (fun i _ _ _ => l.length - (intOf i).toNat)
  case atStart => exact ⟨0, Nat.zero_le _, rfl, fun j hj => absurd hj (by omega), Below.refl _ _⟩
  case round =>
    obtain ⟨k, hk, rfl, hall, hbel⟩ := hrel
    have HB := Lib.hid hbel
    have HA := Lib.hid hall
    clear hall
    by_cases hlt : k < l.length
    · have hlp : k < p.length := by have := HE.out; omega
      obtain ⟨b, off, rfl, hb1, hc0, hc1, hc2, hc3⟩ := Tsk.rd (hr.below hbel (Nat.le_refl _)) hlt
      obtain ⟨b', off', rfl, hb2, hd⟩ := (hs.below hbel (Nat.le_refl _)).int hlp
      have z1 := hbel.size
      have l1 : b < wr.heap.size := by omega
      have l2 : b' < wr.heap.size := by omega
      have i1 : (0 : Int) ≤ (k : Int) := by omega
      have i2 : (k : Int) < p.length := by omega
      obtain ⟨⟨e1, e2⟩, ⟨e3, e4⟩, ⟨e5, e6⟩, ⟨e7, e8⟩⟩ := okK_true.1 (HG.out k hlt)
      have s1 : IntKind.i64.wrap ((nth l k).u - (nth l k).d) = (nth l k).u - (nth l k).d := IntWalk.i64_in _ (by omega)
      have s2 : IntKind.i64.wrap ((nth l k).u - (nth l k).d + 1) = (nth l k).u - (nth l k).d + 1 := IntWalk.i64_in _ (by omega)
      clear hbel
      rcases hin : inR (nth p k) (nth l k).f (lastS (nth l k)) with _ | _
      · have H := Lib.hid (planB_no hlt (okP_out hin))
        by_cases hlo : nth p k < (nth l k).f
        · go_wp2_with fail
          refine wp_region_mem (by kernel_rfl) (by kernel_rfl) ?_
          repeat (go_big_quiet_step (fail))
          refine wpQuiet_nil ?_
          intro _ hw'
          obtain ⟨⟨wq, hbq⟩, hw''⟩ := hw'
          obtain rfl := hw''.symm
          obtain ⟨hcq, hfq, hzq⟩ := bcell hbq
          try simp [Nat.add_one_le_iff] at hzq
          clear s1 s2
          go_wp2_with fail
          go_ret
          exact ⟨retb H.out.symm, (HB.out.trans (Below.mono (B := wr.heap.size) (by repeat (first | (with_reducible exact Below.refl _ _) | ((with_reducible refine alloc_ ?_ ?_); (focus (first | exact Nat.le_refl _ | (simp; done) | (simp; omega) | omega))) | ((with_reducible refine set_ ?_ ?_); (focus (first | exact Nat.le_refl _ | (simp; done) | (simp; omega) | omega))) | (with_reducible refine Below.drew ?_) | ((with_reducible refine after_ ?_ (by assumption) ?_); (rotate_left; (focus (first | exact Nat.le_refl _ | (simp; done) | (simp; omega) | omega)))))) z1))⟩
        · have hlo' : decide (nth p k < (nth l k).f) = false := by simpa using hlo
          have hhi : (nth l k).u - (nth l k).d + 1 < nth p k := by
            rcases inR_false.1 hin with h | h
            · exact absurd h hlo
            · exact h
          clear hin
          go_wp2_with fail
          refine wp_region_mem (by kernel_rfl) (by kernel_rfl) ?_
          repeat (go_big_quiet_step (fail))
          refine wpQuiet_nil ?_
          intro _ hw'
          obtain ⟨⟨wq, hbq⟩, hw''⟩ := hw'
          obtain rfl := hw''.symm
          obtain ⟨hcq, hfq, hzq⟩ := bcell hbq
          try simp [Nat.add_one_le_iff] at hzq
          clear s1 s2
          go_wp2_with fail
          go_ret
          exact ⟨retb H.out.symm, (HB.out.trans (Below.mono (B := wr.heap.size) (by repeat (first | (with_reducible exact Below.refl _ _) | ((with_reducible refine alloc_ ?_ ?_); (focus (first | exact Nat.le_refl _ | (simp; done) | (simp; omega) | omega))) | ((with_reducible refine set_ ?_ ?_); (focus (first | exact Nat.le_refl _ | (simp; done) | (simp; omega) | omega))) | (with_reducible refine Below.drew ?_) | ((with_reducible refine after_ ?_ (by assumption) ?_); (rotate_left; (focus (first | exact Nat.le_refl _ | (simp; done) | (simp; omega) | omega)))))) z1))⟩
      have hlo : ¬ nth p k < (nth l k).f := by have := inR_true.1 hin; omega
      have hhi : ¬ (nth l k).u - (nth l k).d + 1 < nth p k := by have := inR_true.1 hin; unfold lastS at this; omega
      have hlo' : decide (nth p k < (nth l k).f) = false := by simpa using hlo
      have hhi' : decide ((nth l k).u - (nth l k).d + 1 < nth p k) = false := by simpa using hhi
      go_wp2_with fail
      refine wp_region_mem (by kernel_rfl) (by kernel_rfl) ?_
      repeat (go_big_quiet_step (fail))
      refine wpQuiet_nil ?_
      intro _ hw'
      obtain ⟨⟨wq, hbq⟩, hw''⟩ := hw'
      obtain rfl := hw''.symm
      obtain ⟨hcq, hfq, hzq⟩ := bcell hbq
      try simp [Nat.add_one_le_iff] at hzq
      clear s1 s2 hlo' hhi'
      go_wp2_with fail
      have HQ : Below w.heap.size w wq := (HB.out.trans (Below.mono (B := wr.heap.size) (by repeat (first | (with_reducible exact Below.refl _ _) | ((with_reducible refine alloc_ ?_ ?_); (focus (first | exact Nat.le_refl _ | (simp; done) | (simp; omega) | omega))) | ((with_reducible refine set_ ?_ ?_); (focus (first | exact Nat.le_refl _ | (simp; done) | (simp; omega) | omega))) | (with_reducible refine Below.drew ?_) | ((with_reducible refine after_ ?_ (by assumption) ?_); (rotate_left; (focus (first | exact Nat.le_refl _ | (simp; done) | (simp; omega) | omega)))))) z1))
      have zq := HQ.size
      have hrq := hr.below HQ (Nat.le_refl _)
      have hsq := hs.below HQ (Nat.le_refl _)
      have HQ' := Lib.hid HQ
      have HX := Lib.hid ((Box.new wr (Tsk.cells (nth l k)) 50).carry hbq)
      clear HQ hcq hfq
      have l5 : wr.heap.size < wq.heap.size := by omega
      have l3 : b < wq.heap.size := by omega
      have l4 : b' < wq.heap.size := by omega
      go_loopw [7] (fun i wi => ∃ j : Nat, j ≤ k ∧ i = .int .i64 j ∧ (∀ m, m < j → ovl l p k m = false) ∧ Below wq.heap.size wq wi) (fun i _ => k - (intOf i).toNat)
      case atStart => exact ⟨0, Nat.zero_le _, rfl, fun m hm => absurd hm (by omega), Below.refl _ _⟩
      case round =>
        obtain ⟨j, hj, rfl, hno, hbi⟩ := hrel
        have HI := Lib.hid hbi
        have HN := Lib.hid hno
        clear hno
        by_cases hjk : j < k
        · have hjp : j < p.length := by omega
          have hzI := hbi.size
          have hx3 := (HX.out.carry hbi).cell (j := 3) rfl
          obtain ⟨b3, off3, he3, hb3, ha0, ha1, ha2, ha3⟩ := Tsk.rd (hrq.below (hbi.mono zq) (Nat.le_refl _)) (show j < l.length by omega)
          obtain ⟨b4, off4, he4, hb4, ha4⟩ := (hsq.below (hbi.mono zq) (Nat.le_refl _)).int hjp
          simp only [Option.some.injEq, Addr.mk.injEq, and_true] at he3 he4
          obtain ⟨rfl, rfl⟩ := he3
          obtain ⟨rfl, rfl⟩ := he4
          obtain ⟨⟨g1, g2⟩, ⟨g3, g4⟩, ⟨g5, g6⟩, ⟨g7, g8⟩⟩ := okK_true.1 (HG.out j (by omega))
          obtain ⟨g9, g10⟩ := okP_in (HA.out j hjk)
          obtain ⟨g11, g12⟩ := inR_true.1 hin
          unfold lastS at g10 g12
          have s1 : IntKind.i64.wrap (nth p j + (nth l j).d) = nth p j + (nth l j).d := IntWalk.i64_in _ (by omega)
          have s2 : IntKind.i64.wrap (nth p k + (nth l k).d) = nth p k + (nth l k).d := IntWalk.i64_in _ (by omega)
          have i3 : (0 : Int) ≤ (j : Int) := by omega
          have i4 : (j : Int) < p.length := by omega
          have i5 : (j : Int) < l.length := by omega
          obtain ⟨b5, off5, he5, hb5, ha5⟩ := (hsq.below (hbi.mono zq) (Nat.le_refl _)).int hlp
          simp only [Option.some.injEq, Addr.mk.injEq, and_true] at he5
          obtain ⟨rfl, rfl⟩ := he5
          have l6 := Nat.lt_of_lt_of_le l3 hzI
          have l7 := Nat.lt_of_lt_of_le l4 hzI
          have l8 := Nat.lt_of_lt_of_le l5 hzI
          clear hbi
          by_cases q2 : nth p j < nth p k + (nth l k).d
          · by_cases q1 : nth p k < nth p j + (nth l j).d
            · have H := Lib.hid (planB_no hlt (okP_no hjk (show ovl l p k j = true by simp [ovl, hits, q1, q2])))
              go_wp2_with fail
              refine wp_region_mem (by kernel_rfl) (by kernel_rfl) ?_
              repeat (go_big_quiet_step (fail))
              refine wpQuiet_nil ?_
              intro _ hw'
              obtain ⟨⟨wr, hbr⟩, hw''⟩ := hw'
              obtain rfl := hw''.symm
              obtain ⟨hcr, hfr, hzr⟩ := bcell hbr
              try simp [Nat.add_one_le_iff] at hzr
              clear s1 s2
              go_wp2_with fail
              go_ret
              exact ⟨retb H.out.symm, HQ'.out.trans ((HI.out.trans (hbr.mono hzI)).mono zq)⟩
            · have H := Lib.hid (show ovl l p k j = false by simp [ovl, hits, q1])
              have q1' : decide (nth p k < nth p j + (nth l j).d) = false := by simpa using q1
              go_wp2_with fail
              refine wp_region_mem (by kernel_rfl) (by kernel_rfl) ?_
              repeat (go_big_quiet_step (fail))
              refine wpQuiet_nil ?_
              intro _ hw'
              obtain ⟨⟨wr, hbr⟩, hw''⟩ := hw'
              obtain rfl := hw''.symm
              obtain ⟨hcr, hfr, hzr⟩ := bcell hbr
              try simp [Nat.add_one_le_iff] at hzr
              clear s1 s2
              go_wp2_with fail
              go_roundw
              case rel => exact ⟨j + 1, by omega, by go_num, below_add HN.out H.out, HI.out.trans (hbr.mono hzI)⟩
              case measure => simp [intOf]; omega
          · have H := Lib.hid (show ovl l p k j = false by simp [ovl, hits, q2])
            have q2' : decide (nth p j < nth p k + (nth l k).d) = false := by simpa using q2
            go_wp2_with fail
            refine wp_region_mem (by kernel_rfl) (by kernel_rfl) ?_
            repeat (go_big_quiet_step (fail))
            refine wpQuiet_nil ?_
            intro _ hw'
            obtain ⟨⟨wr, hbr⟩, hw''⟩ := hw'
            obtain rfl := hw''.symm
            obtain ⟨hcr, hfr, hzr⟩ := bcell hbr
            try simp [Nat.add_one_le_iff] at hzr
            clear s1 s2
            go_wp2_with fail
            go_roundw
            case rel => exact ⟨j + 1, by omega, by go_num, below_add HN.out H.out, HI.out.trans (hbr.mono hzI)⟩
            case measure => simp [intOf]; omega
        · obtain rfl : j = k := by omega
          have H := Lib.hid (okP_yes hin HN.out)
          clear hbi
          go_wp2_with fail
          go_roundw
          case rel => exact ⟨j + 1, by omega, by go_num, below_add HA.out H.out, HQ'.out.trans (HI.out.mono zq)⟩
          case measure => simp [intOf]; omega
    · obtain rfl : k = l.length := by omega
      clear hbel
      have hx : ¬ l.length < p.length := by have := HE.out; omega
      have H := Lib.hid (planB_yes HE.out HA.out)
      go_wp2_with fail
      go_ret
      exact ⟨retb H.out.symm, HB.out⟩
end Go.Proofs.Ytokddcnkfeimkaa
