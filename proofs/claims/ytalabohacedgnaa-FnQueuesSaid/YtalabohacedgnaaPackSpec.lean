/- The reference's LeastCabins returns the plain least number; no conditions but the length. -/
import Derived.Test.YtalabohacedgnaaFits
import Derived.Test.YtalabohacedgnaaPack
import Derived.Test.YtalabohacedgnaaHasI
import Derived.Test.YtalabohacedgnaaFlat
import Derived.BigRegion
namespace Go.Proofs.Ytalabohacedgnaa
open Go.RowKit

def zOf (l : List Gro) (i : Nat) : Int := if i < l.length then (nth l i).s else 0
theorem zOf_at {l : List Gro} {i : Nat} (h : i < l.length) : zOf l i = (nth l i).s := by rw [zOf, if_pos h]
theorem zOf_ge {l : List Gro} (h : ∀ i, i < l.length → 1 ≤ (nth l i).s ∧ (nth l i).s ≤ 8) (i : Nat) : 0 ≤ zOf l i := by
  unfold zOf; split
  · next hi => have := h i hi; omega
  · omega
/-- What a call hands back: a list of its own, with its room. -/
def GivesC (o : List Int) (w : World) (e : Ending) (w' : World) : Prop := ∃ g cap, e = .returned (.slice (some ⟨g, 0, none⟩) o.length cap) ∧ o.length ≤ cap ∧ w.heap.size ≤ g ∧ Arr w' g o ∧ Below w.heap.size w w'
theorem ownsRow_cap {w : World} {base n cap k : Nat} {e : TypeId} {A : Option Addr} {xs : List Value} (h : w.ownsRow base e k (.slice A n cap) n xs) : n ≤ cap := by
  rcases h.2 with ⟨h1, h2⟩ | ⟨g', c', cu, h1, _, _, hnc, _⟩
  · omega
  · injection h1 with h2 h3 h4; omega
theorem l1Own_r (o : List Int) (b off cap : Nat) (w : World) (hl : o.length ≤ 1000) (h0 : 0 < o.length) (hr : Rd w w.heap.size 1 intCells (some ⟨b, off, none⟩) o) :
    Calls Try.prog 76 #[.slice (some ⟨b, off, none⟩) o.length cap] w (GivesC o w) := by
  have HR := Lib.hid hr
  have HL := Lib.hid (flat_len (k := 1) (cells := intCells) (fun _ => rfl) o)
  clear hr
  go_enter Try.func76, Try.ntmps76
  go_wp2_with (refine wpList_extend _ rfl (.tmp 3) (.tmp 4) 37 rfl w.heap.size 3 _ 1 8 Try.underlying37 info_int rfl (by decide) (by decide) _ 0 [] rfl (ownsRow_empty w 3 1) b off o.length cap (flat intCells o) rfl HL.out (HR.out.news (by repeat (first | (with_reducible exact Below.refl _ _) | ((with_reducible refine alloc_ ?_ ?_); (focus (first | exact Nat.le_refl _ | (simp; done) | (simp; omega) | omega))) | ((with_reducible refine set_ ?_ ?_); (focus (first | exact Nat.le_refl _ | (simp; done) | (simp; omega) | omega))) | (with_reducible refine Below.drew ?_) | ((with_reducible refine after_ ?_ (by assumption) ?_); (rotate_left; (focus (first | exact Nat.le_refl _ | (simp; done) | (simp; omega) | omega)))))) (fun _ => rfl) (by decide)) (flat_cells (fun _ u hu => by simp [intCells] at hu; subst hu; rfl) o) (by omega) (by simp) ?_; intro v w1 hown hb1 hk1)
  rw [List.nil_append, show flat intCells o = o.map (Value.int .i64) from flat_ints o] at hown
  obtain ⟨g, gc, rfl, hg, harr⟩ := Arr.of_owns hown (by omega) (by omega)
  have hcp := Lib.hid (ownsRow_cap hown)
  have HA := Lib.hid harr
  have HB := Lib.hid (show Below w.heap.size w w1 from (by repeat (first | (with_reducible exact Below.refl _ _) | ((with_reducible refine alloc_ ?_ ?_); (focus (first | exact Nat.le_refl _ | (simp; done) | (simp; omega) | omega))) | ((with_reducible refine set_ ?_ ?_); (focus (first | exact Nat.le_refl _ | (simp; done) | (simp; omega) | omega))) | (with_reducible refine Below.drew ?_) | ((with_reducible refine after_ ?_ (by assumption) ?_); (rotate_left; (focus (first | exact Nat.le_refl _ | (simp; done) | (simp; omega) | omega)))))))
  clear hown hb1 hk1 harr
  go_wp2_with fail
  go_ret
  exact ⟨g, gc, retG (by omega), by have := hcp.out; omega, hg, HA.out, HB.out⟩
def packK (z : Nat → Int) (r i : Nat) (free : List Int) (k : Nat) : Bool := (decide (z i ≤ nth free k) && !decide (nth free k ∈ free.take k)) && packF z r (i + 1) (free.set k (nth free k - z i))
theorem packF_yes {z : Nat → Int} {r i k : Nat} {free : List Int} (hk : k < free.length) (h : packK z r i free k = true) : packF z (r + 1) i free = true := anyTo_yes hk h
theorem packF_no {z : Nat → Int} {r i : Nat} {free : List Int} (h : ∀ k, k < free.length → packK z r i free k = false) : packF z (r + 1) i free = false := anyTo_none h
set_option maxHeartbeats 1600000 in
set_option maxRecDepth 100000 in
theorem l13Pack_c (l : List Gro) (A : Option Addr) (cap : Nat) (hl : l.length ≤ 8) (hz : ∀ i, i < l.length → 1 ≤ (nth l i).s ∧ (nth l i).s ≤ 8) : ∀ (r i : Nat) (free : List Int) (F : Option Addr) (fcap : Nat) (w : World), i + r = l.length →
    Rd w w.heap.size 2 Gro.cells A l → Rd w w.heap.size 1 intCells F free → free.length ≤ 8 → free.length ≤ fcap → (∀ k, k < free.length → 0 ≤ nth free k ∧ nth free k ≤ 100) →
    Calls Try.prog 62 #[.slice A l.length cap, .int .i64 i, .slice F free.length fcap] w fun e w' => e = .returned (.bool (packF (zOf l) r i free)) ∧ Below w.heap.size w w' := by
  have HZ := Lib.hid hz
  clear hz
  intro r
  induction r with
  | zero =>
    intro i free F fcap w hir hr hf hfl hfc hfv
    obtain rfl : i = l.length := by omega
    have hfv' := Lib.hid hfv
    clear hfv hir
    have hi : ((l.length : Int) == l.length) = true := by simp
    go_enter Try.func62, Try.ntmps62
    go_wp2_with fail
    go_ret
    exact ⟨rfl, Below.refl _ _⟩
  | succ r ih =>
    intro i free F fcap w hir hr hf hfl hfc hfv
    have IH := Lib.hid ih
    have HFV := Lib.hid hfv
    have hil : i < l.length := by omega
    have HIR := Lib.hid hir
    have HZI := Lib.hid (zOf_at hil)
    have hne : ((i : Int) == l.length) = false := by simp; omega
    clear ih hfv hir
    go_enter Try.func62, Try.ntmps62
    go_wp2_with fail
    go_loopw [7, 8] (fun q _ wr => ∃ k : Nat, k ≤ free.length ∧ q = .int .i64 k ∧ (∀ j, j < k → packK (zOf l) r i free j = false) ∧ Below w.heap.size w wr) (fun q _ _ => free.length - (intOf q).toNat)
    case atStart => exact ⟨0, Nat.zero_le _, rfl, fun j hj => absurd hj (by omega), Below.refl _ _⟩
    case round =>
      obtain ⟨k, hk, rfl, hall, hbel⟩ := hrel
      have HB := Lib.hid hbel
      have HA := Lib.hid hall
      have z1 := hbel.size
      clear hall
      by_cases hlt : k < free.length
      · obtain ⟨b, off, rfl, hb1, hc0, hc1⟩ := Gro.rd (hr.below hbel (Nat.le_refl _)) hil
        obtain ⟨f, foff, rfl, hb2, hc2⟩ := (hf.below hbel (Nat.le_refl _)).int hlt
        have HRF := Lib.hid ((hf.below hbel (Nat.le_refl _)).mono z1)
        have HRL := Lib.hid ((hr.below hbel (Nat.le_refl _)).mono z1)
        obtain ⟨v0, v1⟩ := HFV.out k hlt
        obtain ⟨s0, s1⟩ := HZ.out i hil
        have l1 : b < wr.heap.size := by omega
        have l2 : f < wr.heap.size := by omega
        have i1 : (i : Int) < l.length := by omega
        have i2 : (k : Int) < free.length := by omega
        have i3 : (k : Int) ≤ fcap := by omega
        clear hbel
        by_cases hq : nth free k < (nth l i).s
        · have H := Lib.hid (show packK (zOf l) r i free k = false by unfold packK; rw [HZI.out, decide_eq_false (by omega)]; rfl)
          go_wp2_with fail
          refine wp_region_mem (by kernel_rfl) (by kernel_rfl) ?_
          repeat (go_big_quiet_step (fail))
          refine wpQuiet_nil ?_
          intro _ hw'
          obtain ⟨⟨wq, hbq⟩, hw''⟩ := hw'
          obtain rfl := hw''.symm
          obtain ⟨hcq, hfq, hzq⟩ := bcell hbq
          try simp [Nat.add_one_le_iff] at hzq
          go_wp2_with fail
          go_roundw
          case rel => exact ⟨k + 1, by omega, by go_num, below_add HA.out H.out, (HB.out.trans (Below.mono (B := wr.heap.size) (by repeat (first | (with_reducible exact Below.refl _ _) | ((with_reducible refine alloc_ ?_ ?_); (focus (first | exact Nat.le_refl _ | (simp; done) | (simp; omega) | omega))) | ((with_reducible refine set_ ?_ ?_); (focus (first | exact Nat.le_refl _ | (simp; done) | (simp; omega) | omega))) | (with_reducible refine Below.drew ?_) | ((with_reducible refine after_ ?_ (by assumption) ?_); (rotate_left; (focus (first | exact Nat.le_refl _ | (simp; done) | (simp; omega) | omega)))))) z1))⟩
          case measure => simp [intOf]; omega
        have hq' : decide (nth free k < (nth l i).s) = false := decide_eq_false hq
        have hhc : ∀ W : World, Below wr.heap.size wr W → Calls Try.prog 66 #[.slice (some ⟨f, foff, none⟩) k fcap, .int .i64 (nth free k)] W fun e w' => e = .returned (.bool (hasI (free.take k) (nth free k))) ∧ W = w' := fun W hW => by
          have := l1Has_c (free.take k) (some ⟨f, foff, none⟩) fcap (nth free k) W (by simp; omega) (((HRF.out.take k).below hW (Nat.le_refl _)).mono hW.size)
          rwa [show (free.take k).length = k by simp; omega] at this
        have HHC := Lib.hid hhc
        clear hhc
        rcases hh : hasI (free.take k) (nth free k) with _ | _
        case true =>
          have H := Lib.hid (show packK (zOf l) r i free k = false by unfold packK; rw [show decide (nth free k ∈ free.take k) = true from hh]; simp)
          go_wp2_with fail
          refine wp_region_mem (by kernel_rfl) (by kernel_rfl) ?_
          repeat (go_big_quiet_step (((go_at_call 66); exact same_bool (HHC.out _ (WIn.ok _)) hh)))
          refine wpQuiet_nil ?_
          intro _ hw'
          obtain ⟨⟨wq, hbq⟩, hw''⟩ := hw'
          obtain rfl := hw''.symm
          obtain ⟨hcq, hfq, hzq⟩ := bcell hbq
          try simp [Nat.add_one_le_iff] at hzq
          go_wp2_with fail
          go_roundw
          case rel => exact ⟨k + 1, by omega, by go_num, below_add HA.out H.out, (HB.out.trans (Below.mono (B := wr.heap.size) (by repeat (first | (with_reducible exact Below.refl _ _) | ((with_reducible refine alloc_ ?_ ?_); (focus (first | exact Nat.le_refl _ | (simp; done) | (simp; omega) | omega))) | ((with_reducible refine set_ ?_ ?_); (focus (first | exact Nat.le_refl _ | (simp; done) | (simp; omega) | omega))) | (with_reducible refine Below.drew ?_) | ((with_reducible refine after_ ?_ (by assumption) ?_); (rotate_left; (focus (first | exact Nat.le_refl _ | (simp; done) | (simp; omega) | omega)))))) z1))⟩
          case measure => simp [intOf]; omega
        go_wp2_with fail
        refine wp_region_mem (by kernel_rfl) (by kernel_rfl) ?_
        repeat (go_big_quiet_step (((go_at_call 66); exact same_bool (HHC.out _ (WIn.ok _)) hh)))
        refine wpQuiet_nil ?_
        intro _ hw'
        obtain ⟨⟨wq, hbq⟩, hw''⟩ := hw'
        obtain rfl := hw''.symm
        obtain ⟨hcq, hfq, hzq⟩ := bcell hbq
        try simp [Nat.add_one_le_iff] at hzq
        have HQ := Lib.hid hbq
        clear hcq hfq hw''
        go_wp2_with fail
        refine (l1Own_r free f foff fcap wq (by omega) (by omega) ((HRF.out.below HQ.out (Nat.le_refl _)).mono HQ.out.size)).mono ?_
        rintro e w1 ⟨g, gc, rfl, hgc, hg, ha, hb3⟩
        have HB3 := Lib.hid (HQ.out.trans (hb3.mono HQ.out.size))
        have HA3 := Lib.hid ha
        have hgw : wr.heap.size ≤ g := Nat.le_trans HQ.out.size hg
        have zg := ha.lt
        clear hb3 ha hbq hc0 hc1 hc2
        go_wp2_with fail
        refine wp_region_tail 13 (by kernel_rfl) (by kernel_rfl) fun wd hbd hcd => ?_
        have HBd := Lib.hid (HB3.out.trans (hbd.mono HB3.out.size))
        have HAd := Lib.hid (HA3.out.carry hbd)
        have hc2 := HAd.out.cell hlt
        have hz2 := HAd.out.frozen k
        obtain ⟨b', off', he, hb1', hc0, hc1⟩ := Gro.rd ((HRL.out.below HBd.out (Nat.le_refl _))) hil
        simp only [Option.some.injEq, Addr.mk.injEq, and_true] at he
        obtain ⟨rfl, rfl⟩ := he
        have s2 : IntKind.i64.wrap (nth free k - (nth l i).s) = nth free k - (nth l i).s := IntWalk.i64_in _ (by omega)
        clear hbd hcd zg
        simp only [List.take_succ_cons, List.take_zero, List.drop_succ_cons, List.drop_zero]
        repeat still_step
        refine wpStill_nil ?_
        clear s2
        have HAs := Lib.hid (HAd.out.set k (nth free k - (nth l i).s))
        have HBs := Lib.hid (HBd.out.setCell (p := ⟨g, k, none⟩) hgw (.int .i64 (nth free k - (nth l i).s)))
        have HFS := Lib.hid (fun j (hj : j < free.length) => HFV.out j hj)
        have hlen : (free.set k (nth free k - (nth l i).s)).length = free.length := List.length_set
        have HN := Lib.hid (IH.out (i + 1) (free.set k (nth free k - (nth l i).s)) (some ⟨g, 0, none⟩) gc _ (by have := HIR.out; omega) ((HRL.out.below HBs.out (Nat.le_refl _)).mono HBs.out.size) HAs.out.rd (by omega) (by omega) (fun j hj => by
          rw [hlen] at hj
          rw [nth_setI hj]
          have := HFV.out j hj
          split <;> omega))
        rw [hlen, show ((i + 1 : Nat) : Int) = (i : Int) + 1 by omega] at HN
        have HK := Lib.hid (show packK (zOf l) r i free k = packF (zOf l) r (i + 1) (free.set k (nth free k - (nth l i).s)) by
          unfold packK; rw [HZI.out, decide_eq_true (show (nth l i).s ≤ nth free k by omega), show decide (nth free k ∈ free.take k) = false from hh]; rfl)
        clear hlen
        go_wp2_with fail
        clear hc0 hc1 hc2 hz2
        refine HN.out.mono ?_
        rintro e w4 ⟨rfl, hb4⟩
        have HB4 := Lib.hid (HB.out.trans ((HBs.out.trans (hb4.mono HBs.out.size)).mono z1))
        clear hb4 HN
        rcases hp : packF (zOf l) r (i + 1) (free.set k (nth free k - (nth l i).s)) with _ | _
        · have H := Lib.hid (HK.out.trans hp)
          go_wp2_with fail
          go_roundw
          case rel => exact ⟨k + 1, by omega, by go_num, below_add HA.out H.out, HB4.out⟩
          case measure => simp [intOf]; omega
        · have H := Lib.hid (packF_yes hlt (HK.out.trans hp))
          go_wp2_with fail
          go_ret
          exact ⟨retb H.out.symm, HB4.out⟩
      · obtain rfl : k = free.length := by omega
        have H := Lib.hid (packF_no HA.out)
        clear hbel
        go_wp2_with fail
        go_ret
        exact ⟨retb H.out.symm, HB.out⟩
def leastP (l : List Gro) (s : Int) : Int × Bool := if fitG l s && decide (l.length ≤ 8) then ((leastN (zOf l) l.length s : Int), true) else (0, false)
theorem retp2 {p : Int × Bool} {a b : Int} {c d : Bool} (h : p = (b, d)) (h1 : a = b) (h2 : c = d) : Ending.returned (.tuple #[.int .i64 a, .bool c]) = .returned (.tuple #[.int .i64 p.1, .bool p.2]) := by rw [h, h1, h2]
set_option maxHeartbeats 800000 in
theorem specLeastCabins_c (l : List Gro) (A : Option Addr) (cap : Nat) (s : Int) (w : World) (hl : l.length ≤ 1048576) (hr : Rd w w.heap.size 2 Gro.cells A l) :
    Calls Try.prog 25 #[.slice A l.length cap, .int .i64 s] w fun e w' => e = .returned (.tuple #[.int .i64 (leastP l s).1, .bool (leastP l s).2]) ∧ Below w.heap.size w w' := by
  rcases hg : fitG l s with _ | _
  · have H := Lib.hid (show leastP l s = (0, false) by simp [leastP, hg])
    go_enter Try.func25, Try.ntmps25
    go_wp2_with fail
    refine (l13Asked_c l _ _ _ _ hl hr).mono ?_
    rintro e w1 ⟨rfl, rfl⟩
    go_wp2_with fail
    go_ret2
    exact ⟨retp2 H.out rfl rfl, Below.refl _ _⟩
  by_cases h8 : l.length ≤ 8
  case neg =>
    have H := Lib.hid (show leastP l s = (0, false) by simp [leastP, h8])
    go_enter Try.func25, Try.ntmps25
    go_wp2_with fail
    refine (l13Asked_c l _ _ _ _ hl hr).mono ?_
    rintro e w1 ⟨rfl, rfl⟩
    go_wp2_with fail
    go_ret2
    exact ⟨retp2 H.out rfl rfl, Below.refl _ _⟩
  have H := Lib.hid (show leastP l s = ((leastN (zOf l) l.length s : Int), true) by simp [leastP, hg, h8])
  obtain ⟨⟨_, hz⟩, ⟨s1, s2⟩, hs⟩ := fitG_true hg
  have HZ := Lib.hid hz
  have HZs := Lib.hid (show ∀ i, i < l.length → zOf l i ≤ s from fun i hi => by rw [zOf_at hi]; exact hs i hi)
  have HZ0 := Lib.hid (zOf_ge hz)
  clear hz hs
  go_enter Try.func25, Try.ntmps25
  go_wp2_with fail
  refine (l13Asked_c l _ _ _ _ hl hr).mono ?_
  rintro e w1 ⟨rfl, rfl⟩
  go_wp2_with fail
  clear hg
  go_loopw [6] (fun v wr => ∃ m : Nat, m ≤ l.length ∧ wr.ownsRow w.heap.size 3 1 v m ((List.replicate m s).map (Value.int .i64)) ∧ (∀ j, j < m → packF (zOf l) l.length 0 (List.replicate j s) = false) ∧ Below w.heap.size w wr) (fun v _ => l.length - (match v with | .slice _ n _ => n | _ => 0))
  case atStart => exact ⟨0, Nat.zero_le _, ownsRow_empty w 3 1, fun j hj => absurd hj (by omega), (by repeat (first | (with_reducible exact Below.refl _ _) | ((with_reducible refine alloc_ ?_ ?_); (focus (first | exact Nat.le_refl _ | (simp; done) | (simp; omega) | omega))) | ((with_reducible refine set_ ?_ ?_); (focus (first | exact Nat.le_refl _ | (simp; done) | (simp; omega) | omega))) | (with_reducible refine Below.drew ?_) | ((with_reducible refine after_ ?_ (by assumption) ?_); (rotate_left; (focus (first | exact Nat.le_refl _ | (simp; done) | (simp; omega) | omega))))))⟩
  case round =>
    obtain ⟨m, hm, hown, hall, hbel⟩ := hrel
    have HB := Lib.hid hbel
    have HO := Lib.hid hown
    have HA := Lib.hid hall
    have z1 := hbel.size
    obtain ⟨F, fcap, rfl⟩ := ownsRow_shape hown
    have hfc := ownsRow_cap hown
    have hof := Own.of_row' hown (l := List.replicate m s) (by simp) (flat_ints _).symm (fun _ => rfl)
    have hcl := l13Pack_c l A cap h8 HZ.out l.length 0 (List.replicate m s) F fcap wr (by omega) ((hr.below hbel (Nat.le_refl _)).mono z1) (hof.rd fun _ => rfl) (by simp; omega) (by simpa using hfc) (fun k hk => by
      rw [List.length_replicate] at hk
      rw [nth_rep hk]; omega)
    rw [List.length_replicate, show ((0 : Nat) : Int) = 0 from rfl] at hcl
    have HCL := Lib.hid hcl
    clear hbel hown hall hof hcl
    go_wp2_with fail
    refine HCL.out.mono ?_
    rintro e w2 ⟨rfl, hb2⟩
    have HB2 := Lib.hid (HB.out.trans (hb2.mono z1))
    have HO2 := Lib.hid (ownsRow_below HO.out hb2)
    have z2 := HB2.out.size
    clear hb2 HCL
    rcases hp : packF (zOf l) l.length 0 (List.replicate m s) with _ | _
    · have hml : m < l.length := by
        rcases Nat.lt_or_ge m l.length with h | h
        · exact h
        · obtain rfl : m = l.length := by omega
          rw [(packF_all HZ0.out (by omega)).2 (PackP.all HZ0.out HZs.out)] at hp
          cases hp
      have HY := Lib.hid (below_add HA.out hp)
      clear hp
      go_wp2_with (at_builtin; refine wpList_push _ rfl (.tmp 21) (.tmp 23) 37 rfl w.heap.size 3 (.int .i64 0) 1 8 Try.underlying37 info_int rfl (by decide) (by decide) _ _ _ rfl (HO2.out.alloc _) w2.heap.size [.int .i64 s] rfl rfl ?c1 ?c2 ?c3 ?c4 ?_)
      try case c1 =>
        intro j u hj
        match j, hj with
        | 0, hj => simp at hj; subst hj; simp [go_sem]
      case c2 => first | rfl | (intro u hu; simp at hu; subst hu; rfl)
      case c3 => omega
      case c4 => first | omega | (simp; omega)
      intro v' w' hown' hb'
      have HO' := Lib.hid hown'
      have HB' := Lib.hid (HB2.out.trans ((((Below.refl _ _).alloc (Nat.le_refl _) _).mono HB2.out.size).trans hb'))
      obtain ⟨F', fcap', rfl⟩ := ownsRow_shape hown'
      clear hown' hb'
      go_wp2_with fail
      go_roundw
      case rel => exact ⟨m + 1, by omega, by rw [List.replicate_succ']; simpa using HO'.out, HY.out, HB'.out⟩
      case measure => simp; omega
    · have HL := Lib.hid (show leastN (zOf l) l.length s = m from leastC_eq hp l.length 0 (Nat.zero_le _) (by omega) fun j _ hj => HA.out j hj)
      go_wp2_with fail
      go_ret2
      exact ⟨retp2 H.out (by rw [HL.out]) rfl, HB2.out⟩
end Go.Proofs.Ytalabohacedgnaa
