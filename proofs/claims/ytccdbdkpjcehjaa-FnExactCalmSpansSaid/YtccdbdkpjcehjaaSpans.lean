/- CalmSpans of the program and of the reference return one Lean function; no conditions but the length. -/
import Derived.Test.YtccdbdkpjcehjaaRecords
import Derived.Test.YtccdbdkpjcehjaaGrow
import Derived.StillTailTactics
import Derived.Deep.RegionWith
import Derived.Deep.RegionHeld3
import Derived.Deep.AppendLies
namespace Go.Proofs.Ytccdbdkpjcehjaa
open Go.RowKit
theorem wpList_pushG {P : Program} (w : World) {ops : Array Oper} {rest : List Oper} {o : Oper} {a : Act} {Q : Exit → Act → World → Prop} (hgd : o.guard = none) (s x : Operand) (t : TypeId)
    (ho : o.op = .call { callee := .builtin .append, args := #[s, x], argTypes := #[t, t] })
    (base : Nat) (e : TypeId) (z : Value) (size bytes : Nat) (ht : P.underlying t = some (.slice e)) (hinfo : (P.info? e).map (fun i => (i.zero, i.size, i.bytes)) = some (some z, size, bytes))
    (hzs : z.cells.size = size) (hsz : 0 < size) (hby : bytes ≤ 1000)
    (v : Value) (n : Nat) (xs : List Value) (hs : a.eval s = v) (hown : w.ownsRow base e size v n xs)
    (b : Nat) (news : List Value) (hx : a.eval x = .slice (some ⟨b, 0, none⟩) 1 1) (hl : news.length = size) (hnews : ∀ j u, news[j]? = some u → w.cell? ⟨b, j, none⟩ = some u) (h1 : ∀ u ∈ news, u.oneCell' = true)
    (hn : n ≤ 10000000) (hbase : base ≤ w.heap.size)
    (h : ∀ v' w', w'.ownsRow base e size v' (n + 1) (xs ++ news) → w.grownBy w' v.ownBlock → Below base w w' → wpList P ops Q rest (a.put o.dst v') w') :
    wpList P ops Q (o :: rest) a w := by
  obtain ⟨i, hi, hzz⟩ := Option.map_eq_some_iff.1 hinfo
  simp only [Prod.mk.injEq] at hzz
  obtain ⟨hz, hsi, hb⟩ := hzz
  have hmul : (n + 1) * bytes ≤ 10000001 * 1000 := Nat.mul_le_mul (by omega) hby
  refine wpList_append_own_at w hgd s x t ho base e i z size bytes ht hi hz hsi hb hzs hsz v n xs hs hown ⟨b, 0, none⟩ 1 1 news hx (by omega) (fun j u hj => ?_) h1 (by unfold maxLen; omega) (by omega) hbase fun v' w' h2 h3 _ _ => h v' w' h2 h3 ((Below.refl _ _).grown h3 hbase fun k hk => ?_)
  · have := hnews j u hj
    unfold Addr.add
    by_cases h0 : j = 0
    · subst h0; simpa using this
    · simpa [h0] using this
  · rcases hown.2 with ⟨rfl, _⟩ | ⟨g, cap, cur, rfl, hg, _⟩
    · simp [Value.ownBlock] at hk
    · simp [Value.ownBlock] at hk; omega
theorem own_far_lt {w : World} {base n b : Nat} {e : TypeId} {v : Value} {xs : List Value} (h : w.ownsRow base e 1 v n xs) (hb : b < base) : some b ≠ v.ownBlock := fun e => by
  rcases h.2 with ⟨rfl, _⟩ | ⟨g', cap, cur, rfl, hg, hh, _⟩
  · simp [Value.ownBlock] at e
  · simp only [Value.ownBlock, Option.some.injEq] at e
    omega
theorem own_below {w w' : World} {base n : Nat} {e : TypeId} {v : Value} {xs : List Value} (h : w.ownsRow base e 1 v n xs) (hb : base ≤ w.heap.size) (hg : w.grownBy w' v.ownBlock) : Below base w w' := (Below.refl _ _).grown hg hb fun k hk => by
  rcases h.2 with ⟨rfl, _⟩ | ⟨g', cap, cur, rfl, hg, hh, _⟩
  · simp [Value.ownBlock] at hk
  · simp only [Value.ownBlock, Option.some.injEq] at hk
    omega
theorem one_news {w : World} {b : Nat} {u : Value} (h : w.cell? ⟨b, 0, none⟩ = some u) : ∀ j v, [u][j]? = some v → w.cell? ((⟨b, 0, none⟩ : Addr).add j) = some v := fun j v hj => by
  match j, hj with
  | 0, hj => simp only [List.getElem?_cons_zero, Option.some.injEq] at hj; subst hj; simpa [Addr.add] using h
theorem rowV_one {g : Nat} : ∀ u ∈ [rowV g], u.oneCell' = true := fun u hu => by simp at hu; subst hu; rfl
theorem markWeatherS_c (l : List Wea) (g cap : Nat) (m : Int) (w : World) (hl : l.length ≤ 1048576) (h0 : 0 ≤ m) (h1 : m ≤ 1000) (hr : Row w g 25 5 Wea.cells l) :
    Calls Try.prog 28 #[.slice (some ⟨g, 0, none⟩) l.length cap, .int .i64 m] w fun e w' => e = .returned (.int .i64 (m + l.length * 5)) ∧ w.grownBy w' (some g) := by
  obtain ⟨f0, hf0, _⟩ := hr
  have HF0 := Lib.hid hf0
  clear hf0
  go_enter Try.func28, Try.ntmps28
  go_wp2_with fail
  go_loopw [1, 5] (fun s i wr => ∃ k : Nat, k ≤ l.length ∧ i = .int .i64 k ∧ s = .int .i64 (m + k * 5) ∧ Mk w wr g 25 (l.length * 5)) (fun _ i _ => l.length - (intOf i).toNat)
  case atStart => exact ⟨0, Nat.zero_le _, rfl, by simp, ⟨_, HF0.out⟩, World.grownBy.refl _ _⟩
  case round =>
    obtain ⟨k, hk, rfl, rfl, hm⟩ := hrel
    have HM := Lib.hid hm
    by_cases hlt : k < l.length
    · obtain ⟨u0, hc0⟩ := hm.cell (s := k * 5) (by omega)
      obtain ⟨u1, hc1⟩ := hm.cell (s := k * 5 + 1) (by omega)
      obtain ⟨u2, hc2⟩ := hm.cell (s := k * 5 + 2) (by omega)
      obtain ⟨u3, hc3⟩ := hm.cell (s := k * 5 + 3) (by omega)
      obtain ⟨u4, hc4⟩ := hm.cell (s := k * 5 + 4) (by omega)
      have hz := hm.frozen
      have e1 : (k : Int) * 5 ≤ 5242880 := by omega
      clear hm
      go_wp2_with fail
      go_roundw
      case rel => exact ⟨k + 1, by omega, by go_num, by go_num, (((((HM.out).set_).set_).set_).set_).set_⟩
      case measure => simp [intOf]; omega
    · obtain rfl : k = l.length := by omega
      clear hm
      go_wp2_with fail
      go_ret
      exact ⟨rfl, HM.out.2⟩
def calmW (x : Wea) (lim : Int) : Bool := !x.s && decide (x.wi ≤ lim)
def runAt (l : List Wea) (lim : Int) (k : Nat) : Bool := decide (0 < k) && calmW (nth l (k - 1)) lim
def spansTo (l : List Wea) (lim : Int) : Nat → List (Int × Int)
  | 0 => []
  | k + 1 => if calmW (nth l k) lim then (if runAt l lim k then lastSet (spansTo l lim k) ((nth (spansTo l lim k) ((spansTo l lim k).length - 1)).1, (nth l k).m) else spansTo l lim k ++ [((nth l k).m, (nth l k).m)]) else spansTo l lim k
theorem spansTo_len {l : List Wea} {lim : Int} : ∀ k, (spansTo l lim k).length ≤ k
  | 0 => Nat.le_refl _
  | k + 1 => by have := spansTo_len (l := l) (lim := lim) k; simp only [spansTo]; split <;> (try split) <;> simp [lastSet] <;> omega
theorem spansTo_pos {l : List Wea} {lim : Int} : ∀ k, runAt l lim k = true → 0 < (spansTo l lim k).length
  | 0, h => by simp [runAt] at h
  | k + 1, h => by
    have hc : calmW (nth l k) lim = true := by simpa [runAt] using h
    simp only [spansTo, hc, if_true]
    split
    · rename_i h2
      have := spansTo_pos k h2
      simp [lastSet]; omega
    · simp
theorem runAt_s {l : List Wea} {lim : Int} {k : Nat} : runAt l lim (k + 1) = calmW (nth l k) lim := by simp [runAt]
def spans (l : List Wea) (lim : Int) : List (Int × Int) × Bool := if goodW l && inR lim 0 600 then (spansTo l lim l.length, true) else ([], false)
def SpansPost (l : List Wea) (lim : Int) (w : World) (e : Ending) (w' : World) : Prop := ∃ A cap, e = .returned (.tuple #[.slice A (spans l lim).1.length cap, .bool (spans l lim).2]) ∧ Spans w' w.heap.size A (spans l lim).1 ∧ Below w.heap.size w w'
theorem implCalmSpans_c (l : List Wea) (lim : Int) (A : Option Addr) (cap : Nat) (w : World) (hl : l.length ≤ 1048576) (hr : Rd w w.heap.size 5 Wea.cells A l) :
    Calls Try.prog 32 #[.slice A l.length cap, .int .i64 lim] w (SpansPost l lim w) := by
  rcases hg : goodW l with _ | _
  · have H := Lib.hid (show spans l lim = ([], false) by simp [spans, hg])
    go_enter Try.func32, Try.ntmps32
    go_wp2_with fail
    refine (AreRecords_c l _ _ _ hl hr).mono ?_
    rintro e w1 ⟨rfl, hb1⟩
    go_wp2_with fail
    go_ret2
    exact ⟨none, 0, retl H.out, by rw [H.out]; exact Spans.nil, hb1⟩
  rcases hq : inR lim 0 600 with _ | _
  · have H := Lib.hid (show spans l lim = ([], false) by simp [spans, hq])
    go_enter Try.func32, Try.ntmps32
    go_wp2_with fail
    refine (AreRecords_c l _ _ _ hl hr).mono ?_
    rintro e w1 ⟨rfl, hb1⟩
    go_wp2_with (go_at_call 37; refine (within_c _ _ _ _).mono ?_; rintro e w' ⟨rfl, rfl⟩)
    go_ret2
    exact ⟨none, 0, retl H.out, by rw [H.out]; exact Spans.nil, hb1⟩
  have H := Lib.hid (show spans l lim = (spansTo l lim l.length, true) by simp [spans, hg, hq])
  go_enter Try.func32, Try.ntmps32
  go_wp2_with fail
  refine (AreRecords_c l _ _ _ hl hr).mono ?_
  rintro e w1 ⟨rfl, hb1⟩
  have hr1 := hr.carry hb1
  have HB1 := Lib.hid hb1
  clear hb1
  go_wp2_with (go_at_call 37; refine (within_c _ _ _ _).mono ?_; rintro e w' ⟨rfl, rfl⟩)
  clear hg hq
  go_loopw [6, 7, 9, 10, 22, 35] (fun v ru _ _ i _ wr => ∃ k : Nat, k ≤ l.length ∧ i = .int .i64 k ∧ ru = .bool (runAt l lim k) ∧ Grow wr w1.heap.size v (spansTo l lim k) ∧ Below w1.heap.size w1 wr) (fun _ _ _ _ i _ _ => l.length - (intOf i).toNat)
  case atStart => exact ⟨0, Nat.zero_le _, rfl, rfl, Grow.empty w1, (by repeat (first | (with_reducible exact Below.refl _ _) | ((with_reducible refine alloc_ ?_ ?_); (focus (first | exact Nat.le_refl _ | (simp; done) | (simp; omega) | omega))) | ((with_reducible refine set_ ?_ ?_); (focus (first | exact Nat.le_refl _ | (simp; done) | (simp; omega) | omega))) | (with_reducible refine Below.drew ?_) | ((with_reducible refine after_ ?_ (by assumption) ?_); (rotate_left; (focus (first | exact Nat.le_refl _ | (simp; done) | (simp; omega) | omega))))))⟩
  case round =>
    obtain ⟨k, hk, rfl, rfl, hgrow, hbel⟩ := hrel
    have HB := Lib.hid hbel
    have HG := Lib.hid hgrow
    have z1 := hbel.size
    by_cases hlt : k < l.length
    · obtain ⟨b, off, rfl, hb1, hcs⟩ := Wea.rd (hr1.below hbel (Nat.le_refl _)) hlt
      have hle := spansTo_len (l := l) (lim := lim) k
      clear hbel hgrow
      rcases hs : (nth l k).s with _ | _
      case true =>
        have hcalm : calmW (nth l k) lim = false := by simp [calmW, hs]
        have HL := Lib.hid (show spansTo l lim (k + 1) = spansTo l lim k by simp [spansTo, hcalm])
        have HR := Lib.hid (show runAt l lim (k + 1) = false by rw [runAt_s, hcalm])
        clear hcalm
        go_wp2_with fail
        go_roundw
        case rel => exact ⟨k + 1, by omega, by go_num, by rw [HR.out], by rw [HL.out]; exact HG.out.carry (by repeat (first | (with_reducible exact Below.refl _ _) | ((with_reducible refine alloc_ ?_ ?_); (focus (first | exact Nat.le_refl _ | (simp; done) | (simp; omega) | omega))) | ((with_reducible refine set_ ?_ ?_); (focus (first | exact Nat.le_refl _ | (simp; done) | (simp; omega) | omega))) | (with_reducible refine Below.drew ?_) | ((with_reducible refine after_ ?_ (by assumption) ?_); (rotate_left; (focus (first | exact Nat.le_refl _ | (simp; done) | (simp; omega) | omega)))))), (HB.out.trans (Below.mono (B := wr.heap.size) (by repeat (first | (with_reducible exact Below.refl _ _) | ((with_reducible refine alloc_ ?_ ?_); (focus (first | exact Nat.le_refl _ | (simp; done) | (simp; omega) | omega))) | ((with_reducible refine set_ ?_ ?_); (focus (first | exact Nat.le_refl _ | (simp; done) | (simp; omega) | omega))) | (with_reducible refine Below.drew ?_) | ((with_reducible refine after_ ?_ (by assumption) ?_); (rotate_left; (focus (first | exact Nat.le_refl _ | (simp; done) | (simp; omega) | omega)))))) z1))⟩
        case measure => simp [intOf]; omega
      by_cases hw : (nth l k).wi ≤ lim
      case neg =>
        have hcalm : calmW (nth l k) lim = false := by simp [calmW, hw]
        have HL := Lib.hid (show spansTo l lim (k + 1) = spansTo l lim k by simp [spansTo, hcalm])
        have HR := Lib.hid (show runAt l lim (k + 1) = false by rw [runAt_s, hcalm])
        clear hcalm
        go_wp2_with fail
        go_roundw
        case rel => exact ⟨k + 1, by omega, by go_num, by rw [HR.out], by rw [HL.out]; exact HG.out.carry (by repeat (first | (with_reducible exact Below.refl _ _) | ((with_reducible refine alloc_ ?_ ?_); (focus (first | exact Nat.le_refl _ | (simp; done) | (simp; omega) | omega))) | ((with_reducible refine set_ ?_ ?_); (focus (first | exact Nat.le_refl _ | (simp; done) | (simp; omega) | omega))) | (with_reducible refine Below.drew ?_) | ((with_reducible refine after_ ?_ (by assumption) ?_); (rotate_left; (focus (first | exact Nat.le_refl _ | (simp; done) | (simp; omega) | omega)))))), (HB.out.trans (Below.mono (B := wr.heap.size) (by repeat (first | (with_reducible exact Below.refl _ _) | ((with_reducible refine alloc_ ?_ ?_); (focus (first | exact Nat.le_refl _ | (simp; done) | (simp; omega) | omega))) | ((with_reducible refine set_ ?_ ?_); (focus (first | exact Nat.le_refl _ | (simp; done) | (simp; omega) | omega))) | (with_reducible refine Below.drew ?_) | ((with_reducible refine after_ ?_ (by assumption) ?_); (rotate_left; (focus (first | exact Nat.le_refl _ | (simp; done) | (simp; omega) | omega)))))) z1))⟩
        case measure => simp [intOf]; omega
      have hcalm : calmW (nth l k) lim = true := by simp [calmW, hs, hw]
      have HR := Lib.hid (show runAt l lim (k + 1) = true by rw [runAt_s, hcalm])
      rcases hrun : runAt l lim k with _ | _
      · have HL := Lib.hid (show spansTo l lim (k + 1) = spansTo l lim k ++ [((nth l k).m, (nth l k).m)] by simp [spansTo, hcalm, hrun])
        clear hcalm
        obtain ⟨gs, g1, g2, g3, g4⟩ := HG.out
        have G3 := Lib.hid g3
        have G4 := Lib.hid g4
        have G2 := Lib.hid g2
        clear g3 g4 g2
        go_wp2_with (first
          | (at_builtin; refine wpList_pushG _ rfl _ _ 49 rfl w1.heap.size 43 (.slice none 0 0) 1 24 Try.underlying49 info_ints rfl (by decide) (by decide) _ _ _ rfl (((G2.out.alloc _).alloc _).alloc _) (wr.heap.size + 2) [rowV (wr.heap.size + 1)] rfl rfl ?c1 ?c2 ?c3 ?c4 ?_))
        case c1 =>
          intro j u hj
          match j, hj with
          | 0, hj => simp at hj; subst hj; simp [go_sem, rowV]
        case c2 => intro u hu; simp at hu; subst hu; rfl
        case c3 => omega
        case c4 => simp; omega
        intro v' w' hown' hgr' hb'
        have HO' := Lib.hid (Grow.pushed (p := ((nth l k).m, (nth l k).m)) g1 (((G2.out.alloc _).alloc _).alloc _) (fun i hi => ⟨(G3.out i hi).1, (((G3.out i hi).2.carry ((Below.refl _ _).alloc (Nat.le_refl _) _)).carry ((Below.refl _ _).alloc (Nat.le_refl _) _)).carry ((Below.refl _ _).alloc (Nat.le_refl _) _)⟩) G4.out
          ((new_pair _ _ _ (by simp)).carry ((Below.refl _ _).alloc (Nat.le_refl _) _)) (fun i hi => by have := (G3.out i hi).2.lt; omega) (by omega) hown' hgr')
        have HB' := Lib.hid (HB.out.trans ((((Below.refl _ _).alloc (Nat.le_refl _) _).alloc (by simp) _ |>.alloc (by simp; omega) _ |>.mono z1).trans hb'))
        clear hown' hb' hgr'
        go_wp2_with fail
        go_roundw
        case rel => exact ⟨k + 1, by omega, by go_num, by rw [HR.out], by rw [HL.out]; exact HO'.out, HB'.out⟩
        case measure => simp [intOf]; omega
      · have HL := Lib.hid (show spansTo l lim (k + 1) = lastSet (spansTo l lim k) ((nth (spansTo l lim k) ((spansTo l lim k).length - 1)).1, (nth l k).m) by simp [spansTo, hcalm, hrun])
        have hpos := spansTo_pos k hrun
        obtain ⟨n, hn⟩ : ∃ n, (spansTo l lim k).length = n + 1 := ⟨(spansTo l lim k).length - 1, by omega⟩
        obtain ⟨G, g, cap2, rfl, q1, q2, q3, q4, c1, f1, c2, c3, f2, hset, _⟩ := HG.out.last hn
        rw [show (spansTo l lim k).length - 1 = n by omega] at HL
        have HS := Lib.hid hset
        have f3 := f2 1
        have q5 : G ≠ wr.heap.size := by omega
        have q6 : g ≠ wr.heap.size := by omega
        have i1 : (0 : Int) ≤ (n : Int) := by omega
        have i2 : (n : Int) < (n : Int) + 1 := by omega
        have wj := wrapNat (show n ≤ 9000000 by omega)
        unfold rowV at c1
        clear hcalm hset f1 f2 hpos hn
        go_wp2_with fail
        refine wp_region_tail 9 (by kernel_rfl) (by kernel_rfl) fun wd hbd hcd => ?_
        have HD := Lib.hid (((Below.refl _ _).alloc (Nat.le_refl _) _ : Below wr.heap.size wr (wr.alloc _)).trans (hbd.mono (by simp)))
        have d0 : wd.cell? ⟨wr.heap.size, 0, none⟩ = some (.int .i64 (nth l k).m) := by rw [hcd]; simp [go_sem]
        clear hbd hcd
        have d1 := (HD.out.cell (p := ⟨G, n, none⟩) q3).trans c1
        have d2 := (HD.out.cell (p := ⟨g, 1, none⟩) q4).trans c3
        have d3 := (HD.out.frozen (p := ⟨g, 1, none⟩) q4).trans f3
        simp only [List.take_succ_cons, List.take_zero, List.drop_succ_cons, List.drop_zero]
        repeat still_step
        refine wpStill_nil ?_
        go_wp2_with fail
        go_roundw
        case rel => exact ⟨k + 1, by omega, by go_num, by rw [HR.out], by rw [HL.out]; exact HS.out _ _ HD.out, HB.out.trans ((HD.out.mono z1).setCell q2 _)⟩
        case measure => simp [intOf]; omega
    · obtain rfl : k = l.length := by omega
      clear hbel
      obtain ⟨A', cap', rfl⟩ := hgrow.shape
      clear hgrow
      go_wp2_with fail
      go_ret2
      exact ⟨A', cap', retl H.out, by rw [H.out]; exact HG.out.spans.less HB1.out.size, HB1.out.trans (HB.out.mono HB1.out.size)⟩
set_option maxHeartbeats 1600000 in
theorem specCalmSpans_c (l : List Wea) (lim : Int) (A : Option Addr) (cap : Nat) (w : World) (hl : l.length ≤ 1048576) (hr : Rd w w.heap.size 5 Wea.cells A l) :
    Calls Try.prog 31 #[.slice A l.length cap, .int .i64 lim] w (SpansPost l lim w) := by
  rcases hg : goodW l with _ | _
  · have H := Lib.hid (show spans l lim = ([], false) by simp [spans, hg])
    go_enter Try.func31, Try.ntmps31
    go_wp2_with fail
    refine (l17Good_c l _ _ _ hl (hr.alloc _)).mono ?_
    rintro e w1 ⟨rfl, hb1⟩
    go_wp2_with fail
    go_ret2
    exact ⟨_, 0, retl H.out, by rw [H.out]; exact Spans.nil, (by repeat (first | (with_reducible exact Below.refl _ _) | ((with_reducible refine alloc_ ?_ ?_); (focus (first | exact Nat.le_refl _ | (simp; done) | (simp; omega) | omega))) | ((with_reducible refine set_ ?_ ?_); (focus (first | exact Nat.le_refl _ | (simp; done) | (simp; omega) | omega))) | (with_reducible refine Below.drew ?_) | ((with_reducible refine after_ ?_ (by assumption) ?_); (rotate_left; (focus (first | exact Nat.le_refl _ | (simp; done) | (simp; omega) | omega))))))⟩
  rcases hq : inR lim 0 600 with _ | _
  · have H := Lib.hid (show spans l lim = ([], false) by simp [spans, hq])
    go_enter Try.func31, Try.ntmps31
    go_wp2_with fail
    refine (l17Good_c l _ _ _ hl (hr.alloc _)).mono ?_
    rintro e w1 ⟨rfl, hb1⟩
    go_wp2_with (go_at_call 42; refine (l17Wind_c _ _).mono ?_; rintro e w' ⟨rfl, rfl⟩)
    go_ret2
    exact ⟨_, 0, retl H.out, by rw [H.out]; exact Spans.nil, (by repeat (first | (with_reducible exact Below.refl _ _) | ((with_reducible refine alloc_ ?_ ?_); (focus (first | exact Nat.le_refl _ | (simp; done) | (simp; omega) | omega))) | ((with_reducible refine set_ ?_ ?_); (focus (first | exact Nat.le_refl _ | (simp; done) | (simp; omega) | omega))) | (with_reducible refine Below.drew ?_) | ((with_reducible refine after_ ?_ (by assumption) ?_); (rotate_left; (focus (first | exact Nat.le_refl _ | (simp; done) | (simp; omega) | omega))))))⟩
  have H := Lib.hid (show spans l lim = (spansTo l lim l.length, true) by simp [spans, hg, hq])
  go_enter Try.func31, Try.ntmps31
  go_wp2_with fail
  refine (l17Good_c l _ _ _ hl (hr.alloc _)).mono ?_
  rintro e w1 ⟨rfl, hb1⟩
  have HB1 : Below w.heap.size w w1 := (by repeat (first | (with_reducible exact Below.refl _ _) | ((with_reducible refine alloc_ ?_ ?_); (focus (first | exact Nat.le_refl _ | (simp; done) | (simp; omega) | omega))) | ((with_reducible refine set_ ?_ ?_); (focus (first | exact Nat.le_refl _ | (simp; done) | (simp; omega) | omega))) | (with_reducible refine Below.drew ?_) | ((with_reducible refine after_ ?_ (by assumption) ?_); (rotate_left; (focus (first | exact Nat.le_refl _ | (simp; done) | (simp; omega) | omega))))))
  have HO1 := Lib.hid ((Grow.empty w).carry hb1)
  have hz1 := HB1.size
  clear hb1
  go_wp2_with (go_at_call 42; refine (l17Wind_c _ _).mono ?_; rintro e w' ⟨rfl, rfl⟩)
  clear hg hq
  go_loopw [6, 7, 8, 9, 10] (fun v ru i _ _ wr => ∃ k : Nat, k ≤ l.length ∧ i = .int .i64 k ∧ ru = .bool (runAt l lim k) ∧ Grow wr w.heap.size v (spansTo l lim k) ∧ Below w.heap.size w wr) (fun _ _ i _ _ _ => l.length - (intOf i).toNat)
  case atStart => exact ⟨0, Nat.zero_le _, rfl, rfl, HO1.out, HB1⟩
  case round =>
    obtain ⟨k, hk, rfl, rfl, hgrow, hbel⟩ := hrel
    have HB := Lib.hid hbel
    have HG := Lib.hid hgrow
    have z1 := hbel.size
    by_cases hlt : k < l.length
    · obtain ⟨b, off, rfl, hb1, hcs⟩ := Wea.rd (hr.below hbel (Nat.le_refl _)) hlt
      have hle := spansTo_len (l := l) (lim := lim) k
      have i1 : (0 : Int) ≤ (k : Int) := by omega
      have i2 : (k : Int) < l.length := by omega
      clear hbel hgrow
      rcases hs : (nth l k).s with _ | _
      case true =>
        have hcalm : calmW (nth l k) lim = false := by simp [calmW, hs]
        have HL := Lib.hid (show spansTo l lim (k + 1) = spansTo l lim k by simp [spansTo, hcalm])
        have HR := Lib.hid (show runAt l lim (k + 1) = false by rw [runAt_s, hcalm])
        clear hcalm
        obtain ⟨A3, cap3, rfl⟩ := HG.out.shape
        go_wp2_with fail
        go_roundw
        case rel => exact ⟨k + 1, by omega, by go_num, by rw [HR.out], by rw [HL.out]; exact HG.out.carry (by repeat (first | (with_reducible exact Below.refl _ _) | ((with_reducible refine alloc_ ?_ ?_); (focus (first | exact Nat.le_refl _ | (simp; done) | (simp; omega) | omega))) | ((with_reducible refine set_ ?_ ?_); (focus (first | exact Nat.le_refl _ | (simp; done) | (simp; omega) | omega))) | (with_reducible refine Below.drew ?_) | ((with_reducible refine after_ ?_ (by assumption) ?_); (rotate_left; (focus (first | exact Nat.le_refl _ | (simp; done) | (simp; omega) | omega)))))), (HB.out.trans (Below.mono (B := wr.heap.size) (by repeat (first | (with_reducible exact Below.refl _ _) | ((with_reducible refine alloc_ ?_ ?_); (focus (first | exact Nat.le_refl _ | (simp; done) | (simp; omega) | omega))) | ((with_reducible refine set_ ?_ ?_); (focus (first | exact Nat.le_refl _ | (simp; done) | (simp; omega) | omega))) | (with_reducible refine Below.drew ?_) | ((with_reducible refine after_ ?_ (by assumption) ?_); (rotate_left; (focus (first | exact Nat.le_refl _ | (simp; done) | (simp; omega) | omega)))))) z1))⟩
        case measure => simp [intOf]; omega
      by_cases hw : (nth l k).wi ≤ lim
      case neg =>
        have hcalm : calmW (nth l k) lim = false := by simp [calmW, hw]
        have HL := Lib.hid (show spansTo l lim (k + 1) = spansTo l lim k by simp [spansTo, hcalm])
        have HR := Lib.hid (show runAt l lim (k + 1) = false by rw [runAt_s, hcalm])
        clear hcalm
        obtain ⟨A3, cap3, rfl⟩ := HG.out.shape
        go_wp2_with fail
        go_roundw
        case rel => exact ⟨k + 1, by omega, by go_num, by rw [HR.out], by rw [HL.out]; exact HG.out.carry (by repeat (first | (with_reducible exact Below.refl _ _) | ((with_reducible refine alloc_ ?_ ?_); (focus (first | exact Nat.le_refl _ | (simp; done) | (simp; omega) | omega))) | ((with_reducible refine set_ ?_ ?_); (focus (first | exact Nat.le_refl _ | (simp; done) | (simp; omega) | omega))) | (with_reducible refine Below.drew ?_) | ((with_reducible refine after_ ?_ (by assumption) ?_); (rotate_left; (focus (first | exact Nat.le_refl _ | (simp; done) | (simp; omega) | omega)))))), (HB.out.trans (Below.mono (B := wr.heap.size) (by repeat (first | (with_reducible exact Below.refl _ _) | ((with_reducible refine alloc_ ?_ ?_); (focus (first | exact Nat.le_refl _ | (simp; done) | (simp; omega) | omega))) | ((with_reducible refine set_ ?_ ?_); (focus (first | exact Nat.le_refl _ | (simp; done) | (simp; omega) | omega))) | (with_reducible refine Below.drew ?_) | ((with_reducible refine after_ ?_ (by assumption) ?_); (rotate_left; (focus (first | exact Nat.le_refl _ | (simp; done) | (simp; omega) | omega)))))) z1))⟩
        case measure => simp [intOf]; omega
      have hcalm : calmW (nth l k) lim = true := by simp [calmW, hs, hw]
      have HR := Lib.hid (show runAt l lim (k + 1) = true by rw [runAt_s, hcalm])
      rcases hrun : runAt l lim k with _ | _
      · have HL := Lib.hid (show spansTo l lim (k + 1) = spansTo l lim k ++ [((nth l k).m, (nth l k).m)] by simp [spansTo, hcalm, hrun])
        clear hcalm
        obtain ⟨A3, cap3, rfl⟩ := HG.out.shape
        obtain ⟨gs, g1, g2, g3, g4⟩ := HG.out
        have G3 := Lib.hid g3
        have G4 := Lib.hid g4
        have G2 := Lib.hid g2
        clear g3 g4 g2
        go_wp2_with fail
        obtain ⟨d0, _⟩ := hcs
        obtain ⟨i9, hi9, hj9⟩ := Option.map_eq_some_iff.1 info_ints
        simp only [Prod.mk.injEq] at hj9
        have I9 := Lib.hid hi9
        have J9 := Lib.hid hj9
        have q3 : b ≠ wr.heap.size := by omega
        have q4 : b < wr.heap.size := by omega
        have q9 := own_far_lt G2.out hb1
        clear hi9 hj9
        go_region_held3 (fun w' : World => w'.cell? ⟨b, off + k * 5, none⟩ = some (.int .i64 (nth l k).m)) (first | assumption | (simp [go_sem, *]; done)) (first
          | (refine step_append_lies _ rfl _ _ 49 rfl w.heap.size 43 i9 (.slice none 0 0) 1 24 Try.underlying49 I9.out J9.out.1 J9.out.2.1 J9.out.2.2 rfl (by decide) _ _ _ rfl ((G2.out.alloc _).alloc _) ⟨wr.heap.size + 1, 0, none⟩ 1 1 [rowV wr.heap.size] rfl rfl (one_news (by simp [go_sem, rowV])) rowV_one (by decide) (by unfold maxLen; omega) (by omega) (by simp; omega) _ rfl ?_; intro g' cap' w' hown' hgr' hat' hlt'; have hkeep := (hgr'.cell_far ⟨b, off + k * 5, none⟩ (by simp; omega) q9).trans (show _ = some (Value.int .i64 (nth l k).m) by simp [go_sem, d0, q4]; done)))
        have hg2 : World.grownBy _ w' (Value.slice A3 (spansTo l lim k).length cap3).ownBlock := hgr'
        have hb9 := ((Below.refl wr.heap.size wr).alloc (Nat.le_refl _) (.cells #[Value.int .i64 (nth l k).m, Value.int .i64 (nth l k).m] 3)).alloc (by simp) (.cells #[rowV wr.heap.size] 43) |>.drew
        have HO' := Lib.hid (Grow.pushed (p := ((nth l k).m, (nth l k).m)) g1 (ownsRow_below G2.out hb9) (fun i hi => ⟨(G3.out i hi).1, (G3.out i hi).2.carry hb9⟩) G4.out
          ((new_pair wr ((nth l k).m, (nth l k).m) _ rfl).carry ((Below.refl _ _).alloc (Nat.le_refl _) _).drew) (fun i hi => (G3.out i hi).2.lt) z1 hown' hg2)
        have HB' := Lib.hid (HB.out.trans ((hb9.mono z1).trans (own_below (ownsRow_below G2.out hb9) (Nat.le_trans z1 hb9.size) hg2)))
        clear hb9 hg2
        clear hown' hgr'
        go_wp2_with fail
        go_roundw
        case rel => exact ⟨k + 1, by omega, by go_num, by rw [HR.out], by rw [HL.out]; exact HO'.out, HB'.out⟩
        case measure => simp [intOf]; omega
      · have HL := Lib.hid (show spansTo l lim (k + 1) = lastSet (spansTo l lim k) ((nth (spansTo l lim k) ((spansTo l lim k).length - 1)).1, (nth l k).m) by simp [spansTo, hcalm, hrun])
        have hpos := spansTo_pos k hrun
        obtain ⟨n, hn⟩ : ∃ n, (spansTo l lim k).length = n + 1 := ⟨(spansTo l lim k).length - 1, by omega⟩
        obtain ⟨G, g, cap2, rfl, q1, q2, q3, q4, c1, f1, c2, c3, f2, _, hset⟩ := HG.out.last hn
        rw [show (spansTo l lim k).length - 1 = n by omega] at HL
        have HS := Lib.hid hset
        have HF := Lib.hid f1
        have q5 : G ≠ wr.heap.size := by omega
        have q6 : g ≠ wr.heap.size := by omega
        have i3 : (0 : Int) ≤ (n : Int) := by omega
        have i4 : (n : Int) < (n : Int) + 1 := by omega
        have wj := wrapNat (show n ≤ 9000000 by omega)
        unfold rowV at c1
        clear hcalm hset f1 f2 hpos hn
        go_wp2_with fail
        obtain ⟨d0, _⟩ := hcs
        have f4 := HF.out n
        have q7 : b ≠ wr.heap.size := by omega
        have q8 : b < wr.heap.size := by omega
        have hz := HS.out (wr.alloc (.cells #[Value.int .i64 (nth (spansTo l lim k) n).1, Value.int .i64 (nth l k).m] 3)) wr.heap.size ((nth (spansTo l lim k) n).1, (nth l k).m) ((Below.refl _ _).alloc (Nat.le_refl _) _) (Nat.le_refl _) (new_pair wr ((nth (spansTo l lim k) n).1, (nth l k).m) _ rfl)
        rw [World.setCell_alloc_past _ _ _ _ q3] at hz
        have HZ := Lib.hid hz
        have hy := (Below.refl w.heap.size wr).setCell (p := ⟨G, n, none⟩) q1 (rowV wr.heap.size)
        have HY := Lib.hid (hy.alloc (Nat.le_trans z1 hy.size) (.cells #[Value.int .i64 (nth (spansTo l lim k) n).1, Value.int .i64 (nth l k).m] 3))
        clear hz hy
        go_region_with (fail)
        all_goals go_wp2_with fail
        all_goals go_roundw
        all_goals first
          | exact ⟨k + 1, by omega, by go_num, by rw [HR.out], by rw [HL.out]; exact HZ.out, HB.out.trans HY.out.drew⟩
          | exact ⟨k + 1, by omega, by go_num, by rw [HR.out], by rw [HL.out]; exact HZ.out, HB.out.trans HY.out.drew.drew⟩
          | (simp [intOf]; omega)
    · obtain rfl : k = l.length := by omega
      clear hbel
      obtain ⟨A', cap', rfl⟩ := hgrow.shape
      clear hgrow
      go_wp2_with fail
      go_ret2
      exact ⟨A', cap', retl H.out, by rw [H.out]; exact HG.out.spans, HB.out⟩
end Go.Proofs.Ytccdbdkpjcehjaa
