/- slices.Clone and slices.Insert of one damage into a list of the call's own; no conditions beyond the length. -/
import Derived.Test.YtlgpgcfncmomiaaDamFlat
import Derived.Test.YtlgpgcfncmomiaaCopyK
import Derived.Lib.AppendZerosOnto
import Derived.Lib.Overlaps
import Derived.WalkSpells
import Derived.Deep.RegionLaw
namespace Go.Proofs.Ytlgpgcfncmomiaa
open Go.RowKit Go.Lib

/-- What a call hands back: a list of damages that owns its block from base on. -/
def OwnsD (base : Nat) (l : List Dam) (w : World) (e : Ending) (w' : World) : Prop := ∃ A cap, e = .returned (.slice A l.length cap) ∧ w'.ownsRow base 28 3 (.slice A l.length cap) l.length (flat Dam.cells l) ∧ Below base w w'
theorem clone_c (l : List Dam) (b off cap : Nat) (w : World) (hl : l.length ≤ 1048576) (hr : Rd w w.heap.size 3 Dam.cells (some ⟨b, off, none⟩) l) :
    Calls Try.prog 23 #[.slice (some ⟨b, off, none⟩) l.length cap] w (OwnsD w.heap.size l w) := by
  have hnil := @Lib.run_eql_slice_nil Try.prog
  have HR := Lib.hid hr
  clear hr
  go_enter Try.func23, Try.ntmps23
  go_wp2_with (refine wpList_extend _ rfl (.tmp 5) (.tmp 6) 26 rfl w.heap.size 28 _ 3 24 Try.underlying26 info_Damage rfl (by decide) (by decide) _ 0 [] rfl (ownsRow_empty w 28 3) b off l.length cap (flat Dam.cells l) rfl (flat_len Dam.three l) (HR.out.news (by repeat (first | (with_reducible exact Below.refl _ _) | ((with_reducible refine alloc_ ?_ ?_); (focus (first | exact Nat.le_refl _ | (simp; done) | (simp; omega) | omega))) | ((with_reducible refine set_ ?_ ?_); (focus (first | exact Nat.le_refl _ | (simp; done) | (simp; omega) | omega))) | (with_reducible refine Below.drew ?_) | ((with_reducible refine after_ ?_ (by assumption) ?_); (rotate_left; (focus (first | exact Nat.le_refl _ | (simp; done) | (simp; omega) | omega)))))) Dam.three (by decide)) (flat_cells Dam.ones l) (by omega) (by simp) ?_; intro v w1 hown hb1 hk1)
  rw [List.nil_append, Nat.zero_add] at hown
  obtain ⟨A, gc, rfl⟩ := ownsRow_shape hown
  have HO := Lib.hid hown
  have HB := Lib.hid (show Below w.heap.size w w1 from (by repeat (first | (with_reducible exact Below.refl _ _) | ((with_reducible refine alloc_ ?_ ?_); (focus (first | exact Nat.le_refl _ | (simp; done) | (simp; omega) | omega))) | ((with_reducible refine set_ ?_ ?_); (focus (first | exact Nat.le_refl _ | (simp; done) | (simp; omega) | omega))) | (with_reducible refine Below.drew ?_) | ((with_reducible refine after_ ?_ (by assumption) ?_); (rotate_left; (focus (first | exact Nat.le_refl _ | (simp; done) | (simp; omega) | omega)))))))
  clear hown hb1 hk1 hnil
  go_wp2_with fail
  go_ret
  exact ⟨A, gc, rfl, HO.out, HB.out⟩
theorem room_size {l : List Dam} {x : Dam} {k : Nat} (h : k ≤ l.length) : (l.take k ++ [x] ++ l.drop k).length = l.length + 1 := by
  simp only [List.length_append, List.length_take, List.length_drop, List.length_cons, List.length_nil]; omega
theorem insert_end (l : List Dam) (x : Dam) (A : Option Addr) (cap vb base : Nat) (w : World) (hl : l.length ≤ 1000) (hown : w.ownsRow base 28 3 (.slice A l.length cap) l.length (flat Dam.cells l))
    (hv : w.heap[vb]? = some (.cells x.cells.toArray 28 (0, 0))) (hbase : base ≤ w.heap.size) :
    Calls Try.prog 26 #[.slice A l.length cap, .int .i64 l.length, .slice (some ⟨vb, 0, none⟩) 1 1] w (OwnsD base (l ++ [x]) w) := by
  have HO := Lib.hid hown
  have HV := Lib.hid hv
  have hz : ((1 : Int) == 0) = false := rfl
  have hz2 : ((l.length : Int) == l.length) = true := by simp
  clear hown hv
  by_cases hc : cap = l.length
  case' pos => subst hc
  all_goals
    go_enter Try.func26, Try.ntmps26
    go_wp2_with (refine wpList_extend _ rfl (.tmp 23) (.tmp 24) 26 rfl base 28 _ 3 24 Try.underlying26 info_Damage rfl (by decide) (by decide) _ _ _ rfl HO.out vb 0 1 1 (flat Dam.cells [x]) rfl (flat_len Dam.three [x]) (by rw [flat_one]; exact news_one HV.out) (flat_cells Dam.ones [x]) (by omega) hbase ?_; intro v1 w1 hown1 hb1 hk1)
    rw [flat_app] at hown1
    obtain ⟨A', gc, rfl⟩ := ownsRow_shape hown1
    have HO1 := Lib.hid hown1
    have HB := Lib.hid hb1
    clear hown1 hb1 hk1
    go_wp2_with fail
    go_ret
    exact ⟨A', gc, by simp, by simpa using HO1.out, HB.out⟩
/-- The cells behind two copies. -/
theorem two_grow {α : Type} {p t d z1 z2 z3 : List α} {a n : Nat} (ha : a = p.length) (h1 : z1.length = t.length) (hn : n = p.length + t.length) (h2 : z2.length = d.length) : splice (splice (p ++ (z1 ++ (z2 ++ z3))) a t) n d = p ++ (t ++ (d ++ z3)) := by
  rw [splice_at h1 ha, ← List.append_assoc, splice_at (P := p ++ t) h2 (by rw [List.length_append]; exact hn), List.append_assoc]
theorem info_size : (Try.prog.info? 28).map (fun i => i.size) = some 3 := by kernel_rfl
theorem cut3 {Z : List Value} {d : Nat} (h : Z.length = (d + 1) * 3) : ∃ z1 z2 : List Value, Z = z1 ++ z2 ∧ z1.length = 3 ∧ z2.length = d * 3 :=
  ⟨Z.take 3, Z.drop 3, (List.take_append_drop 3 Z).symm, by rw [List.length_take]; omega, by rw [List.length_drop]; omega⟩
/-- A row of the call's own, as a block that is known whole. -/
theorem owns_block {w : World} {base g cap n : Nat} {e : TypeId} {xs : List Value} (h : w.ownsRow base e 3 (.slice (some ⟨g, 0, none⟩) n cap) n xs) : ∃ rest : List Value, w.heap[g]? = some (.cells (xs ++ rest).toArray e (0, 0)) ∧ xs.length = n * 3 ∧ (xs ++ rest).length = cap * 3 ∧ n ≤ cap ∧ cap ≤ maxLen ∧ base ≤ g := by
  obtain ⟨hx, ⟨h1, _⟩ | ⟨g', cap', cur, h1, hg, hh, hnc, hmax, hcs, htk⟩⟩ := h
  · cases h1
  · injection h1 with h2 h3 h4
    injection h2 with h2
    injection h2 with h2
    subst h2 h4
    refine ⟨cur.toList.drop (n * 3), ?_, hx, ?_, hnc, hmax, hg⟩
    · rw [← htk, List.take_append_drop]; exact hh
    · rw [← htk, List.take_append_drop]; simpa using hcs
theorem owns_of_block {w : World} {base g cap n : Nat} {e : TypeId} {xs rest : List Value} (h : w.heap[g]? = some (.cells (xs ++ rest).toArray e (0, 0))) (h1 : xs.length = n * 3) (h2 : (xs ++ rest).length = cap * 3) (h3 : n ≤ cap) (h4 : cap ≤ maxLen) (h5 : base ≤ g) : w.ownsRow base e 3 (.slice (some ⟨g, 0, none⟩) n cap) n xs :=
  ⟨h1, .inr ⟨g, cap, _, rfl, h5, h, h3, h4, by simpa using h2, by simp [← h1]⟩⟩
theorem block_news {w : World} {g : Nat} {e : TypeId} {a b c : List Value} {n : Nat} (h : w.heap[g]? = some (.cells (a ++ (b ++ c)).toArray e (0, 0))) (hn : n = a.length) : ∀ j u, b[j]? = some u → w.cell? ((⟨g, n, none⟩ : Addr).add j) = some u := fun j u hj => by
  subst hn
  have hlt := (List.getElem?_eq_some_iff.1 hj).1
  have e1 : (⟨g, a.length, none⟩ : Addr).add j = ⟨g, a.length + j, none⟩ := by unfold Addr.add; split <;> simp_all
  rw [e1, cell_of_row w g _ _ e (0, 0) h]
  simp only [List.getElem?_toArray]
  rw [List.getElem?_append_right (by omega), Nat.add_sub_cancel_left, List.getElem?_append_left hlt, hj]
theorem insert_run (p : List Value) (a d g : Nat) (w : World) (hp : p.length = a * 3) (hl : a + d ≤ 1000) (rest : List Value) (hg : w.heap[g]? = some (.cells (p ++ rest).toArray 28 (0, 0))) :
    ∃ (c : Nat) (z1 z2 z3 : List Value), a + d + 1 ≤ c ∧ c ≤ maxLen ∧ z1.length = 3 ∧ z2.length = d * 3 ∧ (p ++ (z1 ++ (z2 ++ z3))).length = c * 3 ∧
      (Builtin.append_ #[26, 3] 26 #[.slice (some ⟨g, 0, none⟩) a (a + d), .int .i64 ((a : Int) + d + 1 - a)]).run Try.prog w = .ok (.slice (some ⟨w.heap.size, 0, none⟩) (a + d + 1) c) (w.drew.alloc (.cells (p ++ (z1 ++ (z2 ++ z3))).toArray 28)) := by
  obtain ⟨i, hi, hz, hs, hb⟩ := info_parts info_Damage
  have hn : Builtin.nextslicecap (a + (d + 1)) (a + d) ≤ 2 * (a + (d + 1)) := nextslicecap_le (by omega)
  have hold : (Builtin.firstCells i.size a (.slice (some ⟨g, 0, none⟩) a (a + d))).run Try.prog w.drew = .ok p.toArray w.drew := by
    have h := run_loadCells_list (P := Try.prog) w.drew ⟨g, 0, none⟩ p (fun j u hj => block_news (a := []) (n := 0) (w := w.drew) hg rfl j u hj)
    rw [hp] at h
    simpa [Builtin.firstCells, hs] using h
  have hrun := run_append_grow_zeros (P := Try.prog) w 26 3 26 28 i _ .i64 .i64 Try.underlying26 Try.underlying3 hi hz (some ⟨g, 0, none⟩) a (a + d) p hold (d + 1) (by omega) (by omega) (by omega) (by omega) (by rw [hb]; omega) (by rw [hb]; omega)
  have hge := grownCap_ge w (a + (d + 1)) (a + d) 28
  have hle := grownCap_le_maxLen w (a + (d + 1)) (a + d) 28 (by unfold maxLen; omega)
  obtain ⟨c, hc⟩ : ∃ c, grownCap w (a + (d + 1)) (a + d) 28 = c := ⟨_, rfl⟩
  rw [hc] at hrun hge hle
  obtain ⟨z1, z2, hZ, h1, h2⟩ := cut3 (Z := (Builtin.zeroCells (Value.agg #[.int .i64 0, .int .i64 0, .int .i64 0]).cells (d + 1)).toList) (d := d) (by rw [Array.length_toList, size_zeroCells]; rfl)
  refine ⟨c, z1, z2, (Builtin.zeroCells (Value.agg #[.int .i64 0, .int .i64 0, .int .i64 0]).cells (c - (a + (d + 1)))).toList, by omega, hle, h1, h2, ?_, ?_⟩
  · simp only [List.length_append, Array.length_toList, size_zeroCells, hp, h1, h2, show (Value.agg #[.int .i64 0, .int .i64 0, .int .i64 0]).cells.size = 3 from rfl]; omega
  · have hA : p.toArray ++ Builtin.zeroCells (Value.agg #[.int .i64 0, .int .i64 0, .int .i64 0]).cells (d + 1) ++ Builtin.zeroCells (Value.agg #[.int .i64 0, .int .i64 0, .int .i64 0]).cells (c - (a + (d + 1))) = (p ++ (z1 ++ (z2 ++ (Builtin.zeroCells (Value.agg #[.int .i64 0, .int .i64 0, .int .i64 0]).cells (c - (a + (d + 1)))).toList))).toArray := by
      apply Array.ext'
      simp only [Array.toList_append, List.append_assoc]
      rw [hZ, List.append_assoc]
    rw [hA] at hrun
    rw [show ((a : Int) + d + 1 - a) = ((d + 1 : Nat) : Int) by omega]
    exact hrun
theorem cpnews {w : World} {vb : Nat} {e : TypeId} {cs : List Value} (h : w.heap[vb]? = some (.cells cs.toArray e (0, 0))) {j : Nat} {u : Value} (hj : cs[j]? = some u) {o : Obj} : (w.drew.alloc o).cell? ((⟨vb, 0, none⟩ : Addr).add j) = some u := by
  have hlt : vb < w.drew.heap.size := (Array.getElem?_eq_some_iff.1 h).1
  have h1 : (w.drew.alloc o).heap[vb]? = some (.cells cs.toArray e (0, 0)) := (heap_alloc_old w.drew o hlt).trans h
  exact block_news (a := []) (b := cs) (c := []) (n := 0) (by simpa using h1) rfl j u hj
set_option maxHeartbeats 1600000 in
theorem insert_grow (p q : List Dam) (x : Dam) (a d g vb base : Nat) (w : World) (ha : p.length = a) (hd : q.length = d) (hd0 : 0 < d) (hl : a + d ≤ 1000) (hown : w.ownsRow base 28 3 (.slice (some ⟨g, 0, none⟩) (a + d) (a + d)) (a + d) (flat Dam.cells (p ++ q)))
    (hv : w.heap[vb]? = some (.cells x.cells.toArray 28 (0, 0))) (hbase : base ≤ w.heap.size) :
    Calls Try.prog 26 #[.slice (some ⟨g, 0, none⟩) (a + d) (a + d), .int .i64 a, .slice (some ⟨vb, 0, none⟩) 1 1] w (OwnsD base (p ++ x :: q) w) := by
  obtain ⟨rest, hg, hxs, hlen, _, hmax, hbg⟩ := owns_block hown
  rw [← flat_app, List.append_assoc] at hg
  have hpl : (flat Dam.cells p).length = a * 3 := by rw [flat_len Dam.three, ha]
  have hql : (flat Dam.cells q).length = d * 3 := by rw [flat_len Dam.three, hd]
  obtain ⟨c, z1, z2, z3, hc1, hcm, hz1, hz2', hcl, hrun⟩ := insert_run (flat Dam.cells p) a d g w hpl hl _ hg
  obtain ⟨cur, hcur⟩ : ∃ cur, flat Dam.cells p ++ (z1 ++ (z2 ++ z3)) = cur := ⟨_, rfl⟩
  rw [hcur] at hcl hrun
  have HRun := Lib.hid hrun
  have HV := Lib.hid hv
  have HG := Lib.hid hg
  have HCur := Lib.hid hcur
  have HPl := Lib.hid hpl
  have HQl := Lib.hid hql
  have HZ1 := Lib.hid hz1
  have HZ2 := Lib.hid hz2'
  have HCl := Lib.hid hcl
  have Hlen := Lib.hid (show (p ++ x :: q).length = a + d + 1 by simp; omega)
  have hvlt : vb < w.heap.size := (Array.getElem?_eq_some_iff.1 hv).1
  have hglt : g < w.heap.size := (Array.getElem?_eq_some_iff.1 hg).1
  have HXc : Hid ((flat Dam.cells [x]).length = 3) := flat_len Dam.three [x]
  have hz : ((1 : Int) == 0) = false := rfl
  have hz2 : ((a : Int) == (a : Int) + (d : Int)) = false := by simp; omega
  have hz3 : ¬ d = 0 := by omega
  have hz4 : ¬ c = a := by omega
  have hz5 : ¬ c = a + 1 := by omega
  clear hown hv ha hd hg hrun hcur hpl hql hz1 hz2' hcl hxs hlen
  go_enter Try.func26, Try.ntmps26
  go_wp2_with (first
    | (refine wpList_append_run _ rfl (.tmp 34) (.tmp 39) 26 3 rfl _ _ rfl rfl _ _ HRun.out ?_)
    | (refine wpList_copy_k rfl (.tmp 43) (.tmp 44) 26 26 rfl 28 3 Try.underlying26 info_size (by decide) _ _ _ _ _ _ rfl rfl w.heap.size (a * 3) cur 28 (heap_alloc_new w.drew _) (flat Dam.cells [x]) ?_ ?_ ?_ (flat_cells Dam.ones [x]) ?_; (focus (rw [HXc.out]; simp only [Nat.min_def]; split <;> omega)); (focus (exact fun _ => ⟨rfl, _, rfl, fun j u hj => by rw [flat_one] at hj; exact cpnews HV.out hj⟩)); (focus (rw [HXc.out, HCl.out]; omega)); intro w2 hg2 hb2 _))
  have HB2 := Lib.hid (hb2 w.heap.size w (by repeat (first | (with_reducible exact Below.refl _ _) | ((with_reducible refine alloc_ ?_ ?_); (focus (first | exact Nat.le_refl _ | (simp; done) | (simp; omega) | omega))) | ((with_reducible refine set_ ?_ ?_); (focus (first | exact Nat.le_refl _ | (simp; done) | (simp; omega) | omega))) | (with_reducible refine Below.drew ?_) | ((with_reducible refine after_ ?_ (by assumption) ?_); (rotate_left; (focus (first | exact Nat.le_refl _ | (simp; done) | (simp; omega) | omega)))))) (Nat.le_refl _))
  have HS1 := Lib.hid (show splice cur (a * 3) (flat Dam.cells [x]) = flat Dam.cells p ++ (flat Dam.cells [x] ++ (z2 ++ z3)) by
    rw [← HCur.out]; exact splice_at (by rw [HXc.out, HZ1.out]) HPl.out.symm)
  obtain ⟨cur2, hcur2⟩ : ∃ cur2, splice cur (a * 3) (flat Dam.cells [x]) = cur2 := ⟨_, rfl⟩
  rw [hcur2] at hg2 HS1
  have HG2 := Lib.hid ((HB2.out.block g hglt).trans HG.out)
  have HC2 := Lib.hid (show cur2.length = c * 3 by rw [HS1.out]; have h := HCl.out; rw [← HCur.out] at h; simp only [List.length_append] at h ⊢; rw [HXc.out]; rw [HZ1.out] at h; exact h)
  have s1 : IntKind.i64.wrap ((a : Int) + 1) = (a : Int) + 1 := IntWalk.i64_in _ (by omega)
  have s2 : ((a : Int) + 1).toNat = a + 1 := by omega
  have s3 : (0 : Int) ≤ (a : Int) + 1 := by omega
  have s4 : (a : Int) + 1 ≤ (a : Int) + (d : Int) + 1 := by omega
  have s5 : (a : Int) ≤ (a : Int) + (d : Int) := by omega
  clear hb2 hcur2
  go_region_law (refine step_copy_k rfl (.tmp 50) (.tmp 53) 26 26 rfl 28 3 Try.underlying26 info_size (by decide) (some ⟨w.heap.size, (a + 1) * 3, none⟩) (some ⟨g, a * 3, none⟩) (a + d + 1 - (a + 1)) (c - (a + 1)) d d ?_ ?_ w.heap.size ((a + 1) * 3) cur2 28 hg2.out (flat Dam.cells q) ?_ ?_ ?_ (flat_cells Dam.ones q) ?_; (focus (simp [Act.eval, Act.put]; done)); (focus (simp [Act.eval, Act.put]; done)); (focus (rw [HQl.out]; simp only [Nat.min_def]; split <;> omega)); (focus (exact fun _ => ⟨rfl, _, rfl, block_news (w := w2.drew) HG2.out HPl.out.symm⟩)); (focus (rw [HQl.out, HC2.out]; omega)); intro w3 hg3 hb3 _)
  all_goals
    clear s1 s2 s3 s4 s5
    have HB3 := Lib.hid (hb3 base w (Below.drew (HB2.out.mono hbase)) hbase)
    have HS2 := Lib.hid (show splice cur2 ((a + 1) * 3) (flat Dam.cells q) = flat Dam.cells (p ++ x :: q) ++ z3 by
      rw [HS1.out, ← List.append_assoc, splice_at (P := flat Dam.cells p ++ flat Dam.cells [x]) (by rw [HZ2.out, HQl.out]) (by rw [List.length_append, HPl.out, HXc.out]; omega), show flat Dam.cells (p ++ x :: q) = flat Dam.cells p ++ flat Dam.cells [x] ++ flat Dam.cells q by simp [flat], List.append_assoc _ _ z3])
    have HO3 := Lib.hid (owns_of_block (base := base) (by rw [HS2.out] at hg3; exact hg3.out) (n := a + d + 1) (cap := c) (by rw [flat_len Dam.three, Hlen.out]) (by have h := HC2.out; rw [HS1.out] at h; rw [show flat Dam.cells (p ++ x :: q) = flat Dam.cells p ++ flat Dam.cells [x] ++ flat Dam.cells q by simp [flat]]; simp only [List.length_append] at h ⊢; rw [HQl.out]; rw [HZ2.out] at h; omega) hc1 hcm hbase)
    clear hb3 hg3 hg2
    go_wp2_with fail
    go_ret
    exact ⟨some ⟨w.heap.size, 0, none⟩, c, by rw [Hlen.out]; rfl, by rw [Hlen.out]; exact HO3.out, HB3.out⟩
theorem overlaps_no (vb g off lb cb : Nat) (w : World) (cs cur : List Value) (hv : w.heap[vb]? = some (.cells cs.toArray 28 (0, 0))) (hg : w.heap[g]? = some (.cells cur.toArray 28 (0, 0))) (hne : vb ≠ g) (hc : cur.length ≠ 0) :
    (callFunc 40 #[.slice (some ⟨vb, 0, none⟩) 1 1, .slice (some ⟨g, off, none⟩) lb cb]).run Try.prog w = .ok (.value (.bool false)) w := by
  have hsa : w.shape? vb = some (28, cs.length) := by simp [World.shape?, hv]
  have hsb : w.shape? g = some (28, cur.length) := by simp [World.shape?, hg]
  have hfa : ∀ o, w.frozen? ⟨vb, o, none⟩ = false := fun o => by simp [World.frozen?, hv]
  rw [run_callFunc_extern Try.func40 (by kernel_rfl) (by kernel_rfl) (by kernel_rfl) (e := Extern.SlicesOverlaps.overlaps #[26, 26] #[4]) (by kernel_rfl),
    Lib.run_overlaps_apart w 26 4 28 Try.underlying26 3 (fun w => by kernel_rfl) ⟨vb, 0, none⟩ ⟨g, off, none⟩ 1 1 lb cb hne _ _ _ _ hsa hsb hc (hfa 0) (hfa _)]
  rfl
end Go.Proofs.Ytlgpgcfncmomiaa
