/- slices.Insert of one damage where there is room: in place; no conditions beyond the length. -/
import Derived.Test.YtlgpgcfncmomiaaDamInsert
namespace Go.Proofs.Ytlgpgcfncmomiaa
open Go.RowKit Go.Lib

theorem room_cut {fq rest : List Value} {a d c : Nat} {fp : List Value} (hp : fp.length = a * 3) (hq : fq.length = d * 3) (hc : a + d + 1 ≤ c) (hl : (fp ++ (fq ++ rest)).length = c * 3) : ∃ y1 y2 r : List Value, fq ++ rest = y1 ++ (y2 ++ r) ∧ y1.length = 3 ∧ y2.length = d * 3 := by
  simp only [List.length_append] at hl
  refine ⟨(fq ++ rest).take 3, ((fq ++ rest).drop 3).take (d * 3), ((fq ++ rest).drop 3).drop (d * 3), ?_, ?_, ?_⟩
  · rw [List.take_append_drop, List.take_append_drop]
  · rw [List.length_take, List.length_append]; omega
  · rw [List.length_take, List.length_drop, List.length_append]; omega
set_option maxHeartbeats 1600000 in
theorem insert_room (p q : List Dam) (x : Dam) (a d c g vb base : Nat) (w : World) (ha : p.length = a) (hd : q.length = d) (hd0 : 0 < d) (hl : a + d ≤ 1000) (hc : a + d + 1 ≤ c) (hown : w.ownsRow base 28 3 (.slice (some ⟨g, 0, none⟩) (a + d) c) (a + d) (flat Dam.cells (p ++ q)))
    (hv : w.heap[vb]? = some (.cells x.cells.toArray 28 (0, 0))) (hne : vb ≠ g) :
    Calls Try.prog 26 #[.slice (some ⟨g, 0, none⟩) (a + d) c, .int .i64 a, .slice (some ⟨vb, 0, none⟩) 1 1] w (OwnsD base (p ++ x :: q) w) := by
  obtain ⟨rest, hg, hxs, hlen, _, hcm, hbg⟩ := owns_block hown
  rw [← flat_app, List.append_assoc] at hg hlen
  have hpl : (flat Dam.cells p).length = a * 3 := by rw [flat_len Dam.three, ha]
  have hql : (flat Dam.cells q).length = d * 3 := by rw [flat_len Dam.three, hd]
  obtain ⟨y1, y2, r, hY, hy1, hy2⟩ := room_cut hpl hql hc hlen
  have hov := fun lb cb => overlaps_no vb g ((a + 1) * 3) lb cb w x.cells _ hv hg hne (by rw [hlen]; omega)
  obtain ⟨cur, hcur⟩ : ∃ cur, flat Dam.cells p ++ (flat Dam.cells q ++ rest) = cur := ⟨_, rfl⟩
  have HSrc := Lib.hid hg
  rw [hcur] at hg hlen
  rw [hY] at hcur
  have HV := Lib.hid hv
  have HG := Lib.hid hg
  have HCur := Lib.hid hcur
  have HPl := Lib.hid hpl
  have HQl := Lib.hid hql
  have HY1 := Lib.hid hy1
  have HY2 := Lib.hid hy2
  have HCl := Lib.hid hlen
  have Hlen := Lib.hid (show (p ++ x :: q).length = a + d + 1 by simp; omega)
  have hvlt : vb < w.heap.size := (Array.getElem?_eq_some_iff.1 hv).1
  have hglt : g < w.heap.size := (Array.getElem?_eq_some_iff.1 hg).1
  have HXc : Hid ((flat Dam.cells [x]).length = 3) := flat_len Dam.three [x]
  have hz : ((1 : Int) == 0) = false := rfl
  have hz2 : ((a : Int) == (a : Int) + (d : Int)) = false := by simp; omega
  have hz3 : ¬ d = 0 := by omega
  have hz4 : ¬ c = a := by omega
  have hz5 : ¬ c = a + 1 := by omega
  have hz6 : (a : Int) + d + 1 ≤ c := by omega
  have hz7 : a + d + 1 ≤ c := hc
  clear hown hv ha hd hg hcur hpl hql hy1 hy2 hlen hxs hY
  go_enter Try.func26, Try.ntmps26
  go_wp2_with (simp only [hov])
  have s1 : IntKind.i64.wrap ((a : Int) + 1) = (a : Int) + 1 := IntWalk.i64_in _ (by omega)
  have s2 : ((a : Int) + 1).toNat = a + 1 := by omega
  have s3 : (0 : Int) ≤ (a : Int) + 1 := by omega
  have s4 : (a : Int) + 1 ≤ (a : Int) + (d : Int) + 1 := by omega
  have s5 : (a : Int) ≤ (a : Int) + (d : Int) + 1 := by omega
  clear hov
  go_region_law (refine step_copy_k rfl (.tmp 73) (.tmp 76) 26 26 rfl 28 3 Try.underlying26 info_size (by decide) (some ⟨g, (a + 1) * 3, none⟩) (some ⟨g, a * 3, none⟩) (a + d + 1 - (a + 1)) (c - (a + 1)) (a + d + 1 - a) (c - a) ?_ ?_ g ((a + 1) * 3) cur 28 HG.out (flat Dam.cells q) ?_ ?_ ?_ (flat_cells Dam.ones q) ?_; (focus (simp [Act.eval, Act.put]; done)); (focus (simp [Act.eval, Act.put]; done)); (focus (rw [HQl.out]; simp only [Nat.min_def]; split <;> omega)); (focus (exact fun _ => ⟨rfl, _, rfl, block_news (w := w.drew) HSrc.out HPl.out.symm⟩)); (focus (rw [HQl.out, HCl.out]; omega)); intro w3 hg3 hb3 ho3)
  all_goals
    clear s1 s2 s3 s4 s5
    have HB3 := Lib.hid (hb3 base w (Below.drew (Below.refl _ _)) hbg)
    have HS1 := Lib.hid (show splice cur ((a + 1) * 3) (flat Dam.cells q) = flat Dam.cells p ++ (y1 ++ (flat Dam.cells q ++ r)) by
      rw [← HCur.out, ← List.append_assoc, splice_at (P := flat Dam.cells p ++ y1) (by rw [HY2.out, HQl.out]) (by rw [List.length_append, HPl.out, HY1.out]; omega), List.append_assoc])
    obtain ⟨cur2, hcur2⟩ : ∃ cur2, splice cur ((a + 1) * 3) (flat Dam.cells q) = cur2 := ⟨_, rfl⟩
    rw [hcur2] at hg3 HS1
    have HC2 := Lib.hid (show cur2.length = c * 3 by rw [HS1.out]; have h := HCl.out; rw [← HCur.out] at h; simp only [List.length_append] at h ⊢; rw [HQl.out]; rw [HY2.out] at h; exact h)
    have HVn := Lib.hid ((ho3 vb hne).trans HV.out)
    clear hcur2 hb3 ho3
    go_wp2_with (refine wpList_copy_k rfl (.tmp 80) (.tmp 81) 26 26 rfl 28 3 Try.underlying26 info_size (by decide) _ _ _ _ _ _ rfl rfl g (a * 3) cur2 28 hg3.out (flat Dam.cells [x]) ?_ ?_ ?_ (flat_cells Dam.ones [x]) ?_; (focus (rw [HXc.out]; simp only [Nat.min_def]; split <;> omega)); (focus (exact fun _ => ⟨rfl, _, rfl, fun j u hj => by rw [flat_one] at hj; exact block_news (a := []) (b := x.cells) (c := []) (n := 0) (by simpa using HVn.out) rfl j u hj⟩)); (focus (rw [HXc.out, HC2.out]; omega)); intro w4 hg4 hb4 _)
    have HB4 := Lib.hid (hb4 base w HB3.out hbg)
    have HS2 := Lib.hid (show splice cur2 (a * 3) (flat Dam.cells [x]) = flat Dam.cells (p ++ x :: q) ++ r by
      rw [HS1.out, splice_at (by rw [HY1.out, HXc.out]) HPl.out.symm, show flat Dam.cells (p ++ x :: q) = flat Dam.cells p ++ (flat Dam.cells [x] ++ flat Dam.cells q) by simp [flat], List.append_assoc, List.append_assoc])
    have HO4 := Lib.hid (owns_of_block (base := base) (by rw [HS2.out] at hg4; exact hg4.out) (n := a + d + 1) (cap := c) (by rw [flat_len Dam.three, Hlen.out]) (by have h := HC2.out; rw [HS1.out] at h; rw [show flat Dam.cells (p ++ x :: q) = flat Dam.cells p ++ (flat Dam.cells [x] ++ flat Dam.cells q) by simp [flat]]; simp only [List.length_append] at h ⊢; rw [HXc.out]; rw [HY1.out] at h; omega) hc hcm hbg)
    clear hb4 hg3 hg4
    go_wp2_with fail
    go_ret
    exact ⟨some ⟨g, 0, none⟩, c, by rw [Hlen.out]; rfl, by rw [Hlen.out]; exact HO4.out, HB4.out⟩
end Go.Proofs.Ytlgpgcfncmomiaa
