/- A text that is spoilt by a byte: some text, one byte longer at most; only the cursor's own block turns; no conditions but the texts' sizes. -/
import Derived.Test.YtpchcblialkpcaaDoorText
import Derived.Test.YtpchcblialkpcaaDoorVee
namespace Go.Proofs.YtpchcblialkpcaaDoor
open Go.RowKit

theorem cat_size (a b : ByteArray) : (a ++ b).size = a.size + b.size := by simp
theorem ext_size (s : ByteArray) (a b : Nat) : (s.extract a b).size = min b s.size - a := by simp
def SpoiltD (n gc K : Nat) (w : World) (e : Ending) (w' : World) : Prop := ∃ v : ByteArray, e = .returned (.string v) ∧ v.size ≤ n + 1 ∧ Cur w' gc K ∧ w.grownBy w' (some gc)
set_option maxHeartbeats 4000000 in
theorem spoilt_c (t s : ByteArray) (gc K : Nat) (w : World) (h : Cur w gc K) (hK : K ≤ 1000000) (ht : t.size ≤ 5000) (h0 : 0 < s.size) (hs : s.size ≤ 1000) : Calls Tryd.prog 30 #[.pointer (some ⟨gc, 0, none⟩), .string t, .string s] w (SpoiltD t.size gc (K + 6) w) := by
  have HC := Lib.hid h
  clear h
  by_cases hz : t.size = 0
  · have ht0 : t = ⟨#[]⟩ := by
      rw [S_of t, List.eq_nil_of_length_eq_zero (l := t.data.toList) (by simpa using hz)]; rfl
    subst ht0
    have i1 : (1 : Int) ≤ s.size := by omega
    have HX := Lib.hid (ext_size s 0 1)
    go_enter Tryd.func30, Tryd.ntmps30
    go_wp2_with fail
    go_ret
    exact ⟨_, rfl, by first | (rw [HX.out]; omega) | (simp; omega), HC.out.mono (by omega), World.grownBy.refl _ _⟩
  · have hne : (t.toList == ([] : List UInt8)) = false := by
      rw [beq_eq_false_iff_ne]
      intro e
      have h : t.toList = t.data.toList := by conv => lhs; rw [S_of t, S_list]
      rw [h] at e
      have h2 : t.data.toList.length = 0 := by rw [e]; rfl
      have h3 : t.size = t.data.toList.length := by simp
      omega
    have n1 : (1 : Int) ≤ t.size := by omega
    have n2 : (t.size : Int) ≤ 100000000 := by omega
    have n3 : (1 : Int) ≤ s.size := by omega
    have n4 : (s.size : Int) ≤ 100000000 := by omega
    go_enter Tryd.func30, Tryd.ntmps30
    go_wp2_with fail
    refine (pick_c t.size gc K _ HC.out (by omega) (by omega) (by omega)).mono ?_
    rintro e w1 ⟨i, rfl, i1, i2, hcw1, hgw1⟩
    have HCw1 := Lib.hid hcw1
    have HGw1 := Lib.hid hgw1
    clear hcw1 hgw1
    obtain ⟨i, rfl⟩ : ∃ k : Nat, i = (k : Int) := ⟨i.toNat, by omega⟩
    have hi : i < t.size := by omega
    go_wp2_with fail
    refine (pick_c s.size gc _ _ HCw1.out (by omega) (by omega) (by omega)).mono ?_
    rintro e w2 ⟨j, rfl, j1, j2, hcw2, hgw2⟩
    have HCw2 := Lib.hid hcw2
    have HGw2 := Lib.hid hgw2
    clear hcw2 hgw2
    obtain ⟨j, rfl⟩ : ∃ k : Nat, j = (k : Int) := ⟨j.toNat, by omega⟩
    have hj : j < s.size := by omega
    obtain ⟨u, hu⟩ : ∃ u, s.extract j s.size = u := ⟨_, rfl⟩
    have hus : 1 ≤ u.size := by rw [← hu, ext_size]; omega
    have j1 : (j : Int) ≤ s.size := by omega
    have j2 : (1 : Int) ≤ u.size := by omega
    go_wp2_with fail
    refine (pick_c 3 gc _ _ HCw2.out (by omega) (by omega) (by omega)).mono ?_
    rintro e w3 ⟨m, rfl, m1, m2, hcw3, hgw3⟩
    have HCw3 := Lib.hid hcw3
    have HGw3 := Lib.hid hgw3
    clear hcw3 hgw3
    have HG := Lib.hid (but_trans (but_trans HGw1.out HGw2.out) HGw3.out)
    obtain ⟨p, hp⟩ : ∃ p, t.extract 0 i = p := ⟨_, rfl⟩
    have hps : p.size = i := by rw [← hp, ext_size]; omega
    obtain ⟨x, hx⟩ : ∃ x, u.extract 0 1 = x := ⟨_, rfl⟩
    have hxs : x.size = 1 := by rw [← hx, ext_size]; omega
    obtain ⟨q, hq⟩ : ∃ q, t.extract i t.size = q := ⟨_, rfl⟩
    have hqs : q.size = t.size - i := by rw [← hq, ext_size]; omega
    obtain ⟨q1, hq1⟩ : ∃ q, t.extract (i + 1) t.size = q := ⟨_, rfl⟩
    have hqs1 : q1.size = t.size - (i + 1) := by rw [← hq1, ext_size]; omega
    have i5 : (i : Int) ≤ t.size := by omega
    have i6 : (i : Int) + 1 ≤ t.size := by omega
    have z1 : (9223372036854775807 < p.size + x.size) = False := by simp; omega
    have z2 : (9223372036854775807 < p.size + x.size + q.size) = False := by simp; omega
    have z3 : (9223372036854775807 < p.size + x.size + q1.size) = False := by simp; omega
    have z4 : (9223372036854775807 < p.size + q1.size) = False := by simp; omega
    have a1 : IntKind.i64.wrap ((i : Int) + 1) = (i : Int) + 1 := IntWalk.i64_in _ (by omega)
    have a2 : ((i : Int) + 1).toNat = i + 1 := by omega
    by_cases hm0 : m = 0
    · have m0 : (m == 0) = true := by simp [hm0]
      clear hm0
      go_wp2_with fail
      refine wp_region_mem (by kernel_rfl) (by kernel_rfl) ?_
      repeat (go_big_quiet_step (fail))
      refine wpQuiet_nil ?_
      intro _ hw'
      obtain ⟨⟨wq, hbq⟩, hw''⟩ := hw'
      obtain rfl := hw''.symm
      obtain ⟨hcq, hfq, hzq⟩ := bcell hbq
      try simp [Nat.add_one_le_iff] at hzq
      have HE := Lib.hid (And.intro (HCw3.out.carry hbq) (but_below HG.out (hbq.mono HG.out.size)))
      clear hcq hfq
      go_wp2_with fail
      go_ret
      exact ⟨_, rfl, by rw [cat_size, cat_size]; omega, HE.out.1, HE.out.2⟩
    have m0 : (m == 0) = false := by simp [hm0]
    by_cases hm1 : m = 1
    · have m1 : (m == 1) = true := by simp [hm1]
      clear hm0 hm1
      go_wp2_with fail
      refine wp_region_mem (by kernel_rfl) (by kernel_rfl) ?_
      repeat (go_big_quiet_step (fail))
      refine wpQuiet_nil ?_
      intro _ hw'
      obtain ⟨⟨wq, hbq⟩, hw''⟩ := hw'
      obtain rfl := hw''.symm
      obtain ⟨hcq, hfq, hzq⟩ := bcell hbq
      try simp [Nat.add_one_le_iff] at hzq
      have HE := Lib.hid (And.intro (HCw3.out.carry hbq) (but_below HG.out (hbq.mono HG.out.size)))
      clear hcq hfq
      go_wp2_with fail
      go_ret
      exact ⟨_, rfl, by rw [cat_size, cat_size]; omega, HE.out.1, HE.out.2⟩
    have m1 : (m == 1) = false := by simp [hm1]
    clear hm0 hm1
    go_wp2_with fail
    refine wp_region_mem (by kernel_rfl) (by kernel_rfl) ?_
    repeat (go_big_quiet_step (fail))
    refine wpQuiet_nil ?_
    intro _ hw'
    obtain ⟨⟨wq, hbq⟩, hw''⟩ := hw'
    obtain rfl := hw''.symm
    obtain ⟨hcq, hfq, hzq⟩ := bcell hbq
    try simp [Nat.add_one_le_iff] at hzq
    have HE := Lib.hid (And.intro (HCw3.out.carry hbq) (but_below HG.out (hbq.mono HG.out.size)))
    clear hcq hfq
    go_wp2_with fail
    go_ret
    exact ⟨_, rfl, by rw [cat_size]; omega, HE.out.1, HE.out.2⟩
end Go.Proofs.YtpchcblialkpcaaDoor
