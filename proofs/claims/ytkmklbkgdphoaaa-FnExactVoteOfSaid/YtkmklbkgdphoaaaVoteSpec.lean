/- The reference's VoteOf returns the plain answer; no conditions but the length. -/
import Derived.Test.YtkmklbkgdphoaaaVoteEnd
import Derived.Deep.RegionLaw
namespace Go.Proofs.Ytkmklbkgdphoaaa
open Go.RowKit Go.Lib

theorem l12Sensors_c (o : List Int) (A : Option Addr) (cap : Nat) (w : World) (hl : o.length ≤ 1048576) (hr : Rd w w.heap.size 1 intCells A o) :
    Calls Try.prog 13 #[.slice A o.length cap] w fun e w' => e = .returned (.bool (okV o)) ∧ w = w' := by
  go_enter Try.func13, Try.ntmps13
  go_wp2_with fail
  go_loop [3] (fun i => ∃ k : Nat, k ≤ o.length ∧ i = .int .i64 k ∧ ∀ j, j < k → inR (nth o j) (-1) 60 = true) (fun i => o.length - (intOf i).toNat)
  case atStart => exact ⟨0, Nat.zero_le _, rfl, fun j hj => absurd hj (by omega)⟩
  case round =>
    obtain ⟨k, hk, rfl, hall⟩ := hrel
    have HA := Lib.hid hall
    clear hall
    by_cases hlt : k < o.length
    · obtain ⟨b, off, rfl, hb, hc⟩ := hr.int hlt
      rcases h1 : inR (nth o k) (-1) 60 with _ | _
      · have H := Lib.hid (show okV o = false by have h := allR_no (lo := -1) (hi := 60) hlt h1; simp [okV, h])
        go_wp2_with (go_at_call 18; refine (l1In_c _ _ _ _).mono ?_; rintro e w' ⟨rfl, rfl⟩)
        go_ret
        exact ⟨retb H.out.symm, rfl⟩
      · have H := Lib.hid (below_add (p := fun j => inR (nth o j) (-1) 60 = true) HA.out h1)
        go_wp2_with (go_at_call 18; refine (l1In_c _ _ _ _).mono ?_; rintro e w' ⟨rfl, rfl⟩)
        go_round
        case rel => exact ⟨k + 1, by omega, by go_num, H.out⟩
        case measure => simp [intOf]; omega
    · obtain rfl : k = o.length := by omega
      have H := Lib.hid (show okV o = inR o.length 1 5 by unfold okV allR; rw [allTo_true.2 HA.out, Bool.and_true])
      go_wp2_with (go_at_call 18; refine (l1In_c _ _ _ _).mono ?_; rintro e w' ⟨rfl, rfl⟩)
      go_ret
      exact ⟨retb H.out.symm, rfl⟩
/-- Where insertion puts a number. -/
theorem insQ_at {x : Int} : ∀ {q : List Int} {k : Nat}, k ≤ q.length → (∀ j, k ≤ j → j < q.length → x < nth q.reverse j) → (k = 0 ∨ ¬ x < nth q.reverse (k - 1)) → (insQ x q).reverse = q.reverse.take k ++ [x] ++ q.reverse.drop k
  | [], k, hk, _, _ => by
    have : k = 0 := by simpa using hk
    subst this; rfl
  | y :: q, k, hk, hhi, hlo => by
    have at_ : ∀ j, j < q.length → nth (y :: q).reverse j = nth q.reverse j := fun j hj => by
      rw [nth_eq (by simp; omega), nth_eq (by simpa using hj)]
      simp [hj]
    have last : nth (y :: q).reverse q.length = y := by
      rw [nth_eq (by simp)]; simp
    have hk' : k ≤ q.length + 1 := by simpa using hk
    rw [insQ]; split
    · next c =>
      have hkq : k ≤ q.length := by
        rcases Nat.lt_or_ge q.length k with h | h
        · have e : k = q.length + 1 := by omega
          subst e
          rcases hlo with h1 | h1
          · omega
          · rw [Nat.add_sub_cancel, last] at h1; exact absurd c h1
        · exact h
      have ih := insQ_at (x := x) (q := q) (k := k) hkq (fun j h1 h2 => by rw [← at_ j h2]; exact hhi j h1 (by simp; omega)) (by
        rcases hlo with h1 | h1
        · exact .inl h1
        · by_cases h0 : k = 0
          · exact .inl h0
          · rw [at_ (k - 1) (by omega)] at h1; exact .inr h1)
      rw [List.reverse_cons, ih, List.reverse_cons, List.take_append_of_le_length (by simpa using hkq), List.drop_append_of_le_length (by simpa using hkq)]; simp
    · next c =>
      have e : k = q.length + 1 := by
        rcases Nat.lt_or_ge k (q.length + 1) with h | h
        · have := hhi q.length (by omega) (by simp)
          rw [last] at this; exact absurd this c
        · omega
      subst e
      rw [List.take_of_length_le (by simp), List.drop_eq_nil_of_le (by simp)]; simp
theorem isort_put {o : List Int} {x : Int} {k : Nat} (hk : k ≤ (isort o).length) (hhi : ∀ j, k ≤ j → j < (isort o).length → x < nth (isort o) j) (hlo : k = 0 ∨ nth (isort o) (k - 1) ≤ x) :
    isort (o ++ [x]) = (isort o).take k ++ [x] ++ (isort o).drop k := by
  unfold isort at *
  rw [isQ_snoc]
  exact insQ_at (by simpa using hk) (fun j h1 h2 => hhi j h1 (by simpa using h2)) (by
    rcases hlo with h | h
    · exact .inl h
    · exact .inr (by omega))
theorem newsI {w W : World} {B b off : Nat} {o : List Int} (h : Rd w B 1 intCells (some ⟨b, off, none⟩) o) (hb : Below B w W) : ∀ j u, (o.map (Value.int .i64))[j]? = some u → W.cell? ⟨b, off + j, none⟩ = some u := fun j u hj => by
  have := h.news hb (fun _ => rfl) (by decide) j u
  rw [show flat intCells o = o.map (Value.int .i64) from flat_ints o] at this
  exact this hj
theorem newsD {w W : World} {B b k : Nat} {o : List Int} (h : Rd w B 1 intCells (some ⟨b, 0 + k * 1, none⟩) o) (hb : Below B w W) : ∀ j u, (o.map (Value.int .i64))[j]? = some u → W.cell? ⟨b, k + j, none⟩ = some u := fun j u hj => by
  have := newsI h hb j u hj
  simpa using this
theorem no_newsI {l : List Int} {k : Nat} {P : Nat → Value → Prop} (h : l.length ≤ k) : ∀ j u, ((l.drop k).map (Value.int .i64))[j]? = some u → P j u := fun j u hj => by
  rw [List.drop_eq_nil_of_le h] at hj
  simp at hj
theorem vote_at {o L : List Int} (hL : L = isort (posL o)) (h : 1 ≤ o.length) : voteV o = if 2 * L.length < o.length ∨ L.length = 0 then 60 else nth L (L.length / 2) := by
  subst hL
  unfold voteV
  rw [isort_len]
  by_cases h2 : 2 * (posL o).length < o.length
  · rw [if_pos h2, if_pos (.inl h2)]
  · rw [if_neg h2, if_neg (by omega)]
set_option maxHeartbeats 1600000 in
theorem l12Of_c (o : List Int) (A : Option Addr) (cap : Nat) (w : World) (hg : okV o = true) (hr : Rd w w.heap.size 1 intCells A o) :
    Calls Try.prog 14 #[.slice A o.length cap] w fun e w' => e = .returned (.int .i64 (voteV o)) ∧ Below w.heap.size w w' := by
  obtain ⟨⟨n1, n5⟩, hv⟩ := okV_true hg
  have HVs := Lib.hid hv
  clear hv hg
  go_enter Try.func14, Try.ntmps14
  go_wp2_with fail
  go_loopw [3, 4, 5] (fun v i _ wr => ∃ (k : Nat) (g gc : Nat) (L : List Int), k ≤ o.length ∧ i = .int .i64 k ∧ L = isort (posL (o.take k)) ∧ L.length ≤ k ∧ v = .slice (some ⟨g, 0, none⟩) L.length gc ∧ wr.ownsRow w.heap.size 3 1 (.slice (some ⟨g, 0, none⟩) L.length gc) L.length (L.map (Value.int .i64)) ∧ Below w.heap.size w wr) (fun _ i _ _ => o.length - (intOf i).toNat)
  case atStart => exact ⟨0, w.heap.size, 0, [], Nat.zero_le _, rfl, rfl, Nat.le_refl _, rfl, ownsRow_empty w 3 1, (by repeat (first | (with_reducible exact Below.refl _ _) | ((with_reducible refine alloc_ ?_ ?_); (focus (first | exact Nat.le_refl _ | (simp; done) | (simp; omega) | omega))) | ((with_reducible refine set_ ?_ ?_); (focus (first | exact Nat.le_refl _ | (simp; done) | (simp; omega) | omega))) | (with_reducible refine Below.drew ?_) | ((with_reducible refine after_ ?_ (by assumption) ?_); (rotate_left; (focus (first | exact Nat.le_refl _ | (simp; done) | (simp; omega) | omega))))))⟩
  case round =>
    obtain ⟨i, g, gc, L, hi, rfl, hL, hLi, rfl, hown, hbel⟩ := hrel
    have HB := Lib.hid hbel
    have HO := Lib.hid hown
    have HL := Lib.hid hL
    have z1 := hbel.size
    have hcp := own_cap hown
    have HRL := Lib.hid ((Own.of_row' hown rfl (flat_ints _).symm (fun _ => rfl)).rd fun _ => rfl)
    clear hown hL
    by_cases hlt : i < o.length
    · obtain ⟨b, off, rfl, hb, hc⟩ := (hr.below hbel (Nat.le_refl _)).int hlt
      have HSens := Lib.hid (show ∀ W : World, Below w.heap.size w W → W.cell? ⟨b, off + i, none⟩ = some (.int .i64 (nth o i)) from fun W hW => by
        obtain ⟨b', off', he, _, hc'⟩ := (hr.below hW (Nat.le_refl _)).int hlt
        simp only [Option.some.injEq, Addr.mk.injEq, and_true] at he
        obtain ⟨rfl, rfl⟩ := he
        exact hc')
      obtain ⟨v0, v1⟩ := HVs.out i hlt
      have l1 : b < wr.heap.size := by omega
      have i1 : (i : Int) < o.length := by omega
      clear hbel
      by_cases hq : nth o i < 0
      · have H := Lib.hid (posL_no hlt (by omega))
        go_wp2_with fail
        go_roundw
        case rel => exact ⟨i + 1, g, gc, L, by omega, by go_num, by rw [H.out]; exact HL.out, by omega, rfl, HO.out, HB.out⟩
        case measure => simp [intOf]; omega
      · have H := Lib.hid (posL_yes hlt (by omega))
        go_wp2_with fail
        obtain ⟨wo, rfl⟩ : ∃ wo : World, wo = wr := ⟨_, rfl⟩
        go_loopw [5] (fun q wr => ∃ k : Nat, k ≤ L.length ∧ q = .int .i64 k ∧ (∀ j, k ≤ j → j < L.length → nth o i < nth L j) ∧ Below wo.heap.size wo wr) (fun q _ => (intOf q).toNat)
        case atStart => exact ⟨L.length, Nat.le_refl _, rfl, fun j h1 h2 => absurd h1 (by omega), Below.refl _ _⟩
        case round =>
          obtain ⟨k, hk, rfl, hhi, hbel⟩ := hrel
          have HBi := Lib.hid hbel
          have HHi := Lib.hid hhi
          have z2 := hbel.size
          have HBw := Lib.hid (HB.out.trans (hbel.mono z1))
          have ce := HSens.out wr HBw.out
          have l2 : b < wr.heap.size := by omega
          clear hhi
          by_cases hk0 : 0 < k
          · obtain ⟨b', off', he, hb', hcl⟩ := (HRL.out.below hbel (Nat.le_refl _)).int (show k - 1 < L.length by omega)
            simp only [Option.some.injEq, Addr.mk.injEq, and_true] at he
            obtain ⟨rfl, rfl⟩ := he
            rw [Nat.zero_add] at hcl
            have s1 : IntKind.i64.wrap ((k : Int) - 1) = (k : Int) - 1 := IntWalk.i64_in _ (by omega)
            have s2 : ((k : Int) - 1).toNat = k - 1 := by omega
            have s3 : (0 : Int) ≤ (k : Int) - 1 := by omega
            have s4 : (k : Int) - 1 < L.length := by omega
            have s5 : (1 : Int) ≤ (k : Int) := by omega
            have hg2 : g < wr.heap.size := by omega
            by_cases hx : nth o i < nth L (k - 1)
            · clear hbel
              go_wp2_with fail
              refine wp_region_mem (by kernel_rfl) (by kernel_rfl) ?_
              repeat (go_big_quiet_step (fail))
              refine wpQuiet_nil ?_
              intro _ hw'
              obtain ⟨⟨wq, hbq⟩, hw''⟩ := hw'
              obtain rfl := hw''.symm
              obtain ⟨hcq, hfq, hzq⟩ := bcell hbq
              try simp [Nat.add_one_le_iff] at hzq
              go_wp2_with fail
              go_roundw
              case rel => exact ⟨k - 1, by omega, by go_num, fun j h1 h2 => by
                by_cases e : j = k - 1
                · subst e; exact hx
                · exact HHi.out j (by omega) h2, HBi.out.trans (hbq.mono z2)⟩
              case measure => simp [intOf]; omega
            · have hx' : decide (nth o i < nth L (k - 1)) = false := decide_eq_false hx
              have HLo := Lib.hid (show k = 0 ∨ nth L (k - 1) ≤ nth o i from .inr (by omega))
              clear hbel hx
              go_wp2_with fail
              clear s1 s2 s3 s4 s5
              refine wp_region_mem (by kernel_rfl) (by kernel_rfl) ?_
              repeat (go_big_quiet_step (fail))
              refine wpQuiet_nil ?_
              intro _ hw'
              obtain ⟨⟨wq, hbq⟩, hw''⟩ := hw'
              obtain rfl := hw''.symm
              obtain ⟨hcq, hfq, hzq⟩ := bcell hbq
              try simp [Nat.add_one_le_iff] at hzq
              have HBq := Lib.hid (HBw.out.trans (hbq.mono HBw.out.size))
              have HRLq := Lib.hid (HRL.out.carry (HBi.out.trans (hbq.mono z2)))
              have ceq := HSens.out wq HBq.out
              have hbq2 : b < wq.heap.size := by have := hbq.size; omega
              have hwq := HBq.out.size
              go_wp2_with fail
              have s1 : (k : Int) ≤ L.length := by omega
              have s2 : (k : Int) ≤ gc := by omega
              have s3 : (k : Int) ≤ (k : Int) := by omega
              have s4 : (0 : Int) ≤ (k : Int) := by omega
              by_cases hcj : gc = k
              case pos =>
                have hcj2 := hcj.symm
                subst hcj2
                have s5 : k ≤ k := Nat.le_refl _
                go_region_law (first
                  | (refine step_extend rfl (.tmp 36) (.tmp 39) 22 rfl wq.heap.size 3 (.int .i64 0) 1 8 Try.underlying22 info_int rfl (by decide) (by decide) _ 0 [] rfl ?_ g 0 k _ ((L.take k).map (Value.int .i64)) rfl ?_ (newsI (HRLq.out.take k) (by repeat (first | (with_reducible exact Below.refl _ _) | ((with_reducible refine alloc_ ?_ ?_); (focus (first | exact Nat.le_refl _ | (simp; done) | (simp; omega) | omega))) | ((with_reducible refine set_ ?_ ?_); (focus (first | exact Nat.le_refl _ | (simp; done) | (simp; omega) | omega))) | (with_reducible refine Below.drew ?_) | ((with_reducible refine after_ ?_ (by assumption) ?_); (rotate_left; (focus (first | exact Nat.le_refl _ | (simp; done) | (simp; omega) | omega))))))) (ints_one' _) ?_ ?_ ?_; (focus (first | exact oe1 (Nat.le_refl _) | exact oe2 (Nat.le_refl _) | exact oe3 (Nat.le_refl _))); (focus (rw [List.length_map, List.length_take]; omega)); (focus omega); (focus (first | omega | (simp; done) | (simp; omega))); intro v1 w1 hown1 hb1 hk1; have hz1 := hb1.size; (try simp at hz1); have HW0 := Lib.hid (show Below wq.heap.size wq w1 from (by repeat (first | (with_reducible exact Below.refl _ _) | ((with_reducible refine alloc_ ?_ ?_); (focus (first | exact Nat.le_refl _ | (simp; done) | (simp; omega) | omega))) | ((with_reducible refine set_ ?_ ?_); (focus (first | exact Nat.le_refl _ | (simp; done) | (simp; omega) | omega))) | (with_reducible refine Below.drew ?_) | ((with_reducible refine after_ ?_ (by assumption) ?_); (rotate_left; (focus (first | exact Nat.le_refl _ | (simp; done) | (simp; omega) | omega))))))); have HW1 := Lib.hid (HBq.out.trans (HW0.out.mono HBq.out.size)); have ce := HSens.out w1 HW1.out)
                  | (refine step_extend rfl (.tmp 40) (.tmp 45) 22 rfl wq.heap.size 3 (.int .i64 0) 1 8 Try.underlying22 info_int rfl (by decide) (by decide) _ ?_ ?_ rfl ?_ _ _ _ _ [.int .i64 (nth o i)] rfl rfl ?_ ?_ ?_ ?_ ?_; rotate_left 2; (focus (first | exact hown1 | exact hown1.alloc _)); (focus (first | exact news_one (cs := #[.int .i64 (nth o i)]) (heap_alloc_new _ _) | exact news_one (cs := #[.int .i64 (nth o i)]) (nk2 hk1) | exact news_one (cs := #[.int .i64 (nth o i)]) (nk3 hk1))); (focus (intro u hu; simp at hu; subst hu; rfl)); (focus omega); (focus (first | omega | (simp; omega))); intro v2 w2 hown2 hb2 hk2; have hz2 := hb2.size; (try simp at hz2))
                  | (refine step_extend rfl (.tmp 46) (.tmp 49) 22 rfl wq.heap.size 3 (.int .i64 0) 1 8 Try.underlying22 info_int rfl (by decide) (by decide) _ _ _ rfl hown2 g (0) (0) _ ((L.drop k).map (Value.int .i64)) rfl ?_ (no_newsI (by omega)) (ints_one' _) ?_ ?_ ?_; (focus (rw [List.length_map, List.length_drop] <;> omega)); (focus omega); (focus (first | omega | (simp; omega))); intro v3 w3 hown3 hb3 hk3; have hz3 := hb3.size))
                all_goals
                  have hlen : (L.take k ++ [nth o i] ++ L.drop k).length = 0 + k + 1 + (0) := by simp only [List.length_append, List.length_take, List.length_drop, List.length_singleton]; omega
                  have HNew := Lib.hid (show L.take k ++ [nth o i] ++ L.drop k = isort (posL (o.take (i + 1))) by
                    rw [H.out, isort_put (o := posL (o.take i)) (x := nth o i) (k := k) (by rw [← HL.out]; exact hk) (by rw [← HL.out]; exact HHi.out) (by rw [← HL.out]; exact HLo.out), ← HL.out])
                  obtain ⟨g3, cap3, rfl⟩ := Joins.ownsRow_form hown3 (by omega)
                  have HO3 := Lib.hid (show w3.ownsRow w.heap.size 3 1 (.slice (some ⟨g3, 0, none⟩) (L.take k ++ [nth o i] ++ L.drop k).length cap3) (L.take k ++ [nth o i] ++ L.drop k).length ((L.take k ++ [nth o i] ++ L.drop k).map (Value.int .i64)) by
                    rw [hlen, List.map_append, List.map_append]; exact Joins.ownsRow_le hown3 HBq.out.size)
                  have HB3 := Lib.hid (HBq.out.trans ((show Below wq.heap.size wq w3 from (by repeat (first | (with_reducible exact Below.refl _ _) | ((with_reducible refine alloc_ ?_ ?_); (focus (first | exact Nat.le_refl _ | (simp; done) | (simp; omega) | omega))) | ((with_reducible refine set_ ?_ ?_); (focus (first | exact Nat.le_refl _ | (simp; done) | (simp; omega) | omega))) | (with_reducible refine Below.drew ?_) | ((with_reducible refine after_ ?_ (by assumption) ?_); (rotate_left; (focus (first | exact Nat.le_refl _ | (simp; done) | (simp; omega) | omega))))))).mono HBq.out.size))
                  have Hlen := Lib.hid hlen
                  clear hown3 hown2 hown1 hb1 hb2 hb3 hk1 hk2 hk3 hlen hz1 hz2 hz3 s1 s2 s3 s4 s5
                  go_wp2_with fail
                  go_roundw
                  case rel => exact ⟨i + 1, g3, cap3, L.take k ++ [nth o i] ++ L.drop k, by omega, by go_num, HNew.out, by have := Hlen.out; omega, by rw [Hlen.out]; simp, HO3.out, HB3.out⟩
                  case measure => simp [intOf]; omega
              case neg =>
                have s5 : k ≤ k := Nat.le_refl _
                go_region_law (first
                  | (refine step_extend rfl (.tmp 36) (.tmp 39) 22 rfl wq.heap.size 3 (.int .i64 0) 1 8 Try.underlying22 info_int rfl (by decide) (by decide) _ 0 [] rfl ?_ g 0 k _ ((L.take k).map (Value.int .i64)) rfl ?_ (newsI (HRLq.out.take k) (by repeat (first | (with_reducible exact Below.refl _ _) | ((with_reducible refine alloc_ ?_ ?_); (focus (first | exact Nat.le_refl _ | (simp; done) | (simp; omega) | omega))) | ((with_reducible refine set_ ?_ ?_); (focus (first | exact Nat.le_refl _ | (simp; done) | (simp; omega) | omega))) | (with_reducible refine Below.drew ?_) | ((with_reducible refine after_ ?_ (by assumption) ?_); (rotate_left; (focus (first | exact Nat.le_refl _ | (simp; done) | (simp; omega) | omega))))))) (ints_one' _) ?_ ?_ ?_; (focus (first | exact oe1 (Nat.le_refl _) | exact oe2 (Nat.le_refl _) | exact oe3 (Nat.le_refl _))); (focus (rw [List.length_map, List.length_take]; omega)); (focus omega); (focus (first | omega | (simp; done) | (simp; omega))); intro v1 w1 hown1 hb1 hk1; have hz1 := hb1.size; (try simp at hz1); have HW0 := Lib.hid (show Below wq.heap.size wq w1 from (by repeat (first | (with_reducible exact Below.refl _ _) | ((with_reducible refine alloc_ ?_ ?_); (focus (first | exact Nat.le_refl _ | (simp; done) | (simp; omega) | omega))) | ((with_reducible refine set_ ?_ ?_); (focus (first | exact Nat.le_refl _ | (simp; done) | (simp; omega) | omega))) | (with_reducible refine Below.drew ?_) | ((with_reducible refine after_ ?_ (by assumption) ?_); (rotate_left; (focus (first | exact Nat.le_refl _ | (simp; done) | (simp; omega) | omega))))))); have HW1 := Lib.hid (HBq.out.trans (HW0.out.mono HBq.out.size)); have ce := HSens.out w1 HW1.out)
                  | (refine step_extend rfl (.tmp 40) (.tmp 45) 22 rfl wq.heap.size 3 (.int .i64 0) 1 8 Try.underlying22 info_int rfl (by decide) (by decide) _ ?_ ?_ rfl ?_ _ _ _ _ [.int .i64 (nth o i)] rfl rfl ?_ ?_ ?_ ?_ ?_; rotate_left 2; (focus (first | exact hown1 | exact hown1.alloc _)); (focus (first | exact news_one (cs := #[.int .i64 (nth o i)]) (heap_alloc_new _ _) | exact news_one (cs := #[.int .i64 (nth o i)]) (nk2 hk1) | exact news_one (cs := #[.int .i64 (nth o i)]) (nk3 hk1))); (focus (intro u hu; simp at hu; subst hu; rfl)); (focus omega); (focus (first | omega | (simp; omega))); intro v2 w2 hown2 hb2 hk2; have hz2 := hb2.size; (try simp at hz2))
                  | (refine step_extend rfl (.tmp 46) (.tmp 49) 22 rfl wq.heap.size 3 (.int .i64 0) 1 8 Try.underlying22 info_int rfl (by decide) (by decide) _ _ _ rfl hown2 g (k) (L.length - k) _ ((L.drop k).map (Value.int .i64)) rfl ?_ (newsD (HRLq.out.drop k) (by repeat (first | (with_reducible exact Below.refl _ _) | ((with_reducible refine alloc_ ?_ ?_); (focus (first | exact Nat.le_refl _ | (simp; done) | (simp; omega) | omega))) | ((with_reducible refine set_ ?_ ?_); (focus (first | exact Nat.le_refl _ | (simp; done) | (simp; omega) | omega))) | (with_reducible refine Below.drew ?_) | ((with_reducible refine after_ ?_ (by assumption) ?_); (rotate_left; (focus (first | exact Nat.le_refl _ | (simp; done) | (simp; omega) | omega))))))) (ints_one' _) ?_ ?_ ?_; (focus (rw [List.length_map, List.length_drop] <;> omega)); (focus omega); (focus (first | omega | (simp; omega))); intro v3 w3 hown3 hb3 hk3; have hz3 := hb3.size))
                all_goals
                  have hlen : (L.take k ++ [nth o i] ++ L.drop k).length = 0 + k + 1 + (L.length - k) := by simp only [List.length_append, List.length_take, List.length_drop, List.length_singleton]; omega
                  have HNew := Lib.hid (show L.take k ++ [nth o i] ++ L.drop k = isort (posL (o.take (i + 1))) by
                    rw [H.out, isort_put (o := posL (o.take i)) (x := nth o i) (k := k) (by rw [← HL.out]; exact hk) (by rw [← HL.out]; exact HHi.out) (by rw [← HL.out]; exact HLo.out), ← HL.out])
                  obtain ⟨g3, cap3, rfl⟩ := Joins.ownsRow_form hown3 (by omega)
                  have HO3 := Lib.hid (show w3.ownsRow w.heap.size 3 1 (.slice (some ⟨g3, 0, none⟩) (L.take k ++ [nth o i] ++ L.drop k).length cap3) (L.take k ++ [nth o i] ++ L.drop k).length ((L.take k ++ [nth o i] ++ L.drop k).map (Value.int .i64)) by
                    rw [hlen, List.map_append, List.map_append]; exact Joins.ownsRow_le hown3 HBq.out.size)
                  have HB3 := Lib.hid (HBq.out.trans ((show Below wq.heap.size wq w3 from (by repeat (first | (with_reducible exact Below.refl _ _) | ((with_reducible refine alloc_ ?_ ?_); (focus (first | exact Nat.le_refl _ | (simp; done) | (simp; omega) | omega))) | ((with_reducible refine set_ ?_ ?_); (focus (first | exact Nat.le_refl _ | (simp; done) | (simp; omega) | omega))) | (with_reducible refine Below.drew ?_) | ((with_reducible refine after_ ?_ (by assumption) ?_); (rotate_left; (focus (first | exact Nat.le_refl _ | (simp; done) | (simp; omega) | omega))))))).mono HBq.out.size))
                  have Hlen := Lib.hid hlen
                  clear hown3 hown2 hown1 hb1 hb2 hb3 hk1 hk2 hk3 hlen hz1 hz2 hz3 s1 s2 s3 s4 s5
                  go_wp2_with fail
                  go_roundw
                  case rel => exact ⟨i + 1, g3, cap3, L.take k ++ [nth o i] ++ L.drop k, by omega, by go_num, HNew.out, by have := Hlen.out; omega, by rw [Hlen.out]; simp, HO3.out, HB3.out⟩
                  case measure => simp [intOf]; omega
          · have HLo := Lib.hid (show k = 0 ∨ nth L (k - 1) ≤ nth o i from .inl (by omega))
            have hk0' : decide ((0 : Int) < (k : Int)) = false := decide_eq_false (by omega)
            clear hbel
            go_wp2_with fail
            refine wp_region_mem (by kernel_rfl) (by kernel_rfl) ?_
            repeat (go_big_quiet_step (fail))
            refine wpQuiet_nil ?_
            intro _ hw'
            obtain ⟨⟨wq, hbq⟩, hw''⟩ := hw'
            obtain rfl := hw''.symm
            obtain ⟨hcq, hfq, hzq⟩ := bcell hbq
            try simp [Nat.add_one_le_iff] at hzq
            have HBq := Lib.hid (HBw.out.trans (hbq.mono HBw.out.size))
            have HRLq := Lib.hid (HRL.out.carry (HBi.out.trans (hbq.mono z2)))
            have ceq := HSens.out wq HBq.out
            have hbq2 : b < wq.heap.size := by have := hbq.size; omega
            have hwq := HBq.out.size
            go_wp2_with fail
            have s1 : (k : Int) ≤ L.length := by omega
            have s2 : (k : Int) ≤ gc := by omega
            have s3 : (k : Int) ≤ (k : Int) := by omega
            have s4 : (0 : Int) ≤ (k : Int) := by omega
            by_cases hcj : gc = k
            case pos =>
              have hcj2 := hcj.symm
              subst hcj2
              have s5 : k ≤ k := Nat.le_refl _
              go_region_law (first
                | (refine step_extend rfl (.tmp 36) (.tmp 39) 22 rfl wq.heap.size 3 (.int .i64 0) 1 8 Try.underlying22 info_int rfl (by decide) (by decide) _ 0 [] rfl ?_ g 0 k _ ((L.take k).map (Value.int .i64)) rfl ?_ (newsI (HRLq.out.take k) (by repeat (first | (with_reducible exact Below.refl _ _) | ((with_reducible refine alloc_ ?_ ?_); (focus (first | exact Nat.le_refl _ | (simp; done) | (simp; omega) | omega))) | ((with_reducible refine set_ ?_ ?_); (focus (first | exact Nat.le_refl _ | (simp; done) | (simp; omega) | omega))) | (with_reducible refine Below.drew ?_) | ((with_reducible refine after_ ?_ (by assumption) ?_); (rotate_left; (focus (first | exact Nat.le_refl _ | (simp; done) | (simp; omega) | omega))))))) (ints_one' _) ?_ ?_ ?_; (focus (first | exact oe1 (Nat.le_refl _) | exact oe2 (Nat.le_refl _) | exact oe3 (Nat.le_refl _))); (focus (rw [List.length_map, List.length_take]; omega)); (focus omega); (focus (first | omega | (simp; done) | (simp; omega))); intro v1 w1 hown1 hb1 hk1; have hz1 := hb1.size; (try simp at hz1); have HW0 := Lib.hid (show Below wq.heap.size wq w1 from (by repeat (first | (with_reducible exact Below.refl _ _) | ((with_reducible refine alloc_ ?_ ?_); (focus (first | exact Nat.le_refl _ | (simp; done) | (simp; omega) | omega))) | ((with_reducible refine set_ ?_ ?_); (focus (first | exact Nat.le_refl _ | (simp; done) | (simp; omega) | omega))) | (with_reducible refine Below.drew ?_) | ((with_reducible refine after_ ?_ (by assumption) ?_); (rotate_left; (focus (first | exact Nat.le_refl _ | (simp; done) | (simp; omega) | omega))))))); have HW1 := Lib.hid (HBq.out.trans (HW0.out.mono HBq.out.size)); have ce := HSens.out w1 HW1.out)
                | (refine step_extend rfl (.tmp 40) (.tmp 45) 22 rfl wq.heap.size 3 (.int .i64 0) 1 8 Try.underlying22 info_int rfl (by decide) (by decide) _ ?_ ?_ rfl ?_ _ _ _ _ [.int .i64 (nth o i)] rfl rfl ?_ ?_ ?_ ?_ ?_; rotate_left 2; (focus (first | exact hown1 | exact hown1.alloc _)); (focus (first | exact news_one (cs := #[.int .i64 (nth o i)]) (heap_alloc_new _ _) | exact news_one (cs := #[.int .i64 (nth o i)]) (nk2 hk1) | exact news_one (cs := #[.int .i64 (nth o i)]) (nk3 hk1))); (focus (intro u hu; simp at hu; subst hu; rfl)); (focus omega); (focus (first | omega | (simp; omega))); intro v2 w2 hown2 hb2 hk2; have hz2 := hb2.size; (try simp at hz2))
                | (refine step_extend rfl (.tmp 46) (.tmp 49) 22 rfl wq.heap.size 3 (.int .i64 0) 1 8 Try.underlying22 info_int rfl (by decide) (by decide) _ _ _ rfl hown2 g (0) (0) _ ((L.drop k).map (Value.int .i64)) rfl ?_ (no_newsI (by omega)) (ints_one' _) ?_ ?_ ?_; (focus (rw [List.length_map, List.length_drop] <;> omega)); (focus omega); (focus (first | omega | (simp; omega))); intro v3 w3 hown3 hb3 hk3; have hz3 := hb3.size))
              all_goals
                have hlen : (L.take k ++ [nth o i] ++ L.drop k).length = 0 + k + 1 + (0) := by simp only [List.length_append, List.length_take, List.length_drop, List.length_singleton]; omega
                have HNew := Lib.hid (show L.take k ++ [nth o i] ++ L.drop k = isort (posL (o.take (i + 1))) by
                  rw [H.out, isort_put (o := posL (o.take i)) (x := nth o i) (k := k) (by rw [← HL.out]; exact hk) (by rw [← HL.out]; exact HHi.out) (by rw [← HL.out]; exact HLo.out), ← HL.out])
                obtain ⟨g3, cap3, rfl⟩ := Joins.ownsRow_form hown3 (by omega)
                have HO3 := Lib.hid (show w3.ownsRow w.heap.size 3 1 (.slice (some ⟨g3, 0, none⟩) (L.take k ++ [nth o i] ++ L.drop k).length cap3) (L.take k ++ [nth o i] ++ L.drop k).length ((L.take k ++ [nth o i] ++ L.drop k).map (Value.int .i64)) by
                  rw [hlen, List.map_append, List.map_append]; exact Joins.ownsRow_le hown3 HBq.out.size)
                have HB3 := Lib.hid (HBq.out.trans ((show Below wq.heap.size wq w3 from (by repeat (first | (with_reducible exact Below.refl _ _) | ((with_reducible refine alloc_ ?_ ?_); (focus (first | exact Nat.le_refl _ | (simp; done) | (simp; omega) | omega))) | ((with_reducible refine set_ ?_ ?_); (focus (first | exact Nat.le_refl _ | (simp; done) | (simp; omega) | omega))) | (with_reducible refine Below.drew ?_) | ((with_reducible refine after_ ?_ (by assumption) ?_); (rotate_left; (focus (first | exact Nat.le_refl _ | (simp; done) | (simp; omega) | omega))))))).mono HBq.out.size))
                have Hlen := Lib.hid hlen
                clear hown3 hown2 hown1 hb1 hb2 hb3 hk1 hk2 hk3 hlen hz1 hz2 hz3 s1 s2 s3 s4 s5
                go_wp2_with fail
                go_roundw
                case rel => exact ⟨i + 1, g3, cap3, L.take k ++ [nth o i] ++ L.drop k, by omega, by go_num, HNew.out, by have := Hlen.out; omega, by rw [Hlen.out]; simp, HO3.out, HB3.out⟩
                case measure => simp [intOf]; omega
            case neg =>
              have s5 : k ≤ k := Nat.le_refl _
              go_region_law (first
                | (refine step_extend rfl (.tmp 36) (.tmp 39) 22 rfl wq.heap.size 3 (.int .i64 0) 1 8 Try.underlying22 info_int rfl (by decide) (by decide) _ 0 [] rfl ?_ g 0 k _ ((L.take k).map (Value.int .i64)) rfl ?_ (newsI (HRLq.out.take k) (by repeat (first | (with_reducible exact Below.refl _ _) | ((with_reducible refine alloc_ ?_ ?_); (focus (first | exact Nat.le_refl _ | (simp; done) | (simp; omega) | omega))) | ((with_reducible refine set_ ?_ ?_); (focus (first | exact Nat.le_refl _ | (simp; done) | (simp; omega) | omega))) | (with_reducible refine Below.drew ?_) | ((with_reducible refine after_ ?_ (by assumption) ?_); (rotate_left; (focus (first | exact Nat.le_refl _ | (simp; done) | (simp; omega) | omega))))))) (ints_one' _) ?_ ?_ ?_; (focus (first | exact oe1 (Nat.le_refl _) | exact oe2 (Nat.le_refl _) | exact oe3 (Nat.le_refl _))); (focus (rw [List.length_map, List.length_take]; omega)); (focus omega); (focus (first | omega | (simp; done) | (simp; omega))); intro v1 w1 hown1 hb1 hk1; have hz1 := hb1.size; (try simp at hz1); have HW0 := Lib.hid (show Below wq.heap.size wq w1 from (by repeat (first | (with_reducible exact Below.refl _ _) | ((with_reducible refine alloc_ ?_ ?_); (focus (first | exact Nat.le_refl _ | (simp; done) | (simp; omega) | omega))) | ((with_reducible refine set_ ?_ ?_); (focus (first | exact Nat.le_refl _ | (simp; done) | (simp; omega) | omega))) | (with_reducible refine Below.drew ?_) | ((with_reducible refine after_ ?_ (by assumption) ?_); (rotate_left; (focus (first | exact Nat.le_refl _ | (simp; done) | (simp; omega) | omega))))))); have HW1 := Lib.hid (HBq.out.trans (HW0.out.mono HBq.out.size)); have ce := HSens.out w1 HW1.out)
                | (refine step_extend rfl (.tmp 40) (.tmp 45) 22 rfl wq.heap.size 3 (.int .i64 0) 1 8 Try.underlying22 info_int rfl (by decide) (by decide) _ ?_ ?_ rfl ?_ _ _ _ _ [.int .i64 (nth o i)] rfl rfl ?_ ?_ ?_ ?_ ?_; rotate_left 2; (focus (first | exact hown1 | exact hown1.alloc _)); (focus (first | exact news_one (cs := #[.int .i64 (nth o i)]) (heap_alloc_new _ _) | exact news_one (cs := #[.int .i64 (nth o i)]) (nk2 hk1) | exact news_one (cs := #[.int .i64 (nth o i)]) (nk3 hk1))); (focus (intro u hu; simp at hu; subst hu; rfl)); (focus omega); (focus (first | omega | (simp; omega))); intro v2 w2 hown2 hb2 hk2; have hz2 := hb2.size; (try simp at hz2))
                | (refine step_extend rfl (.tmp 46) (.tmp 49) 22 rfl wq.heap.size 3 (.int .i64 0) 1 8 Try.underlying22 info_int rfl (by decide) (by decide) _ _ _ rfl hown2 g (k) (L.length - k) _ ((L.drop k).map (Value.int .i64)) rfl ?_ (newsD (HRLq.out.drop k) (by repeat (first | (with_reducible exact Below.refl _ _) | ((with_reducible refine alloc_ ?_ ?_); (focus (first | exact Nat.le_refl _ | (simp; done) | (simp; omega) | omega))) | ((with_reducible refine set_ ?_ ?_); (focus (first | exact Nat.le_refl _ | (simp; done) | (simp; omega) | omega))) | (with_reducible refine Below.drew ?_) | ((with_reducible refine after_ ?_ (by assumption) ?_); (rotate_left; (focus (first | exact Nat.le_refl _ | (simp; done) | (simp; omega) | omega))))))) (ints_one' _) ?_ ?_ ?_; (focus (rw [List.length_map, List.length_drop] <;> omega)); (focus omega); (focus (first | omega | (simp; omega))); intro v3 w3 hown3 hb3 hk3; have hz3 := hb3.size))
              all_goals
                have hlen : (L.take k ++ [nth o i] ++ L.drop k).length = 0 + k + 1 + (L.length - k) := by simp only [List.length_append, List.length_take, List.length_drop, List.length_singleton]; omega
                have HNew := Lib.hid (show L.take k ++ [nth o i] ++ L.drop k = isort (posL (o.take (i + 1))) by
                  rw [H.out, isort_put (o := posL (o.take i)) (x := nth o i) (k := k) (by rw [← HL.out]; exact hk) (by rw [← HL.out]; exact HHi.out) (by rw [← HL.out]; exact HLo.out), ← HL.out])
                obtain ⟨g3, cap3, rfl⟩ := Joins.ownsRow_form hown3 (by omega)
                have HO3 := Lib.hid (show w3.ownsRow w.heap.size 3 1 (.slice (some ⟨g3, 0, none⟩) (L.take k ++ [nth o i] ++ L.drop k).length cap3) (L.take k ++ [nth o i] ++ L.drop k).length ((L.take k ++ [nth o i] ++ L.drop k).map (Value.int .i64)) by
                  rw [hlen, List.map_append, List.map_append]; exact Joins.ownsRow_le hown3 HBq.out.size)
                have HB3 := Lib.hid (HBq.out.trans ((show Below wq.heap.size wq w3 from (by repeat (first | (with_reducible exact Below.refl _ _) | ((with_reducible refine alloc_ ?_ ?_); (focus (first | exact Nat.le_refl _ | (simp; done) | (simp; omega) | omega))) | ((with_reducible refine set_ ?_ ?_); (focus (first | exact Nat.le_refl _ | (simp; done) | (simp; omega) | omega))) | (with_reducible refine Below.drew ?_) | ((with_reducible refine after_ ?_ (by assumption) ?_); (rotate_left; (focus (first | exact Nat.le_refl _ | (simp; done) | (simp; omega) | omega))))))).mono HBq.out.size))
                have Hlen := Lib.hid hlen
                clear hown3 hown2 hown1 hb1 hb2 hb3 hk1 hk2 hk3 hlen hz1 hz2 hz3 s1 s2 s3 s4 s5
                go_wp2_with fail
                go_roundw
                case rel => exact ⟨i + 1, g3, cap3, L.take k ++ [nth o i] ++ L.drop k, by omega, by go_num, HNew.out, by have := Hlen.out; omega, by rw [Hlen.out]; simp, HO3.out, HB3.out⟩
                case measure => simp [intOf]; omega
    · obtain rfl : i = o.length := by omega
      have HV := Lib.hid (vote_at (L := L) (by rw [HL.out, List.take_length]) n1)
      by_cases h1 : 2 * L.length < o.length
      · have HV2 := Lib.hid (HV.out.trans (if_pos (.inl h1)))
        have h1' : (2 : Int) * L.length < o.length := by omega
        clear hbel
        go_wp2_with fail
        go_ret
        exact ⟨reti HV2.out.symm, HB.out⟩
      · have h1' : decide ((2 : Int) * L.length < o.length) = false := decide_eq_false (by omega)
        have h2' : ((L.length : Int) == 0) = false := beq_eq_false_iff_ne.2 (by omega)
        have HV2 := Lib.hid (HV.out.trans (if_neg (by omega)))
        obtain ⟨b', off', he, hb', hc'⟩ := HRL.out.int (show L.length / 2 < L.length by omega)
        simp only [Option.some.injEq, Addr.mk.injEq, and_true] at he
        obtain ⟨rfl, rfl⟩ := he
        rw [Nat.zero_add] at hc'
        have i1 : (L.length : Int) / 2 < L.length := by omega
        have i2 : ((L.length : Int) / 2).toNat = L.length / 2 := by omega
        clear hbel
        go_wp2_with fail
        go_ret
        exact ⟨reti HV2.out.symm, HB.out⟩
end Go.Proofs.Ytkmklbkgdphoaaa
