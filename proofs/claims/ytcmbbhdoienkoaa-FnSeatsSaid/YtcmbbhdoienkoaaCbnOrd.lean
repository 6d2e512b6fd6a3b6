/- The reference's order of cabins is the stable order, greatest first; no conditions but the length. -/
import Derived.Test.YtcmbbhdoienkoaaCbnArr
import Derived.Deep.RegionLaw
namespace Go.Proofs.Ytcmbbhdoienkoaa
open Go.RowKit Go.Lib

/-- Where insertion puts a cabin. -/
theorem insC_at {key : Cbn → Int} {x : Cbn} : ∀ {q : List Cbn} {k : Nat}, k ≤ q.length → (∀ j, k ≤ j → j < q.length → key (nth q.reverse j) < key x) → (k = 0 ∨ ¬ key (nth q.reverse (k - 1)) < key x) → (insC key x q).reverse = q.reverse.take k ++ [x] ++ q.reverse.drop k
  | [], k, hk, _, _ => by
    have : k = 0 := by simpa using hk
    subst this; rfl
  | y :: q, k, hk, hhi, hlo => by
    have at_ : ∀ j, j < q.length → nth (y :: q).reverse j = nth q.reverse j := fun j hj => by
      rw [nth_eq (by simp; omega), nth_eq (by simpa using hj)]
      simp [hj]
    have last : nth (y :: q).reverse q.length = y := by
      rw [nth_eq (by simp)]; simp
    have hk' : k ≤ q.length + 1 := by simpa using hk
    rw [insC]; split
    · next c =>
      have hkq : k ≤ q.length := by
        rcases Nat.lt_or_ge q.length k with h | h
        · have e : k = q.length + 1 := by omega
          subst e
          rcases hlo with h1 | h1
          · omega
          · rw [Nat.add_sub_cancel, last] at h1; exact absurd c h1
        · exact h
      have ih := insC_at (key := key) (x := x) (q := q) (k := k) hkq (fun j h1 h2 => by rw [← at_ j h2]; exact hhi j h1 (by simp; omega)) (by
        rcases hlo with h1 | h1
        · exact .inl h1
        · by_cases h0 : k = 0
          · exact .inl h0
          · rw [at_ (k - 1) (by omega)] at h1; exact .inr h1)
      rw [List.reverse_cons, ih, List.reverse_cons, List.take_append_of_le_length (by simpa using hkq), List.drop_append_of_le_length (by simpa using hkq)]; simp
    · next c =>
      have e : k = q.length + 1 := by
        rcases Nat.lt_or_ge k (q.length + 1) with h | h
        · have := hhi q.length (by omega) (by simp)
          rw [last] at this; exact absurd this c
        · omega
      subst e
      rw [List.take_of_length_le (by simp), List.drop_eq_nil_of_le (by simp)]; simp
theorem ordC_put {key : Cbn → Int} {o : List Cbn} {x : Cbn} {k : Nat} (hk : k ≤ (ordC key o).length) (hhi : ∀ j, k ≤ j → j < (ordC key o).length → key (nth (ordC key o) j) < key x) (hlo : k = 0 ∨ key x ≤ key (nth (ordC key o) (k - 1))) :
    ordC key (o ++ [x]) = (ordC key o).take k ++ [x] ++ (ordC key o).drop k := by
  unfold ordC at *
  rw [isC_snoc]
  exact insC_at (by simpa using hk) (fun j h1 h2 => hhi j h1 (by simpa using h2)) (by rcases hlo with h | h; exact .inl h; exact .inr (by omega))
theorem newsDC {w W : World} {B b k : Nat} {o : List Cbn} (h : Rd w B 5 Cbn.cells (some ⟨b, 0 + k * 5, none⟩) o) (hb : Below B w W) : ∀ j u, (flat Cbn.cells o)[j]? = some u → W.cell? ⟨b, k * 5 + j, none⟩ = some u := fun j u hj => by
  have := h.news hb (fun _ => rfl) (by decide) j u hj
  simpa using this
theorem no_newsC {l : List Cbn} {k : Nat} {P : Nat → Value → Prop} (h : l.length ≤ k) : ∀ j u, (flat Cbn.cells (l.drop k))[j]? = some u → P j u := fun j u hj => by
  rw [List.drop_eq_nil_of_le h] at hj
  simp [flat] at hj
theorem cbn_one (o : List Cbn) : ∀ u ∈ flat Cbn.cells o, u.oneCell' = true := flat_cells (fun x u hu => by simp [Cbn.cells] at hu; rcases hu with rfl | rfl | rfl | rfl | rfl <;> rfl) o
theorem cbn_one1 (x : Cbn) : ∀ u ∈ Cbn.cells x, u.oneCell' = true := fun u hu => by simp [Cbn.cells] at hu; rcases hu with rfl | rfl | rfl | rfl | rfl <;> rfl
theorem flat_len5 (o : List Cbn) : (flat Cbn.cells o).length = o.length * 5 := flat_len (k := 5) (cells := Cbn.cells) (fun _ => rfl) o
set_option maxHeartbeats 6400000 in
theorem orderTrips_c (l : List Cbn) (A : Option Addr) (cap : Nat) (w : World) (hl : l.length ≤ 12) (hr : Rd w w.heap.size 5 Cbn.cells A l) :
    Calls Try.prog 38 #[.slice A l.length cap, .bool true] w (GivesC (ordC Cbn.r l) w) := by
  obtain ⟨KEY, hKEY⟩ : ∃ f : Cbn → Int, f = Cbn.r := ⟨_, rfl⟩
  have HKEY := Lib.hid (fun c => congrFun hKEY c)
  rw [← hKEY]
  clear hKEY
  have HR := Lib.hid hr
  clear hr
  go_enter Try.func38, Try.ntmps38
  go_wp2_with fail
  go_loopw [5, 6, 7] (fun v i _ wr => ∃ (k : Nat) (g gc : Nat) (L : List Cbn), k ≤ l.length ∧ i = .int .i64 k ∧ L = ordC KEY (l.take k) ∧ L.length ≤ k ∧ v = .slice (some ⟨g, 0, none⟩) L.length gc ∧ wr.ownsRow w.heap.size 33 5 (.slice (some ⟨g, 0, none⟩) L.length gc) L.length (flat Cbn.cells L) ∧ Below w.heap.size w wr) (fun _ i _ _ => l.length - (intOf i).toNat)
  case atStart => exact ⟨0, w.heap.size, 0, [], Nat.zero_le _, rfl, rfl, Nat.le_refl _, rfl, ownsRow_empty w 33 5, (by repeat (first | (with_reducible exact Below.refl _ _) | ((with_reducible refine alloc_ ?_ ?_); (focus (first | exact Nat.le_refl _ | (simp; done) | (simp; omega) | omega))) | ((with_reducible refine set_ ?_ ?_); (focus (first | exact Nat.le_refl _ | (simp; done) | (simp; omega) | omega))) | (with_reducible refine Below.drew ?_) | ((with_reducible refine after_ ?_ (by assumption) ?_); (rotate_left; (focus (first | exact Nat.le_refl _ | (simp; done) | (simp; omega) | omega))))))⟩
  case round =>
    obtain ⟨i, g, gc, L, hi, rfl, hL, hLi, rfl, hown, hbel⟩ := hrel
    have HB := Lib.hid hbel
    have HO := Lib.hid hown
    have HL := Lib.hid hL
    have z1 := hbel.size
    have hcp := own_cap hown
    have HRL := Lib.hid ((Own.of_row' hown rfl rfl (fun _ => rfl)).rd fun _ => rfl)
    clear hown hL
    by_cases hlt : i < l.length
    · obtain ⟨b, off, rfl, hb, _⟩ := Cbn.rd (HR.out.below hbel (Nat.le_refl _)) hlt
      obtain ⟨x, hx⟩ : ∃ x, nth l i = x := ⟨_, rfl⟩
      have HSens := Lib.hid (show ∀ W : World, Below w.heap.size w W → W.cell? ⟨b, off + i * 5, none⟩ = some (.int .i64 x.n) ∧ W.cell? ⟨b, off + i * 5 + 1, none⟩ = some (.int .i64 x.s) ∧ W.cell? ⟨b, off + i * 5 + 2, none⟩ = some (.int .i64 x.e) ∧ W.cell? ⟨b, off + i * 5 + 3, none⟩ = some (.int .i64 x.t) ∧ W.cell? ⟨b, off + i * 5 + 4, none⟩ = some (.int .i64 x.r) from fun W hW => by
        obtain ⟨b', off', he, _, hc'⟩ := Cbn.rd (HR.out.below hW (Nat.le_refl _)) hlt
        simp only [Option.some.injEq, Addr.mk.injEq, and_true] at he
        obtain ⟨rfl, rfl⟩ := he
        rw [← hx]; exact hc')
      have H := Lib.hid (show l.take (i + 1) = l.take i ++ [x] by rw [List.take_succ_eq_append_getElem hlt, ← hx, nth_eq hlt])
      have l1 : b < wr.heap.size := by omega
      have i1 : (i : Int) < l.length := by omega
      have i0 : (0 : Int) ≤ (i : Int) := by omega
      clear hbel hx
      go_wp2_with fail
      obtain ⟨wo, rfl⟩ : ∃ wo : World, wo = wr := ⟨_, rfl⟩
      go_loopw [7] (fun q wr => ∃ k : Nat, k ≤ L.length ∧ q = .int .i64 k ∧ (∀ j, k ≤ j → j < L.length → KEY (nth L j) < KEY x) ∧ Below wo.heap.size wo wr) (fun q _ => (intOf q).toNat)
      case atStart => exact ⟨L.length, Nat.le_refl _, rfl, fun j h1 h2 => absurd h1 (by omega), Below.refl _ _⟩
      case round =>
        obtain ⟨k, hk, rfl, hhi, hbel⟩ := hrel
        have HBi := Lib.hid hbel
        have HHi := Lib.hid hhi
        have z2 := hbel.size
        have HBw := Lib.hid (HB.out.trans (hbel.mono z1))
        obtain ⟨ce0, ce1, ce2, ce3, ce4⟩ := HSens.out wr HBw.out
        have l2 : b < wr.heap.size := by omega
        clear hhi
        by_cases hk0 : 0 < k
        · obtain ⟨b', off', he, hb', hd0, hd1, hd2, hd3, hd4⟩ := Cbn.rd (HRL.out.below hbel (Nat.le_refl _)) (show k - 1 < L.length by omega)
          simp only [Option.some.injEq, Addr.mk.injEq, and_true] at he
          obtain ⟨rfl, rfl⟩ := he
          rw [Nat.zero_add] at hd0 hd1 hd2 hd3 hd4
          obtain ⟨y, hy⟩ : ∃ y, nth L (k - 1) = y := ⟨_, rfl⟩
          rw [hy] at hd0 hd1 hd2 hd3 hd4
          have s1 : IntKind.i64.wrap ((k : Int) - 1) = (k : Int) - 1 := IntWalk.i64_in _ (by omega)
          have s2 : ((k : Int) - 1).toNat = k - 1 := by omega
          have s3 : (0 : Int) ≤ (k : Int) - 1 := by omega
          have s4 : (k : Int) - 1 < L.length := by omega
          have s5 : (1 : Int) ≤ (k : Int) := by omega
          have s6 : decide ((0 : Int) < (k : Int)) = true := decide_eq_true (by omega)
          have hg2 : g < wr.heap.size := by omega
          have HY := Lib.hid hy
          clear hy
          by_cases hx : Cbn.r y < Cbn.r x
          · have hx' : decide (Cbn.r y < Cbn.r x) = true := decide_eq_true hx
            have HX := Lib.hid (show KEY y < KEY x by rw [HKEY.out, HKEY.out]; exact hx)
            clear hbel
            go_wp2_with fail
            refine wp_region_mem (by kernel_rfl) (by kernel_rfl) ?_
            repeat (go_big_quiet_step (fail))
            refine wpQuiet_nil ?_
            intro _ hw'
            obtain ⟨⟨wq, hbq⟩, hw''⟩ := hw'
            obtain rfl := hw''.symm
            obtain ⟨hcq, hfq, hzq⟩ := bcell hbq
            try simp [Nat.add_one_le_iff] at hzq
            go_wp2_with fail
            go_roundw
            case rel => exact ⟨k - 1, by omega, by go_num, fun j h1 h2 => by
              by_cases e : j = k - 1
              · subst e; rw [HY.out]; exact HX.out
              · exact HHi.out j (by omega) h2, HBi.out.trans (hbq.mono z2)⟩
            case measure => simp [intOf]; omega
          · have hx' : decide (Cbn.r y < Cbn.r x) = false := decide_eq_false hx
            have HLo := Lib.hid (show k = 0 ∨ KEY x ≤ KEY (nth L (k - 1)) from .inr (by rw [HY.out, HKEY.out, HKEY.out]; omega))
            clear hbel hx
            go_wp2_with fail
            clear s1 s2 s3 s4 s5 s6
            refine wp_region_mem (by kernel_rfl) (by kernel_rfl) ?_
            repeat (go_big_quiet_step (fail))
            refine wpQuiet_nil ?_
            intro _ hw'
            obtain ⟨⟨wq, hbq⟩, hw''⟩ := hw'
            obtain rfl := hw''.symm
            obtain ⟨hcq, hfq, hzq⟩ := bcell hbq
            try simp [Nat.add_one_le_iff] at hzq
            have HBq := Lib.hid (HBw.out.trans (hbq.mono HBw.out.size))
            have HRLq := Lib.hid (HRL.out.carry (HBi.out.trans (hbq.mono z2)))
            obtain ⟨cf0, cf1, cf2, cf3, cf4⟩ := HSens.out wq HBq.out
            have hbq2 : b < wq.heap.size := by have := hbq.size; omega
            have hwq := HBq.out.size
            go_wp2_with fail
            have s1 : (k : Int) ≤ L.length := by omega
            have s2 : (k : Int) ≤ gc := by omega
            have s3 : (k : Int) ≤ (k : Int) := by omega
            have s4 : (0 : Int) ≤ (k : Int) := by omega
            by_cases hcj : gc = k
            case pos =>
              have hcj2 := hcj.symm
              subst hcj2
              have s5 : k ≤ k := Nat.le_refl _
              go_region_law (first
                | (refine step_extend rfl (.tmp 56) (.tmp 59) 24 rfl wq.heap.size 33 (.agg #[.int .i64 0, .int .i64 0, .int .i64 0, .int .i64 0, .int .i64 0]) 5 40 Try.underlying24 info_cbn rfl (by decide) (by decide) _ 0 [] rfl ?_ g 0 k _ (flat Cbn.cells (L.take k)) rfl ?_ ((HRLq.out.take k).news (by repeat (first | (with_reducible exact Below.refl _ _) | ((with_reducible refine alloc_ ?_ ?_); (focus (first | exact Nat.le_refl _ | (simp; done) | (simp; omega) | omega))) | ((with_reducible refine set_ ?_ ?_); (focus (first | exact Nat.le_refl _ | (simp; done) | (simp; omega) | omega))) | (with_reducible refine Below.drew ?_) | ((with_reducible refine after_ ?_ (by assumption) ?_); (rotate_left; (focus (first | exact Nat.le_refl _ | (simp; done) | (simp; omega) | omega)))))) (fun _ => rfl) (by decide)) (cbn_one _) ?_ ?_ ?_; (focus (first | exact oe1 (Nat.le_refl _) | exact oe2 (Nat.le_refl _) | exact oe3 (Nat.le_refl _))); (focus (rw [flat_len5, List.length_take]; omega)); (focus omega); (focus (first | omega | (simp; done) | (simp; omega))); intro v1 w1 hown1 hb1 hk1; have hz1 := hb1.size; (try simp at hz1); have HW0 := Lib.hid (show Below wq.heap.size wq w1 from (by repeat (first | (with_reducible exact Below.refl _ _) | ((with_reducible refine alloc_ ?_ ?_); (focus (first | exact Nat.le_refl _ | (simp; done) | (simp; omega) | omega))) | ((with_reducible refine set_ ?_ ?_); (focus (first | exact Nat.le_refl _ | (simp; done) | (simp; omega) | omega))) | (with_reducible refine Below.drew ?_) | ((with_reducible refine after_ ?_ (by assumption) ?_); (rotate_left; (focus (first | exact Nat.le_refl _ | (simp; done) | (simp; omega) | omega))))))); have HW1 := Lib.hid (HBq.out.trans (HW0.out.mono HBq.out.size)); obtain ⟨ce0, ce1, ce2, ce3, ce4⟩ := HSens.out w1 HW1.out)
                | (refine step_extend rfl (.tmp 60) (.tmp 65) 24 rfl wq.heap.size 33 (.agg #[.int .i64 0, .int .i64 0, .int .i64 0, .int .i64 0, .int .i64 0]) 5 40 Try.underlying24 info_cbn rfl (by decide) (by decide) _ ?_ ?_ rfl ?_ _ _ _ _ (Cbn.cells x) rfl rfl ?_ ?_ ?_ ?_ ?_; rotate_left 2; (focus (first | exact hown1 | exact hown1.alloc _)); (focus (first | exact news_one (cs := #[.int .i64 x.n, .int .i64 x.s, .int .i64 x.e, .int .i64 x.t, .int .i64 x.r]) (heap_alloc_new _ _) | exact news_one (cs := #[.int .i64 x.n, .int .i64 x.s, .int .i64 x.e, .int .i64 x.t, .int .i64 x.r]) (nk2 hk1) | exact news_one (cs := #[.int .i64 x.n, .int .i64 x.s, .int .i64 x.e, .int .i64 x.t, .int .i64 x.r]) (nk3 hk1))); (focus (exact cbn_one1 x)); (focus omega); (focus (first | omega | (simp; omega))); intro v2 w2 hown2 hb2 hk2; have hz2 := hb2.size; (try simp at hz2))
                | (refine step_extend rfl (.tmp 66) (.tmp 69) 24 rfl wq.heap.size 33 (.agg #[.int .i64 0, .int .i64 0, .int .i64 0, .int .i64 0, .int .i64 0]) 5 40 Try.underlying24 info_cbn rfl (by decide) (by decide) _ _ _ rfl hown2 g (0) (0) _ (flat Cbn.cells (L.drop k)) rfl ?_ (no_newsC (by omega)) (cbn_one _) ?_ ?_ ?_; (focus (rw [flat_len5, List.length_drop] <;> omega)); (focus omega); (focus (first | omega | (simp; omega))); intro v3 w3 hown3 hb3 hk3; have hz3 := hb3.size))
              all_goals
                have hlen : (L.take k ++ [x] ++ L.drop k).length = 0 + k + 1 + (0) := by simp only [List.length_append, List.length_take, List.length_drop, List.length_singleton]; omega
                have HNew := Lib.hid (show L.take k ++ [x] ++ L.drop k = ordC KEY (l.take (i + 1)) by
                  rw [H.out, ordC_put (o := l.take i) (x := x) (k := k) (by rw [← HL.out]; exact hk) (by rw [← HL.out]; exact HHi.out) (by rw [← HL.out]; exact HLo.out), ← HL.out])
                obtain ⟨g3, cap3, rfl⟩ := Joins.ownsRow_form hown3 (by omega)
                have HO3 := Lib.hid (show w3.ownsRow w.heap.size 33 5 (.slice (some ⟨g3, 0, none⟩) (L.take k ++ [x] ++ L.drop k).length cap3) (L.take k ++ [x] ++ L.drop k).length (flat Cbn.cells (L.take k ++ [x] ++ L.drop k)) by
                  rw [hlen, ← flat_app, ← flat_app, flat_one]; exact Joins.ownsRow_le hown3 HBq.out.size)
                have HB3 := Lib.hid (HBq.out.trans ((show Below wq.heap.size wq w3 from (by repeat (first | (with_reducible exact Below.refl _ _) | ((with_reducible refine alloc_ ?_ ?_); (focus (first | exact Nat.le_refl _ | (simp; done) | (simp; omega) | omega))) | ((with_reducible refine set_ ?_ ?_); (focus (first | exact Nat.le_refl _ | (simp; done) | (simp; omega) | omega))) | (with_reducible refine Below.drew ?_) | ((with_reducible refine after_ ?_ (by assumption) ?_); (rotate_left; (focus (first | exact Nat.le_refl _ | (simp; done) | (simp; omega) | omega))))))).mono HBq.out.size))
                have Hlen := Lib.hid hlen
                clear hown3 hown2 hown1 hb1 hb2 hb3 hk1 hk2 hk3 hlen hz1 hz2 hz3 s1 s2 s3 s4 s5
                go_wp2_with fail
                go_roundw
                case rel => exact ⟨i + 1, g3, cap3, L.take k ++ [x] ++ L.drop k, by omega, by go_num, HNew.out, by have := Hlen.out; omega, by rw [Hlen.out]; simp, HO3.out, HB3.out⟩
                case measure => simp [intOf]; omega
            case neg =>
              have s5 : k ≤ k := Nat.le_refl _
              go_region_law (first
                | (refine step_extend rfl (.tmp 56) (.tmp 59) 24 rfl wq.heap.size 33 (.agg #[.int .i64 0, .int .i64 0, .int .i64 0, .int .i64 0, .int .i64 0]) 5 40 Try.underlying24 info_cbn rfl (by decide) (by decide) _ 0 [] rfl ?_ g 0 k _ (flat Cbn.cells (L.take k)) rfl ?_ ((HRLq.out.take k).news (by repeat (first | (with_reducible exact Below.refl _ _) | ((with_reducible refine alloc_ ?_ ?_); (focus (first | exact Nat.le_refl _ | (simp; done) | (simp; omega) | omega))) | ((with_reducible refine set_ ?_ ?_); (focus (first | exact Nat.le_refl _ | (simp; done) | (simp; omega) | omega))) | (with_reducible refine Below.drew ?_) | ((with_reducible refine after_ ?_ (by assumption) ?_); (rotate_left; (focus (first | exact Nat.le_refl _ | (simp; done) | (simp; omega) | omega)))))) (fun _ => rfl) (by decide)) (cbn_one _) ?_ ?_ ?_; (focus (first | exact oe1 (Nat.le_refl _) | exact oe2 (Nat.le_refl _) | exact oe3 (Nat.le_refl _))); (focus (rw [flat_len5, List.length_take]; omega)); (focus omega); (focus (first | omega | (simp; done) | (simp; omega))); intro v1 w1 hown1 hb1 hk1; have hz1 := hb1.size; (try simp at hz1); have HW0 := Lib.hid (show Below wq.heap.size wq w1 from (by repeat (first | (with_reducible exact Below.refl _ _) | ((with_reducible refine alloc_ ?_ ?_); (focus (first | exact Nat.le_refl _ | (simp; done) | (simp; omega) | omega))) | ((with_reducible refine set_ ?_ ?_); (focus (first | exact Nat.le_refl _ | (simp; done) | (simp; omega) | omega))) | (with_reducible refine Below.drew ?_) | ((with_reducible refine after_ ?_ (by assumption) ?_); (rotate_left; (focus (first | exact Nat.le_refl _ | (simp; done) | (simp; omega) | omega))))))); have HW1 := Lib.hid (HBq.out.trans (HW0.out.mono HBq.out.size)); obtain ⟨ce0, ce1, ce2, ce3, ce4⟩ := HSens.out w1 HW1.out)
                | (refine step_extend rfl (.tmp 60) (.tmp 65) 24 rfl wq.heap.size 33 (.agg #[.int .i64 0, .int .i64 0, .int .i64 0, .int .i64 0, .int .i64 0]) 5 40 Try.underlying24 info_cbn rfl (by decide) (by decide) _ ?_ ?_ rfl ?_ _ _ _ _ (Cbn.cells x) rfl rfl ?_ ?_ ?_ ?_ ?_; rotate_left 2; (focus (first | exact hown1 | exact hown1.alloc _)); (focus (first | exact news_one (cs := #[.int .i64 x.n, .int .i64 x.s, .int .i64 x.e, .int .i64 x.t, .int .i64 x.r]) (heap_alloc_new _ _) | exact news_one (cs := #[.int .i64 x.n, .int .i64 x.s, .int .i64 x.e, .int .i64 x.t, .int .i64 x.r]) (nk2 hk1) | exact news_one (cs := #[.int .i64 x.n, .int .i64 x.s, .int .i64 x.e, .int .i64 x.t, .int .i64 x.r]) (nk3 hk1))); (focus (exact cbn_one1 x)); (focus omega); (focus (first | omega | (simp; omega))); intro v2 w2 hown2 hb2 hk2; have hz2 := hb2.size; (try simp at hz2))
                | (refine step_extend rfl (.tmp 66) (.tmp 69) 24 rfl wq.heap.size 33 (.agg #[.int .i64 0, .int .i64 0, .int .i64 0, .int .i64 0, .int .i64 0]) 5 40 Try.underlying24 info_cbn rfl (by decide) (by decide) _ _ _ rfl hown2 g (k * 5) (L.length - k) _ (flat Cbn.cells (L.drop k)) rfl ?_ (newsDC (HRLq.out.drop k) (by repeat (first | (with_reducible exact Below.refl _ _) | ((with_reducible refine alloc_ ?_ ?_); (focus (first | exact Nat.le_refl _ | (simp; done) | (simp; omega) | omega))) | ((with_reducible refine set_ ?_ ?_); (focus (first | exact Nat.le_refl _ | (simp; done) | (simp; omega) | omega))) | (with_reducible refine Below.drew ?_) | ((with_reducible refine after_ ?_ (by assumption) ?_); (rotate_left; (focus (first | exact Nat.le_refl _ | (simp; done) | (simp; omega) | omega))))))) (cbn_one _) ?_ ?_ ?_; (focus (rw [flat_len5, List.length_drop] <;> omega)); (focus omega); (focus (first | omega | (simp; omega))); intro v3 w3 hown3 hb3 hk3; have hz3 := hb3.size))
              all_goals
                have hlen : (L.take k ++ [x] ++ L.drop k).length = 0 + k + 1 + (L.length - k) := by simp only [List.length_append, List.length_take, List.length_drop, List.length_singleton]; omega
                have HNew := Lib.hid (show L.take k ++ [x] ++ L.drop k = ordC KEY (l.take (i + 1)) by
                  rw [H.out, ordC_put (o := l.take i) (x := x) (k := k) (by rw [← HL.out]; exact hk) (by rw [← HL.out]; exact HHi.out) (by rw [← HL.out]; exact HLo.out), ← HL.out])
                obtain ⟨g3, cap3, rfl⟩ := Joins.ownsRow_form hown3 (by omega)
                have HO3 := Lib.hid (show w3.ownsRow w.heap.size 33 5 (.slice (some ⟨g3, 0, none⟩) (L.take k ++ [x] ++ L.drop k).length cap3) (L.take k ++ [x] ++ L.drop k).length (flat Cbn.cells (L.take k ++ [x] ++ L.drop k)) by
                  rw [hlen, ← flat_app, ← flat_app, flat_one]; exact Joins.ownsRow_le hown3 HBq.out.size)
                have HB3 := Lib.hid (HBq.out.trans ((show Below wq.heap.size wq w3 from (by repeat (first | (with_reducible exact Below.refl _ _) | ((with_reducible refine alloc_ ?_ ?_); (focus (first | exact Nat.le_refl _ | (simp; done) | (simp; omega) | omega))) | ((with_reducible refine set_ ?_ ?_); (focus (first | exact Nat.le_refl _ | (simp; done) | (simp; omega) | omega))) | (with_reducible refine Below.drew ?_) | ((with_reducible refine after_ ?_ (by assumption) ?_); (rotate_left; (focus (first | exact Nat.le_refl _ | (simp; done) | (simp; omega) | omega))))))).mono HBq.out.size))
                have Hlen := Lib.hid hlen
                clear hown3 hown2 hown1 hb1 hb2 hb3 hk1 hk2 hk3 hlen hz1 hz2 hz3 s1 s2 s3 s4 s5
                go_wp2_with fail
                go_roundw
                case rel => exact ⟨i + 1, g3, cap3, L.take k ++ [x] ++ L.drop k, by omega, by go_num, HNew.out, by have := Hlen.out; omega, by rw [Hlen.out]; simp, HO3.out, HB3.out⟩
                case measure => simp [intOf]; omega
        · have HLo := Lib.hid (show k = 0 ∨ KEY x ≤ KEY (nth L (k - 1)) from .inl (by omega))
          have hk0' : decide ((0 : Int) < (k : Int)) = false := decide_eq_false (by omega)
          clear hbel
          go_wp2_with fail
          refine wp_region_mem (by kernel_rfl) (by kernel_rfl) ?_
          repeat (go_big_quiet_step (fail))
          refine wpQuiet_nil ?_
          intro _ hw'
          obtain ⟨⟨wq, hbq⟩, hw''⟩ := hw'
          obtain rfl := hw''.symm
          obtain ⟨hcq, hfq, hzq⟩ := bcell hbq
          try simp [Nat.add_one_le_iff] at hzq
          have HBq := Lib.hid (HBw.out.trans (hbq.mono HBw.out.size))
          have HRLq := Lib.hid (HRL.out.carry (HBi.out.trans (hbq.mono z2)))
          obtain ⟨cf0, cf1, cf2, cf3, cf4⟩ := HSens.out wq HBq.out
          have hbq2 : b < wq.heap.size := by have := hbq.size; omega
          have hwq := HBq.out.size
          go_wp2_with fail
          have s1 : (k : Int) ≤ L.length := by omega
          have s2 : (k : Int) ≤ gc := by omega
          have s3 : (k : Int) ≤ (k : Int) := by omega
          have s4 : (0 : Int) ≤ (k : Int) := by omega
          by_cases hcj : gc = k
          case pos =>
            have hcj2 := hcj.symm
            subst hcj2
            have s5 : k ≤ k := Nat.le_refl _
            go_region_law (first
              | (refine step_extend rfl (.tmp 56) (.tmp 59) 24 rfl wq.heap.size 33 (.agg #[.int .i64 0, .int .i64 0, .int .i64 0, .int .i64 0, .int .i64 0]) 5 40 Try.underlying24 info_cbn rfl (by decide) (by decide) _ 0 [] rfl ?_ g 0 k _ (flat Cbn.cells (L.take k)) rfl ?_ ((HRLq.out.take k).news (by repeat (first | (with_reducible exact Below.refl _ _) | ((with_reducible refine alloc_ ?_ ?_); (focus (first | exact Nat.le_refl _ | (simp; done) | (simp; omega) | omega))) | ((with_reducible refine set_ ?_ ?_); (focus (first | exact Nat.le_refl _ | (simp; done) | (simp; omega) | omega))) | (with_reducible refine Below.drew ?_) | ((with_reducible refine after_ ?_ (by assumption) ?_); (rotate_left; (focus (first | exact Nat.le_refl _ | (simp; done) | (simp; omega) | omega)))))) (fun _ => rfl) (by decide)) (cbn_one _) ?_ ?_ ?_; (focus (first | exact oe1 (Nat.le_refl _) | exact oe2 (Nat.le_refl _) | exact oe3 (Nat.le_refl _))); (focus (rw [flat_len5, List.length_take]; omega)); (focus omega); (focus (first | omega | (simp; done) | (simp; omega))); intro v1 w1 hown1 hb1 hk1; have hz1 := hb1.size; (try simp at hz1); have HW0 := Lib.hid (show Below wq.heap.size wq w1 from (by repeat (first | (with_reducible exact Below.refl _ _) | ((with_reducible refine alloc_ ?_ ?_); (focus (first | exact Nat.le_refl _ | (simp; done) | (simp; omega) | omega))) | ((with_reducible refine set_ ?_ ?_); (focus (first | exact Nat.le_refl _ | (simp; done) | (simp; omega) | omega))) | (with_reducible refine Below.drew ?_) | ((with_reducible refine after_ ?_ (by assumption) ?_); (rotate_left; (focus (first | exact Nat.le_refl _ | (simp; done) | (simp; omega) | omega))))))); have HW1 := Lib.hid (HBq.out.trans (HW0.out.mono HBq.out.size)); obtain ⟨ce0, ce1, ce2, ce3, ce4⟩ := HSens.out w1 HW1.out)
              | (refine step_extend rfl (.tmp 60) (.tmp 65) 24 rfl wq.heap.size 33 (.agg #[.int .i64 0, .int .i64 0, .int .i64 0, .int .i64 0, .int .i64 0]) 5 40 Try.underlying24 info_cbn rfl (by decide) (by decide) _ ?_ ?_ rfl ?_ _ _ _ _ (Cbn.cells x) rfl rfl ?_ ?_ ?_ ?_ ?_; rotate_left 2; (focus (first | exact hown1 | exact hown1.alloc _)); (focus (first | exact news_one (cs := #[.int .i64 x.n, .int .i64 x.s, .int .i64 x.e, .int .i64 x.t, .int .i64 x.r]) (heap_alloc_new _ _) | exact news_one (cs := #[.int .i64 x.n, .int .i64 x.s, .int .i64 x.e, .int .i64 x.t, .int .i64 x.r]) (nk2 hk1) | exact news_one (cs := #[.int .i64 x.n, .int .i64 x.s, .int .i64 x.e, .int .i64 x.t, .int .i64 x.r]) (nk3 hk1))); (focus (exact cbn_one1 x)); (focus omega); (focus (first | omega | (simp; omega))); intro v2 w2 hown2 hb2 hk2; have hz2 := hb2.size; (try simp at hz2))
              | (refine step_extend rfl (.tmp 66) (.tmp 69) 24 rfl wq.heap.size 33 (.agg #[.int .i64 0, .int .i64 0, .int .i64 0, .int .i64 0, .int .i64 0]) 5 40 Try.underlying24 info_cbn rfl (by decide) (by decide) _ _ _ rfl hown2 g (0) (0) _ (flat Cbn.cells (L.drop k)) rfl ?_ (no_newsC (by omega)) (cbn_one _) ?_ ?_ ?_; (focus (rw [flat_len5, List.length_drop] <;> omega)); (focus omega); (focus (first | omega | (simp; omega))); intro v3 w3 hown3 hb3 hk3; have hz3 := hb3.size))
            all_goals
              have hlen : (L.take k ++ [x] ++ L.drop k).length = 0 + k + 1 + (0) := by simp only [List.length_append, List.length_take, List.length_drop, List.length_singleton]; omega
              have HNew := Lib.hid (show L.take k ++ [x] ++ L.drop k = ordC KEY (l.take (i + 1)) by
                rw [H.out, ordC_put (o := l.take i) (x := x) (k := k) (by rw [← HL.out]; exact hk) (by rw [← HL.out]; exact HHi.out) (by rw [← HL.out]; exact HLo.out), ← HL.out])
              obtain ⟨g3, cap3, rfl⟩ := Joins.ownsRow_form hown3 (by omega)
              have HO3 := Lib.hid (show w3.ownsRow w.heap.size 33 5 (.slice (some ⟨g3, 0, none⟩) (L.take k ++ [x] ++ L.drop k).length cap3) (L.take k ++ [x] ++ L.drop k).length (flat Cbn.cells (L.take k ++ [x] ++ L.drop k)) by
                rw [hlen, ← flat_app, ← flat_app, flat_one]; exact Joins.ownsRow_le hown3 HBq.out.size)
              have HB3 := Lib.hid (HBq.out.trans ((show Below wq.heap.size wq w3 from (by repeat (first | (with_reducible exact Below.refl _ _) | ((with_reducible refine alloc_ ?_ ?_); (focus (first | exact Nat.le_refl _ | (simp; done) | (simp; omega) | omega))) | ((with_reducible refine set_ ?_ ?_); (focus (first | exact Nat.le_refl _ | (simp; done) | (simp; omega) | omega))) | (with_reducible refine Below.drew ?_) | ((with_reducible refine after_ ?_ (by assumption) ?_); (rotate_left; (focus (first | exact Nat.le_refl _ | (simp; done) | (simp; omega) | omega))))))).mono HBq.out.size))
              have Hlen := Lib.hid hlen
              clear hown3 hown2 hown1 hb1 hb2 hb3 hk1 hk2 hk3 hlen hz1 hz2 hz3 s1 s2 s3 s4 s5
              go_wp2_with fail
              go_roundw
              case rel => exact ⟨i + 1, g3, cap3, L.take k ++ [x] ++ L.drop k, by omega, by go_num, HNew.out, by have := Hlen.out; omega, by rw [Hlen.out]; simp, HO3.out, HB3.out⟩
              case measure => simp [intOf]; omega
          case neg =>
            have s5 : k ≤ k := Nat.le_refl _
            go_region_law (first
              | (refine step_extend rfl (.tmp 56) (.tmp 59) 24 rfl wq.heap.size 33 (.agg #[.int .i64 0, .int .i64 0, .int .i64 0, .int .i64 0, .int .i64 0]) 5 40 Try.underlying24 info_cbn rfl (by decide) (by decide) _ 0 [] rfl ?_ g 0 k _ (flat Cbn.cells (L.take k)) rfl ?_ ((HRLq.out.take k).news (by repeat (first | (with_reducible exact Below.refl _ _) | ((with_reducible refine alloc_ ?_ ?_); (focus (first | exact Nat.le_refl _ | (simp; done) | (simp; omega) | omega))) | ((with_reducible refine set_ ?_ ?_); (focus (first | exact Nat.le_refl _ | (simp; done) | (simp; omega) | omega))) | (with_reducible refine Below.drew ?_) | ((with_reducible refine after_ ?_ (by assumption) ?_); (rotate_left; (focus (first | exact Nat.le_refl _ | (simp; done) | (simp; omega) | omega)))))) (fun _ => rfl) (by decide)) (cbn_one _) ?_ ?_ ?_; (focus (first | exact oe1 (Nat.le_refl _) | exact oe2 (Nat.le_refl _) | exact oe3 (Nat.le_refl _))); (focus (rw [flat_len5, List.length_take]; omega)); (focus omega); (focus (first | omega | (simp; done) | (simp; omega))); intro v1 w1 hown1 hb1 hk1; have hz1 := hb1.size; (try simp at hz1); have HW0 := Lib.hid (show Below wq.heap.size wq w1 from (by repeat (first | (with_reducible exact Below.refl _ _) | ((with_reducible refine alloc_ ?_ ?_); (focus (first | exact Nat.le_refl _ | (simp; done) | (simp; omega) | omega))) | ((with_reducible refine set_ ?_ ?_); (focus (first | exact Nat.le_refl _ | (simp; done) | (simp; omega) | omega))) | (with_reducible refine Below.drew ?_) | ((with_reducible refine after_ ?_ (by assumption) ?_); (rotate_left; (focus (first | exact Nat.le_refl _ | (simp; done) | (simp; omega) | omega))))))); have HW1 := Lib.hid (HBq.out.trans (HW0.out.mono HBq.out.size)); obtain ⟨ce0, ce1, ce2, ce3, ce4⟩ := HSens.out w1 HW1.out)
              | (refine step_extend rfl (.tmp 60) (.tmp 65) 24 rfl wq.heap.size 33 (.agg #[.int .i64 0, .int .i64 0, .int .i64 0, .int .i64 0, .int .i64 0]) 5 40 Try.underlying24 info_cbn rfl (by decide) (by decide) _ ?_ ?_ rfl ?_ _ _ _ _ (Cbn.cells x) rfl rfl ?_ ?_ ?_ ?_ ?_; rotate_left 2; (focus (first | exact hown1 | exact hown1.alloc _)); (focus (first | exact news_one (cs := #[.int .i64 x.n, .int .i64 x.s, .int .i64 x.e, .int .i64 x.t, .int .i64 x.r]) (heap_alloc_new _ _) | exact news_one (cs := #[.int .i64 x.n, .int .i64 x.s, .int .i64 x.e, .int .i64 x.t, .int .i64 x.r]) (nk2 hk1) | exact news_one (cs := #[.int .i64 x.n, .int .i64 x.s, .int .i64 x.e, .int .i64 x.t, .int .i64 x.r]) (nk3 hk1))); (focus (exact cbn_one1 x)); (focus omega); (focus (first | omega | (simp; omega))); intro v2 w2 hown2 hb2 hk2; have hz2 := hb2.size; (try simp at hz2))
              | (refine step_extend rfl (.tmp 66) (.tmp 69) 24 rfl wq.heap.size 33 (.agg #[.int .i64 0, .int .i64 0, .int .i64 0, .int .i64 0, .int .i64 0]) 5 40 Try.underlying24 info_cbn rfl (by decide) (by decide) _ _ _ rfl hown2 g (k * 5) (L.length - k) _ (flat Cbn.cells (L.drop k)) rfl ?_ (newsDC (HRLq.out.drop k) (by repeat (first | (with_reducible exact Below.refl _ _) | ((with_reducible refine alloc_ ?_ ?_); (focus (first | exact Nat.le_refl _ | (simp; done) | (simp; omega) | omega))) | ((with_reducible refine set_ ?_ ?_); (focus (first | exact Nat.le_refl _ | (simp; done) | (simp; omega) | omega))) | (with_reducible refine Below.drew ?_) | ((with_reducible refine after_ ?_ (by assumption) ?_); (rotate_left; (focus (first | exact Nat.le_refl _ | (simp; done) | (simp; omega) | omega))))))) (cbn_one _) ?_ ?_ ?_; (focus (rw [flat_len5, List.length_drop] <;> omega)); (focus omega); (focus (first | omega | (simp; omega))); intro v3 w3 hown3 hb3 hk3; have hz3 := hb3.size))
            all_goals
              have hlen : (L.take k ++ [x] ++ L.drop k).length = 0 + k + 1 + (L.length - k) := by simp only [List.length_append, List.length_take, List.length_drop, List.length_singleton]; omega
              have HNew := Lib.hid (show L.take k ++ [x] ++ L.drop k = ordC KEY (l.take (i + 1)) by
                rw [H.out, ordC_put (o := l.take i) (x := x) (k := k) (by rw [← HL.out]; exact hk) (by rw [← HL.out]; exact HHi.out) (by rw [← HL.out]; exact HLo.out), ← HL.out])
              obtain ⟨g3, cap3, rfl⟩ := Joins.ownsRow_form hown3 (by omega)
              have HO3 := Lib.hid (show w3.ownsRow w.heap.size 33 5 (.slice (some ⟨g3, 0, none⟩) (L.take k ++ [x] ++ L.drop k).length cap3) (L.take k ++ [x] ++ L.drop k).length (flat Cbn.cells (L.take k ++ [x] ++ L.drop k)) by
                rw [hlen, ← flat_app, ← flat_app, flat_one]; exact Joins.ownsRow_le hown3 HBq.out.size)
              have HB3 := Lib.hid (HBq.out.trans ((show Below wq.heap.size wq w3 from (by repeat (first | (with_reducible exact Below.refl _ _) | ((with_reducible refine alloc_ ?_ ?_); (focus (first | exact Nat.le_refl _ | (simp; done) | (simp; omega) | omega))) | ((with_reducible refine set_ ?_ ?_); (focus (first | exact Nat.le_refl _ | (simp; done) | (simp; omega) | omega))) | (with_reducible refine Below.drew ?_) | ((with_reducible refine after_ ?_ (by assumption) ?_); (rotate_left; (focus (first | exact Nat.le_refl _ | (simp; done) | (simp; omega) | omega))))))).mono HBq.out.size))
              have Hlen := Lib.hid hlen
              clear hown3 hown2 hown1 hb1 hb2 hb3 hk1 hk2 hk3 hlen hz1 hz2 hz3 s1 s2 s3 s4 s5
              go_wp2_with fail
              go_roundw
              case rel => exact ⟨i + 1, g3, cap3, L.take k ++ [x] ++ L.drop k, by omega, by go_num, HNew.out, by have := Hlen.out; omega, by rw [Hlen.out]; simp, HO3.out, HB3.out⟩
              case measure => simp [intOf]; omega
    · obtain rfl : i = l.length := by omega
      have HE := Lib.hid (show L = ordC KEY l by rw [HL.out, List.take_length])
      obtain ⟨g', c', hv, hg', hc', harr⟩ := ArrC.of_some HO.out rfl rfl (by simp [Value.ownBlock])
      injection hv with e1 e2 e3
      injection e1 with e1
      injection e1 with e1
      subst e1 e3
      have HA := Lib.hid harr
      clear hbel harr
      go_wp2_with fail
      go_ret
      exact ⟨g, gc, by rw [← HE.out]; rfl, by rw [← HE.out]; exact hc', hg', by rw [← HE.out]; exact HA.out, HB.out⟩
set_option maxHeartbeats 6400000 in
theorem orderSeats_c (l : List Cbn) (A : Option Addr) (cap : Nat) (w : World) (hl : l.length ≤ 12) (hr : Rd w w.heap.size 5 Cbn.cells A l) :
    Calls Try.prog 38 #[.slice A l.length cap, .bool false] w (GivesC (ordC Cbn.s l) w) := by
  obtain ⟨KEY, hKEY⟩ : ∃ f : Cbn → Int, f = Cbn.s := ⟨_, rfl⟩
  have HKEY := Lib.hid (fun c => congrFun hKEY c)
  rw [← hKEY]
  clear hKEY
  have HR := Lib.hid hr
  clear hr
  go_enter Try.func38, Try.ntmps38
  go_wp2_with fail
  go_loopw [5, 6, 7] (fun v i _ wr => ∃ (k : Nat) (g gc : Nat) (L : List Cbn), k ≤ l.length ∧ i = .int .i64 k ∧ L = ordC KEY (l.take k) ∧ L.length ≤ k ∧ v = .slice (some ⟨g, 0, none⟩) L.length gc ∧ wr.ownsRow w.heap.size 33 5 (.slice (some ⟨g, 0, none⟩) L.length gc) L.length (flat Cbn.cells L) ∧ Below w.heap.size w wr) (fun _ i _ _ => l.length - (intOf i).toNat)
  case atStart => exact ⟨0, w.heap.size, 0, [], Nat.zero_le _, rfl, rfl, Nat.le_refl _, rfl, ownsRow_empty w 33 5, (by repeat (first | (with_reducible exact Below.refl _ _) | ((with_reducible refine alloc_ ?_ ?_); (focus (first | exact Nat.le_refl _ | (simp; done) | (simp; omega) | omega))) | ((with_reducible refine set_ ?_ ?_); (focus (first | exact Nat.le_refl _ | (simp; done) | (simp; omega) | omega))) | (with_reducible refine Below.drew ?_) | ((with_reducible refine after_ ?_ (by assumption) ?_); (rotate_left; (focus (first | exact Nat.le_refl _ | (simp; done) | (simp; omega) | omega))))))⟩
  case round =>
    obtain ⟨i, g, gc, L, hi, rfl, hL, hLi, rfl, hown, hbel⟩ := hrel
    have HB := Lib.hid hbel
    have HO := Lib.hid hown
    have HL := Lib.hid hL
    have z1 := hbel.size
    have hcp := own_cap hown
    have HRL := Lib.hid ((Own.of_row' hown rfl rfl (fun _ => rfl)).rd fun _ => rfl)
    clear hown hL
    by_cases hlt : i < l.length
    · obtain ⟨b, off, rfl, hb, _⟩ := Cbn.rd (HR.out.below hbel (Nat.le_refl _)) hlt
      obtain ⟨x, hx⟩ : ∃ x, nth l i = x := ⟨_, rfl⟩
      have HSens := Lib.hid (show ∀ W : World, Below w.heap.size w W → W.cell? ⟨b, off + i * 5, none⟩ = some (.int .i64 x.n) ∧ W.cell? ⟨b, off + i * 5 + 1, none⟩ = some (.int .i64 x.s) ∧ W.cell? ⟨b, off + i * 5 + 2, none⟩ = some (.int .i64 x.e) ∧ W.cell? ⟨b, off + i * 5 + 3, none⟩ = some (.int .i64 x.t) ∧ W.cell? ⟨b, off + i * 5 + 4, none⟩ = some (.int .i64 x.r) from fun W hW => by
        obtain ⟨b', off', he, _, hc'⟩ := Cbn.rd (HR.out.below hW (Nat.le_refl _)) hlt
        simp only [Option.some.injEq, Addr.mk.injEq, and_true] at he
        obtain ⟨rfl, rfl⟩ := he
        rw [← hx]; exact hc')
      have H := Lib.hid (show l.take (i + 1) = l.take i ++ [x] by rw [List.take_succ_eq_append_getElem hlt, ← hx, nth_eq hlt])
      have l1 : b < wr.heap.size := by omega
      have i1 : (i : Int) < l.length := by omega
      have i0 : (0 : Int) ≤ (i : Int) := by omega
      clear hbel hx
      go_wp2_with fail
      obtain ⟨wo, rfl⟩ : ∃ wo : World, wo = wr := ⟨_, rfl⟩
      go_loopw [7] (fun q wr => ∃ k : Nat, k ≤ L.length ∧ q = .int .i64 k ∧ (∀ j, k ≤ j → j < L.length → KEY (nth L j) < KEY x) ∧ Below wo.heap.size wo wr) (fun q _ => (intOf q).toNat)
      case atStart => exact ⟨L.length, Nat.le_refl _, rfl, fun j h1 h2 => absurd h1 (by omega), Below.refl _ _⟩
      case round =>
        obtain ⟨k, hk, rfl, hhi, hbel⟩ := hrel
        have HBi := Lib.hid hbel
        have HHi := Lib.hid hhi
        have z2 := hbel.size
        have HBw := Lib.hid (HB.out.trans (hbel.mono z1))
        obtain ⟨ce0, ce1, ce2, ce3, ce4⟩ := HSens.out wr HBw.out
        have l2 : b < wr.heap.size := by omega
        clear hhi
        by_cases hk0 : 0 < k
        · obtain ⟨b', off', he, hb', hd0, hd1, hd2, hd3, hd4⟩ := Cbn.rd (HRL.out.below hbel (Nat.le_refl _)) (show k - 1 < L.length by omega)
          simp only [Option.some.injEq, Addr.mk.injEq, and_true] at he
          obtain ⟨rfl, rfl⟩ := he
          rw [Nat.zero_add] at hd0 hd1 hd2 hd3 hd4
          obtain ⟨y, hy⟩ : ∃ y, nth L (k - 1) = y := ⟨_, rfl⟩
          rw [hy] at hd0 hd1 hd2 hd3 hd4
          have s1 : IntKind.i64.wrap ((k : Int) - 1) = (k : Int) - 1 := IntWalk.i64_in _ (by omega)
          have s2 : ((k : Int) - 1).toNat = k - 1 := by omega
          have s3 : (0 : Int) ≤ (k : Int) - 1 := by omega
          have s4 : (k : Int) - 1 < L.length := by omega
          have s5 : (1 : Int) ≤ (k : Int) := by omega
          have s6 : decide ((0 : Int) < (k : Int)) = true := decide_eq_true (by omega)
          have hg2 : g < wr.heap.size := by omega
          have HY := Lib.hid hy
          clear hy
          by_cases hx : Cbn.s y < Cbn.s x
          · have hx' : decide (Cbn.s y < Cbn.s x) = true := decide_eq_true hx
            have HX := Lib.hid (show KEY y < KEY x by rw [HKEY.out, HKEY.out]; exact hx)
            clear hbel
            go_wp2_with fail
            refine wp_region_mem (by kernel_rfl) (by kernel_rfl) ?_
            repeat (go_big_quiet_step (fail))
            refine wpQuiet_nil ?_
            intro _ hw'
            obtain ⟨⟨wq, hbq⟩, hw''⟩ := hw'
            obtain rfl := hw''.symm
            obtain ⟨hcq, hfq, hzq⟩ := bcell hbq
            try simp [Nat.add_one_le_iff] at hzq
            go_wp2_with fail
            go_roundw
            case rel => exact ⟨k - 1, by omega, by go_num, fun j h1 h2 => by
              by_cases e : j = k - 1
              · subst e; rw [HY.out]; exact HX.out
              · exact HHi.out j (by omega) h2, HBi.out.trans (hbq.mono z2)⟩
            case measure => simp [intOf]; omega
          · have hx' : decide (Cbn.s y < Cbn.s x) = false := decide_eq_false hx
            have HLo := Lib.hid (show k = 0 ∨ KEY x ≤ KEY (nth L (k - 1)) from .inr (by rw [HY.out, HKEY.out, HKEY.out]; omega))
            clear hbel hx
            go_wp2_with fail
            clear s1 s2 s3 s4 s5 s6
            refine wp_region_mem (by kernel_rfl) (by kernel_rfl) ?_
            repeat (go_big_quiet_step (fail))
            refine wpQuiet_nil ?_
            intro _ hw'
            obtain ⟨⟨wq, hbq⟩, hw''⟩ := hw'
            obtain rfl := hw''.symm
            obtain ⟨hcq, hfq, hzq⟩ := bcell hbq
            try simp [Nat.add_one_le_iff] at hzq
            have HBq := Lib.hid (HBw.out.trans (hbq.mono HBw.out.size))
            have HRLq := Lib.hid (HRL.out.carry (HBi.out.trans (hbq.mono z2)))
            obtain ⟨cf0, cf1, cf2, cf3, cf4⟩ := HSens.out wq HBq.out
            have hbq2 : b < wq.heap.size := by have := hbq.size; omega
            have hwq := HBq.out.size
            go_wp2_with fail
            have s1 : (k : Int) ≤ L.length := by omega
            have s2 : (k : Int) ≤ gc := by omega
            have s3 : (k : Int) ≤ (k : Int) := by omega
            have s4 : (0 : Int) ≤ (k : Int) := by omega
            by_cases hcj : gc = k
            case pos =>
              have hcj2 := hcj.symm
              subst hcj2
              have s5 : k ≤ k := Nat.le_refl _
              go_region_law (first
                | (refine step_extend rfl (.tmp 56) (.tmp 59) 24 rfl wq.heap.size 33 (.agg #[.int .i64 0, .int .i64 0, .int .i64 0, .int .i64 0, .int .i64 0]) 5 40 Try.underlying24 info_cbn rfl (by decide) (by decide) _ 0 [] rfl ?_ g 0 k _ (flat Cbn.cells (L.take k)) rfl ?_ ((HRLq.out.take k).news (by repeat (first | (with_reducible exact Below.refl _ _) | ((with_reducible refine alloc_ ?_ ?_); (focus (first | exact Nat.le_refl _ | (simp; done) | (simp; omega) | omega))) | ((with_reducible refine set_ ?_ ?_); (focus (first | exact Nat.le_refl _ | (simp; done) | (simp; omega) | omega))) | (with_reducible refine Below.drew ?_) | ((with_reducible refine after_ ?_ (by assumption) ?_); (rotate_left; (focus (first | exact Nat.le_refl _ | (simp; done) | (simp; omega) | omega)))))) (fun _ => rfl) (by decide)) (cbn_one _) ?_ ?_ ?_; (focus (first | exact oe1 (Nat.le_refl _) | exact oe2 (Nat.le_refl _) | exact oe3 (Nat.le_refl _))); (focus (rw [flat_len5, List.length_take]; omega)); (focus omega); (focus (first | omega | (simp; done) | (simp; omega))); intro v1 w1 hown1 hb1 hk1; have hz1 := hb1.size; (try simp at hz1); have HW0 := Lib.hid (show Below wq.heap.size wq w1 from (by repeat (first | (with_reducible exact Below.refl _ _) | ((with_reducible refine alloc_ ?_ ?_); (focus (first | exact Nat.le_refl _ | (simp; done) | (simp; omega) | omega))) | ((with_reducible refine set_ ?_ ?_); (focus (first | exact Nat.le_refl _ | (simp; done) | (simp; omega) | omega))) | (with_reducible refine Below.drew ?_) | ((with_reducible refine after_ ?_ (by assumption) ?_); (rotate_left; (focus (first | exact Nat.le_refl _ | (simp; done) | (simp; omega) | omega))))))); have HW1 := Lib.hid (HBq.out.trans (HW0.out.mono HBq.out.size)); obtain ⟨ce0, ce1, ce2, ce3, ce4⟩ := HSens.out w1 HW1.out)
                | (refine step_extend rfl (.tmp 60) (.tmp 65) 24 rfl wq.heap.size 33 (.agg #[.int .i64 0, .int .i64 0, .int .i64 0, .int .i64 0, .int .i64 0]) 5 40 Try.underlying24 info_cbn rfl (by decide) (by decide) _ ?_ ?_ rfl ?_ _ _ _ _ (Cbn.cells x) rfl rfl ?_ ?_ ?_ ?_ ?_; rotate_left 2; (focus (first | exact hown1 | exact hown1.alloc _)); (focus (first | exact news_one (cs := #[.int .i64 x.n, .int .i64 x.s, .int .i64 x.e, .int .i64 x.t, .int .i64 x.r]) (heap_alloc_new _ _) | exact news_one (cs := #[.int .i64 x.n, .int .i64 x.s, .int .i64 x.e, .int .i64 x.t, .int .i64 x.r]) (nk2 hk1) | exact news_one (cs := #[.int .i64 x.n, .int .i64 x.s, .int .i64 x.e, .int .i64 x.t, .int .i64 x.r]) (nk3 hk1))); (focus (exact cbn_one1 x)); (focus omega); (focus (first | omega | (simp; omega))); intro v2 w2 hown2 hb2 hk2; have hz2 := hb2.size; (try simp at hz2))
                | (refine step_extend rfl (.tmp 66) (.tmp 69) 24 rfl wq.heap.size 33 (.agg #[.int .i64 0, .int .i64 0, .int .i64 0, .int .i64 0, .int .i64 0]) 5 40 Try.underlying24 info_cbn rfl (by decide) (by decide) _ _ _ rfl hown2 g (0) (0) _ (flat Cbn.cells (L.drop k)) rfl ?_ (no_newsC (by omega)) (cbn_one _) ?_ ?_ ?_; (focus (rw [flat_len5, List.length_drop] <;> omega)); (focus omega); (focus (first | omega | (simp; omega))); intro v3 w3 hown3 hb3 hk3; have hz3 := hb3.size))
              all_goals
                have hlen : (L.take k ++ [x] ++ L.drop k).length = 0 + k + 1 + (0) := by simp only [List.length_append, List.length_take, List.length_drop, List.length_singleton]; omega
                have HNew := Lib.hid (show L.take k ++ [x] ++ L.drop k = ordC KEY (l.take (i + 1)) by
                  rw [H.out, ordC_put (o := l.take i) (x := x) (k := k) (by rw [← HL.out]; exact hk) (by rw [← HL.out]; exact HHi.out) (by rw [← HL.out]; exact HLo.out), ← HL.out])
                obtain ⟨g3, cap3, rfl⟩ := Joins.ownsRow_form hown3 (by omega)
                have HO3 := Lib.hid (show w3.ownsRow w.heap.size 33 5 (.slice (some ⟨g3, 0, none⟩) (L.take k ++ [x] ++ L.drop k).length cap3) (L.take k ++ [x] ++ L.drop k).length (flat Cbn.cells (L.take k ++ [x] ++ L.drop k)) by
                  rw [hlen, ← flat_app, ← flat_app, flat_one]; exact Joins.ownsRow_le hown3 HBq.out.size)
                have HB3 := Lib.hid (HBq.out.trans ((show Below wq.heap.size wq w3 from (by repeat (first | (with_reducible exact Below.refl _ _) | ((with_reducible refine alloc_ ?_ ?_); (focus (first | exact Nat.le_refl _ | (simp; done) | (simp; omega) | omega))) | ((with_reducible refine set_ ?_ ?_); (focus (first | exact Nat.le_refl _ | (simp; done) | (simp; omega) | omega))) | (with_reducible refine Below.drew ?_) | ((with_reducible refine after_ ?_ (by assumption) ?_); (rotate_left; (focus (first | exact Nat.le_refl _ | (simp; done) | (simp; omega) | omega))))))).mono HBq.out.size))
                have Hlen := Lib.hid hlen
                clear hown3 hown2 hown1 hb1 hb2 hb3 hk1 hk2 hk3 hlen hz1 hz2 hz3 s1 s2 s3 s4 s5
                go_wp2_with fail
                go_roundw
                case rel => exact ⟨i + 1, g3, cap3, L.take k ++ [x] ++ L.drop k, by omega, by go_num, HNew.out, by have := Hlen.out; omega, by rw [Hlen.out]; simp, HO3.out, HB3.out⟩
                case measure => simp [intOf]; omega
            case neg =>
              have s5 : k ≤ k := Nat.le_refl _
              go_region_law (first
                | (refine step_extend rfl (.tmp 56) (.tmp 59) 24 rfl wq.heap.size 33 (.agg #[.int .i64 0, .int .i64 0, .int .i64 0, .int .i64 0, .int .i64 0]) 5 40 Try.underlying24 info_cbn rfl (by decide) (by decide) _ 0 [] rfl ?_ g 0 k _ (flat Cbn.cells (L.take k)) rfl ?_ ((HRLq.out.take k).news (by repeat (first | (with_reducible exact Below.refl _ _) | ((with_reducible refine alloc_ ?_ ?_); (focus (first | exact Nat.le_refl _ | (simp; done) | (simp; omega) | omega))) | ((with_reducible refine set_ ?_ ?_); (focus (first | exact Nat.le_refl _ | (simp; done) | (simp; omega) | omega))) | (with_reducible refine Below.drew ?_) | ((with_reducible refine after_ ?_ (by assumption) ?_); (rotate_left; (focus (first | exact Nat.le_refl _ | (simp; done) | (simp; omega) | omega)))))) (fun _ => rfl) (by decide)) (cbn_one _) ?_ ?_ ?_; (focus (first | exact oe1 (Nat.le_refl _) | exact oe2 (Nat.le_refl _) | exact oe3 (Nat.le_refl _))); (focus (rw [flat_len5, List.length_take]; omega)); (focus omega); (focus (first | omega | (simp; done) | (simp; omega))); intro v1 w1 hown1 hb1 hk1; have hz1 := hb1.size; (try simp at hz1); have HW0 := Lib.hid (show Below wq.heap.size wq w1 from (by repeat (first | (with_reducible exact Below.refl _ _) | ((with_reducible refine alloc_ ?_ ?_); (focus (first | exact Nat.le_refl _ | (simp; done) | (simp; omega) | omega))) | ((with_reducible refine set_ ?_ ?_); (focus (first | exact Nat.le_refl _ | (simp; done) | (simp; omega) | omega))) | (with_reducible refine Below.drew ?_) | ((with_reducible refine after_ ?_ (by assumption) ?_); (rotate_left; (focus (first | exact Nat.le_refl _ | (simp; done) | (simp; omega) | omega))))))); have HW1 := Lib.hid (HBq.out.trans (HW0.out.mono HBq.out.size)); obtain ⟨ce0, ce1, ce2, ce3, ce4⟩ := HSens.out w1 HW1.out)
                | (refine step_extend rfl (.tmp 60) (.tmp 65) 24 rfl wq.heap.size 33 (.agg #[.int .i64 0, .int .i64 0, .int .i64 0, .int .i64 0, .int .i64 0]) 5 40 Try.underlying24 info_cbn rfl (by decide) (by decide) _ ?_ ?_ rfl ?_ _ _ _ _ (Cbn.cells x) rfl rfl ?_ ?_ ?_ ?_ ?_; rotate_left 2; (focus (first | exact hown1 | exact hown1.alloc _)); (focus (first | exact news_one (cs := #[.int .i64 x.n, .int .i64 x.s, .int .i64 x.e, .int .i64 x.t, .int .i64 x.r]) (heap_alloc_new _ _) | exact news_one (cs := #[.int .i64 x.n, .int .i64 x.s, .int .i64 x.e, .int .i64 x.t, .int .i64 x.r]) (nk2 hk1) | exact news_one (cs := #[.int .i64 x.n, .int .i64 x.s, .int .i64 x.e, .int .i64 x.t, .int .i64 x.r]) (nk3 hk1))); (focus (exact cbn_one1 x)); (focus omega); (focus (first | omega | (simp; omega))); intro v2 w2 hown2 hb2 hk2; have hz2 := hb2.size; (try simp at hz2))
                | (refine step_extend rfl (.tmp 66) (.tmp 69) 24 rfl wq.heap.size 33 (.agg #[.int .i64 0, .int .i64 0, .int .i64 0, .int .i64 0, .int .i64 0]) 5 40 Try.underlying24 info_cbn rfl (by decide) (by decide) _ _ _ rfl hown2 g (k * 5) (L.length - k) _ (flat Cbn.cells (L.drop k)) rfl ?_ (newsDC (HRLq.out.drop k) (by repeat (first | (with_reducible exact Below.refl _ _) | ((with_reducible refine alloc_ ?_ ?_); (focus (first | exact Nat.le_refl _ | (simp; done) | (simp; omega) | omega))) | ((with_reducible refine set_ ?_ ?_); (focus (first | exact Nat.le_refl _ | (simp; done) | (simp; omega) | omega))) | (with_reducible refine Below.drew ?_) | ((with_reducible refine after_ ?_ (by assumption) ?_); (rotate_left; (focus (first | exact Nat.le_refl _ | (simp; done) | (simp; omega) | omega))))))) (cbn_one _) ?_ ?_ ?_; (focus (rw [flat_len5, List.length_drop] <;> omega)); (focus omega); (focus (first | omega | (simp; omega))); intro v3 w3 hown3 hb3 hk3; have hz3 := hb3.size))
              all_goals
                have hlen : (L.take k ++ [x] ++ L.drop k).length = 0 + k + 1 + (L.length - k) := by simp only [List.length_append, List.length_take, List.length_drop, List.length_singleton]; omega
                have HNew := Lib.hid (show L.take k ++ [x] ++ L.drop k = ordC KEY (l.take (i + 1)) by
                  rw [H.out, ordC_put (o := l.take i) (x := x) (k := k) (by rw [← HL.out]; exact hk) (by rw [← HL.out]; exact HHi.out) (by rw [← HL.out]; exact HLo.out), ← HL.out])
                obtain ⟨g3, cap3, rfl⟩ := Joins.ownsRow_form hown3 (by omega)
                have HO3 := Lib.hid (show w3.ownsRow w.heap.size 33 5 (.slice (some ⟨g3, 0, none⟩) (L.take k ++ [x] ++ L.drop k).length cap3) (L.take k ++ [x] ++ L.drop k).length (flat Cbn.cells (L.take k ++ [x] ++ L.drop k)) by
                  rw [hlen, ← flat_app, ← flat_app, flat_one]; exact Joins.ownsRow_le hown3 HBq.out.size)
                have HB3 := Lib.hid (HBq.out.trans ((show Below wq.heap.size wq w3 from (by repeat (first | (with_reducible exact Below.refl _ _) | ((with_reducible refine alloc_ ?_ ?_); (focus (first | exact Nat.le_refl _ | (simp; done) | (simp; omega) | omega))) | ((with_reducible refine set_ ?_ ?_); (focus (first | exact Nat.le_refl _ | (simp; done) | (simp; omega) | omega))) | (with_reducible refine Below.drew ?_) | ((with_reducible refine after_ ?_ (by assumption) ?_); (rotate_left; (focus (first | exact Nat.le_refl _ | (simp; done) | (simp; omega) | omega))))))).mono HBq.out.size))
                have Hlen := Lib.hid hlen
                clear hown3 hown2 hown1 hb1 hb2 hb3 hk1 hk2 hk3 hlen hz1 hz2 hz3 s1 s2 s3 s4 s5
                go_wp2_with fail
                go_roundw
                case rel => exact ⟨i + 1, g3, cap3, L.take k ++ [x] ++ L.drop k, by omega, by go_num, HNew.out, by have := Hlen.out; omega, by rw [Hlen.out]; simp, HO3.out, HB3.out⟩
                case measure => simp [intOf]; omega
        · have HLo := Lib.hid (show k = 0 ∨ KEY x ≤ KEY (nth L (k - 1)) from .inl (by omega))
          have hk0' : decide ((0 : Int) < (k : Int)) = false := decide_eq_false (by omega)
          clear hbel
          go_wp2_with fail
          refine wp_region_mem (by kernel_rfl) (by kernel_rfl) ?_
          repeat (go_big_quiet_step (fail))
          refine wpQuiet_nil ?_
          intro _ hw'
          obtain ⟨⟨wq, hbq⟩, hw''⟩ := hw'
          obtain rfl := hw''.symm
          obtain ⟨hcq, hfq, hzq⟩ := bcell hbq
          try simp [Nat.add_one_le_iff] at hzq
          have HBq := Lib.hid (HBw.out.trans (hbq.mono HBw.out.size))
          have HRLq := Lib.hid (HRL.out.carry (HBi.out.trans (hbq.mono z2)))
          obtain ⟨cf0, cf1, cf2, cf3, cf4⟩ := HSens.out wq HBq.out
          have hbq2 : b < wq.heap.size := by have := hbq.size; omega
          have hwq := HBq.out.size
          go_wp2_with fail
          have s1 : (k : Int) ≤ L.length := by omega
          have s2 : (k : Int) ≤ gc := by omega
          have s3 : (k : Int) ≤ (k : Int) := by omega
          have s4 : (0 : Int) ≤ (k : Int) := by omega
          by_cases hcj : gc = k
          case pos =>
            have hcj2 := hcj.symm
            subst hcj2
            have s5 : k ≤ k := Nat.le_refl _
            go_region_law (first
              | (refine step_extend rfl (.tmp 56) (.tmp 59) 24 rfl wq.heap.size 33 (.agg #[.int .i64 0, .int .i64 0, .int .i64 0, .int .i64 0, .int .i64 0]) 5 40 Try.underlying24 info_cbn rfl (by decide) (by decide) _ 0 [] rfl ?_ g 0 k _ (flat Cbn.cells (L.take k)) rfl ?_ ((HRLq.out.take k).news (by repeat (first | (with_reducible exact Below.refl _ _) | ((with_reducible refine alloc_ ?_ ?_); (focus (first | exact Nat.le_refl _ | (simp; done) | (simp; omega) | omega))) | ((with_reducible refine set_ ?_ ?_); (focus (first | exact Nat.le_refl _ | (simp; done) | (simp; omega) | omega))) | (with_reducible refine Below.drew ?_) | ((with_reducible refine after_ ?_ (by assumption) ?_); (rotate_left; (focus (first | exact Nat.le_refl _ | (simp; done) | (simp; omega) | omega)))))) (fun _ => rfl) (by decide)) (cbn_one _) ?_ ?_ ?_; (focus (first | exact oe1 (Nat.le_refl _) | exact oe2 (Nat.le_refl _) | exact oe3 (Nat.le_refl _))); (focus (rw [flat_len5, List.length_take]; omega)); (focus omega); (focus (first | omega | (simp; done) | (simp; omega))); intro v1 w1 hown1 hb1 hk1; have hz1 := hb1.size; (try simp at hz1); have HW0 := Lib.hid (show Below wq.heap.size wq w1 from (by repeat (first | (with_reducible exact Below.refl _ _) | ((with_reducible refine alloc_ ?_ ?_); (focus (first | exact Nat.le_refl _ | (simp; done) | (simp; omega) | omega))) | ((with_reducible refine set_ ?_ ?_); (focus (first | exact Nat.le_refl _ | (simp; done) | (simp; omega) | omega))) | (with_reducible refine Below.drew ?_) | ((with_reducible refine after_ ?_ (by assumption) ?_); (rotate_left; (focus (first | exact Nat.le_refl _ | (simp; done) | (simp; omega) | omega))))))); have HW1 := Lib.hid (HBq.out.trans (HW0.out.mono HBq.out.size)); obtain ⟨ce0, ce1, ce2, ce3, ce4⟩ := HSens.out w1 HW1.out)
              | (refine step_extend rfl (.tmp 60) (.tmp 65) 24 rfl wq.heap.size 33 (.agg #[.int .i64 0, .int .i64 0, .int .i64 0, .int .i64 0, .int .i64 0]) 5 40 Try.underlying24 info_cbn rfl (by decide) (by decide) _ ?_ ?_ rfl ?_ _ _ _ _ (Cbn.cells x) rfl rfl ?_ ?_ ?_ ?_ ?_; rotate_left 2; (focus (first | exact hown1 | exact hown1.alloc _)); (focus (first | exact news_one (cs := #[.int .i64 x.n, .int .i64 x.s, .int .i64 x.e, .int .i64 x.t, .int .i64 x.r]) (heap_alloc_new _ _) | exact news_one (cs := #[.int .i64 x.n, .int .i64 x.s, .int .i64 x.e, .int .i64 x.t, .int .i64 x.r]) (nk2 hk1) | exact news_one (cs := #[.int .i64 x.n, .int .i64 x.s, .int .i64 x.e, .int .i64 x.t, .int .i64 x.r]) (nk3 hk1))); (focus (exact cbn_one1 x)); (focus omega); (focus (first | omega | (simp; omega))); intro v2 w2 hown2 hb2 hk2; have hz2 := hb2.size; (try simp at hz2))
              | (refine step_extend rfl (.tmp 66) (.tmp 69) 24 rfl wq.heap.size 33 (.agg #[.int .i64 0, .int .i64 0, .int .i64 0, .int .i64 0, .int .i64 0]) 5 40 Try.underlying24 info_cbn rfl (by decide) (by decide) _ _ _ rfl hown2 g (0) (0) _ (flat Cbn.cells (L.drop k)) rfl ?_ (no_newsC (by omega)) (cbn_one _) ?_ ?_ ?_; (focus (rw [flat_len5, List.length_drop] <;> omega)); (focus omega); (focus (first | omega | (simp; omega))); intro v3 w3 hown3 hb3 hk3; have hz3 := hb3.size))
            all_goals
              have hlen : (L.take k ++ [x] ++ L.drop k).length = 0 + k + 1 + (0) := by simp only [List.length_append, List.length_take, List.length_drop, List.length_singleton]; omega
              have HNew := Lib.hid (show L.take k ++ [x] ++ L.drop k = ordC KEY (l.take (i + 1)) by
                rw [H.out, ordC_put (o := l.take i) (x := x) (k := k) (by rw [← HL.out]; exact hk) (by rw [← HL.out]; exact HHi.out) (by rw [← HL.out]; exact HLo.out), ← HL.out])
              obtain ⟨g3, cap3, rfl⟩ := Joins.ownsRow_form hown3 (by omega)
              have HO3 := Lib.hid (show w3.ownsRow w.heap.size 33 5 (.slice (some ⟨g3, 0, none⟩) (L.take k ++ [x] ++ L.drop k).length cap3) (L.take k ++ [x] ++ L.drop k).length (flat Cbn.cells (L.take k ++ [x] ++ L.drop k)) by
                rw [hlen, ← flat_app, ← flat_app, flat_one]; exact Joins.ownsRow_le hown3 HBq.out.size)
              have HB3 := Lib.hid (HBq.out.trans ((show Below wq.heap.size wq w3 from (by repeat (first | (with_reducible exact Below.refl _ _) | ((with_reducible refine alloc_ ?_ ?_); (focus (first | exact Nat.le_refl _ | (simp; done) | (simp; omega) | omega))) | ((with_reducible refine set_ ?_ ?_); (focus (first | exact Nat.le_refl _ | (simp; done) | (simp; omega) | omega))) | (with_reducible refine Below.drew ?_) | ((with_reducible refine after_ ?_ (by assumption) ?_); (rotate_left; (focus (first | exact Nat.le_refl _ | (simp; done) | (simp; omega) | omega))))))).mono HBq.out.size))
              have Hlen := Lib.hid hlen
              clear hown3 hown2 hown1 hb1 hb2 hb3 hk1 hk2 hk3 hlen hz1 hz2 hz3 s1 s2 s3 s4 s5
              go_wp2_with fail
              go_roundw
              case rel => exact ⟨i + 1, g3, cap3, L.take k ++ [x] ++ L.drop k, by omega, by go_num, HNew.out, by have := Hlen.out; omega, by rw [Hlen.out]; simp, HO3.out, HB3.out⟩
              case measure => simp [intOf]; omega
          case neg =>
            have s5 : k ≤ k := Nat.le_refl _
            go_region_law (first
              | (refine step_extend rfl (.tmp 56) (.tmp 59) 24 rfl wq.heap.size 33 (.agg #[.int .i64 0, .int .i64 0, .int .i64 0, .int .i64 0, .int .i64 0]) 5 40 Try.underlying24 info_cbn rfl (by decide) (by decide) _ 0 [] rfl ?_ g 0 k _ (flat Cbn.cells (L.take k)) rfl ?_ ((HRLq.out.take k).news (by repeat (first | (with_reducible exact Below.refl _ _) | ((with_reducible refine alloc_ ?_ ?_); (focus (first | exact Nat.le_refl _ | (simp; done) | (simp; omega) | omega))) | ((with_reducible refine set_ ?_ ?_); (focus (first | exact Nat.le_refl _ | (simp; done) | (simp; omega) | omega))) | (with_reducible refine Below.drew ?_) | ((with_reducible refine after_ ?_ (by assumption) ?_); (rotate_left; (focus (first | exact Nat.le_refl _ | (simp; done) | (simp; omega) | omega)))))) (fun _ => rfl) (by decide)) (cbn_one _) ?_ ?_ ?_; (focus (first | exact oe1 (Nat.le_refl _) | exact oe2 (Nat.le_refl _) | exact oe3 (Nat.le_refl _))); (focus (rw [flat_len5, List.length_take]; omega)); (focus omega); (focus (first | omega | (simp; done) | (simp; omega))); intro v1 w1 hown1 hb1 hk1; have hz1 := hb1.size; (try simp at hz1); have HW0 := Lib.hid (show Below wq.heap.size wq w1 from (by repeat (first | (with_reducible exact Below.refl _ _) | ((with_reducible refine alloc_ ?_ ?_); (focus (first | exact Nat.le_refl _ | (simp; done) | (simp; omega) | omega))) | ((with_reducible refine set_ ?_ ?_); (focus (first | exact Nat.le_refl _ | (simp; done) | (simp; omega) | omega))) | (with_reducible refine Below.drew ?_) | ((with_reducible refine after_ ?_ (by assumption) ?_); (rotate_left; (focus (first | exact Nat.le_refl _ | (simp; done) | (simp; omega) | omega))))))); have HW1 := Lib.hid (HBq.out.trans (HW0.out.mono HBq.out.size)); obtain ⟨ce0, ce1, ce2, ce3, ce4⟩ := HSens.out w1 HW1.out)
              | (refine step_extend rfl (.tmp 60) (.tmp 65) 24 rfl wq.heap.size 33 (.agg #[.int .i64 0, .int .i64 0, .int .i64 0, .int .i64 0, .int .i64 0]) 5 40 Try.underlying24 info_cbn rfl (by decide) (by decide) _ ?_ ?_ rfl ?_ _ _ _ _ (Cbn.cells x) rfl rfl ?_ ?_ ?_ ?_ ?_; rotate_left 2; (focus (first | exact hown1 | exact hown1.alloc _)); (focus (first | exact news_one (cs := #[.int .i64 x.n, .int .i64 x.s, .int .i64 x.e, .int .i64 x.t, .int .i64 x.r]) (heap_alloc_new _ _) | exact news_one (cs := #[.int .i64 x.n, .int .i64 x.s, .int .i64 x.e, .int .i64 x.t, .int .i64 x.r]) (nk2 hk1) | exact news_one (cs := #[.int .i64 x.n, .int .i64 x.s, .int .i64 x.e, .int .i64 x.t, .int .i64 x.r]) (nk3 hk1))); (focus (exact cbn_one1 x)); (focus omega); (focus (first | omega | (simp; omega))); intro v2 w2 hown2 hb2 hk2; have hz2 := hb2.size; (try simp at hz2))
              | (refine step_extend rfl (.tmp 66) (.tmp 69) 24 rfl wq.heap.size 33 (.agg #[.int .i64 0, .int .i64 0, .int .i64 0, .int .i64 0, .int .i64 0]) 5 40 Try.underlying24 info_cbn rfl (by decide) (by decide) _ _ _ rfl hown2 g (k * 5) (L.length - k) _ (flat Cbn.cells (L.drop k)) rfl ?_ (newsDC (HRLq.out.drop k) (by repeat (first | (with_reducible exact Below.refl _ _) | ((with_reducible refine alloc_ ?_ ?_); (focus (first | exact Nat.le_refl _ | (simp; done) | (simp; omega) | omega))) | ((with_reducible refine set_ ?_ ?_); (focus (first | exact Nat.le_refl _ | (simp; done) | (simp; omega) | omega))) | (with_reducible refine Below.drew ?_) | ((with_reducible refine after_ ?_ (by assumption) ?_); (rotate_left; (focus (first | exact Nat.le_refl _ | (simp; done) | (simp; omega) | omega))))))) (cbn_one _) ?_ ?_ ?_; (focus (rw [flat_len5, List.length_drop] <;> omega)); (focus omega); (focus (first | omega | (simp; omega))); intro v3 w3 hown3 hb3 hk3; have hz3 := hb3.size))
            all_goals
              have hlen : (L.take k ++ [x] ++ L.drop k).length = 0 + k + 1 + (L.length - k) := by simp only [List.length_append, List.length_take, List.length_drop, List.length_singleton]; omega
              have HNew := Lib.hid (show L.take k ++ [x] ++ L.drop k = ordC KEY (l.take (i + 1)) by
                rw [H.out, ordC_put (o := l.take i) (x := x) (k := k) (by rw [← HL.out]; exact hk) (by rw [← HL.out]; exact HHi.out) (by rw [← HL.out]; exact HLo.out), ← HL.out])
              obtain ⟨g3, cap3, rfl⟩ := Joins.ownsRow_form hown3 (by omega)
              have HO3 := Lib.hid (show w3.ownsRow w.heap.size 33 5 (.slice (some ⟨g3, 0, none⟩) (L.take k ++ [x] ++ L.drop k).length cap3) (L.take k ++ [x] ++ L.drop k).length (flat Cbn.cells (L.take k ++ [x] ++ L.drop k)) by
                rw [hlen, ← flat_app, ← flat_app, flat_one]; exact Joins.ownsRow_le hown3 HBq.out.size)
              have HB3 := Lib.hid (HBq.out.trans ((show Below wq.heap.size wq w3 from (by repeat (first | (with_reducible exact Below.refl _ _) | ((with_reducible refine alloc_ ?_ ?_); (focus (first | exact Nat.le_refl _ | (simp; done) | (simp; omega) | omega))) | ((with_reducible refine set_ ?_ ?_); (focus (first | exact Nat.le_refl _ | (simp; done) | (simp; omega) | omega))) | (with_reducible refine Below.drew ?_) | ((with_reducible refine after_ ?_ (by assumption) ?_); (rotate_left; (focus (first | exact Nat.le_refl _ | (simp; done) | (simp; omega) | omega))))))).mono HBq.out.size))
              have Hlen := Lib.hid hlen
              clear hown3 hown2 hown1 hb1 hb2 hb3 hk1 hk2 hk3 hlen hz1 hz2 hz3 s1 s2 s3 s4 s5
              go_wp2_with fail
              go_roundw
              case rel => exact ⟨i + 1, g3, cap3, L.take k ++ [x] ++ L.drop k, by omega, by go_num, HNew.out, by have := Hlen.out; omega, by rw [Hlen.out]; simp, HO3.out, HB3.out⟩
              case measure => simp [intOf]; omega
    · obtain rfl : i = l.length := by omega
      have HE := Lib.hid (show L = ordC KEY l by rw [HL.out, List.take_length])
      obtain ⟨g', c', hv, hg', hc', harr⟩ := ArrC.of_some HO.out rfl rfl (by simp [Value.ownBlock])
      injection hv with e1 e2 e3
      injection e1 with e1
      injection e1 with e1
      subst e1 e3
      have HA := Lib.hid harr
      clear hbel harr
      go_wp2_with fail
      go_ret
      exact ⟨g, gc, by rw [← HE.out]; rfl, by rw [← HE.out]; exact hc', hg', by rw [← HE.out]; exact HA.out, HB.out⟩
end Go.Proofs.Ytcmbbhdoienkoaa
