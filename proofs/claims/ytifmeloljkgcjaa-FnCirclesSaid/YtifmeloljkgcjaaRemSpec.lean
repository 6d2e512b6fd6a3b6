/- RemoveCabin of the reference returns the Lean function; no conditions but the length and that the ring's length is not far off. -/
import Derived.Test.YtifmeloljkgcjaaWith
namespace Go.Proofs.Ytifmeloljkgcjaa
open Go.RowKit

theorem own_of {f : FuncId} {l : List Int} {n : Nat} {W : World} {A : Option Addr} {cap : Nat} (h : Calls Try.prog f #[.slice A l.length cap] W (OwnsL W.heap.size l W)) (hn : l.length = n) :
    Calls Try.prog f #[.slice A n cap] W fun e w' => ∃ A2 c2, e = .returned (.slice A2 n c2) ∧ w'.ownsRow W.heap.size 3 1 (.slice A2 n c2) n (flat intCells l) ∧ Below W.heap.size W w' := by subst hn; exact h
theorem with_of {f : FuncId} {L s : Int} {l : List Int} {n : Nat} {W : World} {A : Option Addr} {cap : Nat} {c : Value} (h : Calls Try.prog f #[c, .slice A l.length cap] W (WithPost L s l W)) (hn : l.length = n) :
    Calls Try.prog f #[c, .slice A n cap] W fun e w' => ∃ A2 c2, e = .returned (.agg #[.int .i64 L, .int .i64 s, .slice A2 n c2]) ∧ Own w' W.heap.size 3 1 intCells A2 l ∧ Below W.heap.size W w' := by subst hn; exact h
set_option maxHeartbeats 2000000 in
theorem specRemoveCabin_c (L s : Int) (l : List Int) (k : Int) (A : Option Addr) (cap : Nat) (w : World) (hL : NearC L) (hl : l.length ≤ 1000) (hcap : l.length ≤ cap) (hr : Rd w w.heap.size 1 intCells A l) :
    Calls Try.prog 18 #[.agg #[.int .i64 L, .int .i64 s, .slice A l.length cap], .int .i64 k] w (CircPost L s (remP L s l k) w) := by
  have HX := Lib.hid ((Box.new w [.int .i64 L, .int .i64 s, .slice A l.length cap] 26).alloc (.cells #[.int .i64 0, .int .i64 0, .slice none 0 0] 26))
  have hz := Box.new (w.alloc (.cells #[.int .i64 L, .int .i64 s, .slice A l.length cap] 26)) zeroL 26
  rw [World.size_alloc] at hz
  have HZ := Lib.hid hz
  have HR := Lib.hid ((hr.alloc (.cells #[.int .i64 L, .int .i64 s, .slice A l.length cap] 26)).alloc (.cells #[.int .i64 0, .int .i64 0, .slice none 0 0] 26))
  clear hr hz
  rcases hg : goodC L s l with _ | _
  · have H := Lib.hid (show remP L s l k = ([], false) by simp [remP, remC, hg])
    go_enter Try.func18, Try.ntmps18
    go_wp2_with fail
    refine (l8Good_c L s l _ _ _ hL hl HR.out).mono ?_
    rintro e w1 ⟨rfl, hb1⟩
    have HB := Lib.hid (show Below w.heap.size w w1 from (by repeat (first | (with_reducible exact Below.refl _ _) | ((with_reducible refine alloc_ ?_ ?_); (focus (first | exact Nat.le_refl _ | (simp; done) | (simp; omega) | omega))) | ((with_reducible refine set_ ?_ ?_); (focus (first | exact Nat.le_refl _ | (simp; done) | (simp; omega) | omega))) | (with_reducible refine Below.drew ?_) | ((with_reducible refine after_ ?_ (by assumption) ?_); (rotate_left; (focus (first | exact Nat.le_refl _ | (simp; done) | (simp; omega) | omega)))))))
    have hz9 := HZ.out.carry hb1
    have z0 := hz9.cell (j := 0) rfl
    have z1 := hz9.cell (j := 1) rfl
    have z2 := hz9.cell (j := 2) rfl
    have zz := hz9.frozen
    have lz := hz9.lt
    have zs := HB.out.size
    clear hz9
    go_wp2_with fail
    exact bodyPost_ret (v := .tuple #[.agg #[.int .i64 0, .int .i64 0, .slice none 0 0], .bool false]) (by simp [results, Try.results18, go_sem, z0, z1, z2]) rfl ⟨none, 0, retz H.out, by rw [H.out]; exact Own.nil, by have h := HB.out; exact (by repeat (first | (with_reducible exact Below.refl _ _) | ((with_reducible refine alloc_ ?_ ?_); (focus (first | exact Nat.le_refl _ | (simp; done) | (simp; omega) | omega))) | ((with_reducible refine set_ ?_ ?_); (focus (first | exact Nat.le_refl _ | (simp; done) | (simp; omega) | omega))) | (with_reducible refine Below.drew ?_) | ((with_reducible refine after_ ?_ (by assumption) ?_); (rotate_left; (focus (first | exact Nat.le_refl _ | (simp; done) | (simp; omega) | omega))))))⟩
  rcases hk : inR k 0 (l.length - 1) with _ | _
  · have H := Lib.hid (show remP L s l k = ([], false) by simp [remP, remC, hk])
    go_enter Try.func18, Try.ntmps18
    go_wp2_with fail
    refine (l8Good_c L s l _ _ _ hL hl HR.out).mono ?_
    rintro e w1 ⟨rfl, hb1⟩
    have HB := Lib.hid (show Below w.heap.size w w1 from (by repeat (first | (with_reducible exact Below.refl _ _) | ((with_reducible refine alloc_ ?_ ?_); (focus (first | exact Nat.le_refl _ | (simp; done) | (simp; omega) | omega))) | ((with_reducible refine set_ ?_ ?_); (focus (first | exact Nat.le_refl _ | (simp; done) | (simp; omega) | omega))) | (with_reducible refine Below.drew ?_) | ((with_reducible refine after_ ?_ (by assumption) ?_); (rotate_left; (focus (first | exact Nat.le_refl _ | (simp; done) | (simp; omega) | omega)))))))
    have hx := HX.out.carry hb1
    have x0 := hx.cell (j := 0) rfl
    have x1 := hx.cell (j := 1) rfl
    have x2 := hx.cell (j := 2) rfl
    have a1 : IntKind.i64.wrap ((l.length : Int) - 1) = l.length - 1 := IntWalk.i64_in _ (by omega)
    have hz9 := HZ.out.carry hb1
    have z0 := hz9.cell (j := 0) rfl
    have z1 := hz9.cell (j := 1) rfl
    have z2 := hz9.cell (j := 2) rfl
    have zz := hz9.frozen
    have lz := hz9.lt
    have zs := HB.out.size
    clear hz9
    go_wp2_with (go_at_call 32; refine (l1In_c _ _ _ _).mono ?_; rintro e w' ⟨rfl, rfl⟩)
    exact bodyPost_ret (v := .tuple #[.agg #[.int .i64 0, .int .i64 0, .slice none 0 0], .bool false]) (by simp [results, Try.results18, go_sem, z0, z1, z2]) rfl ⟨none, 0, retz H.out, by rw [H.out]; exact Own.nil, by have h := HB.out; exact (by repeat (first | (with_reducible exact Below.refl _ _) | ((with_reducible refine alloc_ ?_ ?_); (focus (first | exact Nat.le_refl _ | (simp; done) | (simp; omega) | omega))) | ((with_reducible refine set_ ?_ ?_); (focus (first | exact Nat.le_refl _ | (simp; done) | (simp; omega) | omega))) | (with_reducible refine Below.drew ?_) | ((with_reducible refine after_ ?_ (by assumption) ?_); (rotate_left; (focus (first | exact Nat.le_refl _ | (simp; done) | (simp; omega) | omega))))))⟩
  have H := Lib.hid (show remP L s l k = (remL l k.toNat, true) by simp [remP, remC, hg, hk])
  obtain ⟨k1, k2⟩ := inR_true.1 hk
  obtain ⟨K, rfl⟩ : ∃ K : Nat, k = (K : Int) := ⟨k.toNat, by omega⟩
  have hK : K < l.length := by omega
  simp only [Int.toNat_natCast] at H
  go_enter Try.func18, Try.ntmps18
  go_wp2_with fail
  refine (l8Good_c L s l _ _ _ hL hl HR.out).mono ?_
  rintro e w1 ⟨rfl, hb1⟩
  have HB := Lib.hid (show Below w.heap.size w w1 from (by repeat (first | (with_reducible exact Below.refl _ _) | ((with_reducible refine alloc_ ?_ ?_); (focus (first | exact Nat.le_refl _ | (simp; done) | (simp; omega) | omega))) | ((with_reducible refine set_ ?_ ?_); (focus (first | exact Nat.le_refl _ | (simp; done) | (simp; omega) | omega))) | (with_reducible refine Below.drew ?_) | ((with_reducible refine after_ ?_ (by assumption) ?_); (rotate_left; (focus (first | exact Nat.le_refl _ | (simp; done) | (simp; omega) | omega)))))))
  have HX1 := Lib.hid (HX.out.carry hb1)
  have HZ1 := Lib.hid (HZ.out.carry hb1)
  have HR1 := Lib.hid (HR.out.carry hb1)
  have hx := HX.out.carry hb1
  have x0 := hx.cell (j := 0) rfl
  have x1 := hx.cell (j := 1) rfl
  have x2 := hx.cell (j := 2) rfl
  have a1 : IntKind.i64.wrap ((l.length : Int) - 1) = l.length - 1 := IntWalk.i64_in _ (by omega)
  obtain ⟨b, off, rfl, hb, hc⟩ := HR1.out.int hK
  clear hb1 hx hc
  go_wp2_with (go_at_call 32; refine (l1In_c _ _ _ _).mono ?_; rintro e w' ⟨rfl, rfl⟩)
  have a2 : IntKind.i64.wrap ((K : Int) + 1) = (K : Int) + 1 := IntWalk.i64_in _ (by omega)
  have a3 : ((K : Int) + 1).toNat = K + 1 := by omega
  have a4 : (0 : Int) ≤ (K : Int) + 1 := by omega
  have a5 : (K : Int) + 1 ≤ l.length := by omega
  have a6 : (K : Int) ≤ l.length := by omega
  have a7 : (K : Int) ≤ cap := by omega
  have lx1 : w.heap.size < w1.heap.size := HX1.out.lt
  clear a1
  have HP := Lib.hid (show (l.take K).length = K by simp; omega)
  have HLE := Lib.hid (show (remL l K).length ≤ 1000 by simp [remL]; omega)
  by_cases hcp : cap = K + 1
  · have HD := Lib.hid (show Rd w1 w1.heap.size 1 intCells (some ⟨b, off, none⟩) (l.drop (K + 1)) by rw [List.drop_eq_nil_of_le (by omega)]; exact Rd.empty)
    subst hcp
    have HQ := Lib.hid (show (l.drop (K + 1)).length = 0 by simp; omega)
    have a8 : (K : Int) ≤ (K : Int) + 1 := by omega
    have HNL := Lib.hid (show (remL l K).length = K by simp [remL]; omega)
    go_region_held3 (fun w' : World => w'.cell? ⟨w.heap.size, 0, none⟩ = some (.int .i64 L) ∧ w'.cell? ⟨w.heap.size, 1, none⟩ = some (.int .i64 s) ∧ w'.cell? ⟨w.heap.size, 2, none⟩ = some (.slice (some ⟨b, off, none⟩) l.length (K + 1))) (first | (with_reducible exact ⟨x0, x1, x2⟩) | (with_reducible exact ⟨y0, y1, y2⟩) | (with_reducible exact ⟨v0, v1, v2⟩) | (with_reducible exact ⟨u0, u1, u2⟩) | (simp [go_sem, x0, x1, x2, lx1]; done) | (simp [go_sem, y0, y1, y2]; done) | (simp [go_sem, v0, v1, v2]; done) | (simp [go_sem, u0, u1, u2]; done)) (first
      | (go_at_call 36; refine (own_of (l1Own_c (l.take K) (some ⟨b, off, none⟩) (K + 1) _ (by simp; omega) (.inr ⟨b, off, rfl⟩) ((HR1.out.take K).carry (by repeat (first | (with_reducible exact Below.refl _ _) | ((with_reducible refine alloc_ ?_ ?_); (focus (first | exact Nat.le_refl _ | (simp; done) | (simp; omega) | omega))) | ((with_reducible refine set_ ?_ ?_); (focus (first | exact Nat.le_refl _ | (simp; done) | (simp; omega) | omega))) | (with_reducible refine Below.drew ?_) | ((with_reducible refine after_ ?_ (by assumption) ?_); (rotate_left; (focus (first | exact Nat.le_refl _ | (simp; done) | (simp; omega) | omega)))))))) HP.out).mono ?_; rintro e w2 ⟨A2, c2, rfl, ho, hb2⟩; have HO := Lib.hid ho; have HB2 := Lib.hid (show Below w1.heap.size w1 w2 from (by repeat (first | (with_reducible exact Below.refl _ _) | ((with_reducible refine alloc_ ?_ ?_); (focus (first | exact Nat.le_refl _ | (simp; done) | (simp; omega) | omega))) | ((with_reducible refine set_ ?_ ?_); (focus (first | exact Nat.le_refl _ | (simp; done) | (simp; omega) | omega))) | (with_reducible refine Below.drew ?_) | ((with_reducible refine after_ ?_ (by assumption) ?_); (rotate_left; (focus (first | exact Nat.le_refl _ | (simp; done) | (simp; omega) | omega))))))); have hx2 := HX1.out.carry HB2.out; have y0 := hx2.cell (j := 0) rfl; have y1 := hx2.cell (j := 1) rfl; have y2 := hx2.cell (j := 2) rfl; have s2 := HB2.out.size; clear ho hb2 hx2)
      | (refine step_extend rfl (.tmp 24) (.tmp 29) 24 rfl w1.heap.size 3 (.int .i64 0) 1 8 Try.underlying24 info_int rfl (by decide) (by decide) _ K _ rfl (ownsRow_below HO.out (by repeat (first | (with_reducible exact Below.refl _ _) | ((with_reducible refine alloc_ ?_ ?_); (focus (first | exact Nat.le_refl _ | (simp; done) | (simp; omega) | omega))) | ((with_reducible refine set_ ?_ ?_); (focus (first | exact Nat.le_refl _ | (simp; done) | (simp; omega) | omega))) | (with_reducible refine Below.drew ?_) | ((with_reducible refine after_ ?_ (by assumption) ?_); (rotate_left; (focus (first | exact Nat.le_refl _ | (simp; done) | (simp; omega) | omega))))))) b (off) (0) (0) (flat intCells (l.drop (K + 1))) rfl ?_ (HD.out.news (HB2.out.trans (Below.mono (B := w2.heap.size) (by repeat (first | (with_reducible exact Below.refl _ _) | ((with_reducible refine alloc_ ?_ ?_); (focus (first | exact Nat.le_refl _ | (simp; done) | (simp; omega) | omega))) | ((with_reducible refine set_ ?_ ?_); (focus (first | exact Nat.le_refl _ | (simp; done) | (simp; omega) | omega))) | (with_reducible refine Below.drew ?_) | ((with_reducible refine after_ ?_ (by assumption) ?_); (rotate_left; (focus (first | exact Nat.le_refl _ | (simp; done) | (simp; omega) | omega)))))) s2)) int_one (by decide)) (flat_cells int_ones _) ?_ ?_ ?_; (focus (rw [flat_len int_one, HQ.out])); (focus omega); (focus (first | omega | (simp; omega))); intro v3 w3 hown hb3 hk3; have HO3 := Lib.hid hown; have HB3 := Lib.hid (show Below w1.heap.size w1 w3 from HB2.out.trans ((Below.mono (B := w2.heap.size) (by repeat (first | (with_reducible exact Below.refl _ _) | ((with_reducible refine alloc_ ?_ ?_); (focus (first | exact Nat.le_refl _ | (simp; done) | (simp; omega) | omega))) | ((with_reducible refine set_ ?_ ?_); (focus (first | exact Nat.le_refl _ | (simp; done) | (simp; omega) | omega))) | (with_reducible refine Below.drew ?_) | ((with_reducible refine after_ ?_ (by assumption) ?_); (rotate_left; (focus (first | exact Nat.le_refl _ | (simp; done) | (simp; omega) | omega)))))) s2).trans hb3)); have hx3 := HX1.out.carry HB3.out; have v0 := hx3.cell (j := 0) rfl; have v1 := hx3.cell (j := 1) rfl; have v2 := hx3.cell (j := 2) rfl; have s3 := HB3.out.size; obtain ⟨A3, c3, rfl⟩ := ownsRow_shape hown; clear hown hb3 hk3 hx3)
      | (go_at_call 34; refine (with_of (l8With_c L s _ _ _ (remL l K) A3 c3 _ HLE.out (place_owns HO3.out) ((own_flat (l := remL l K) HO3.out (by rw [HNL.out]; try rfl) (by rw [flat_app]; rfl) int_one).rd int_one)) HNL.out).mono ?_; rintro e w4 ⟨A4, c4, rfl, ho, hb4⟩; have HO4 := Lib.hid ho; have HB4 := Lib.hid (show Below w1.heap.size w1 w4 from HB3.out.trans (hb4.mono s3)); have hx4 := HX1.out.carry HB4.out; have u0 := hx4.cell (j := 0) rfl; have u1 := hx4.cell (j := 1) rfl; have u2 := hx4.cell (j := 2) rfl; have hz4 := HZ1.out.carry HB4.out; have z0 := hz4.cell (j := 0) rfl; have z1 := hz4.cell (j := 1) rfl; have z2 := hz4.cell (j := 2) rfl; have zz := hz4.frozen; have lz := hz4.lt; clear ho hb4 hx4 hz4))
    have HB5 := Lib.hid (show Below w.heap.size w w4 from HB.out.trans (HB4.out.mono HB.out.size))
    have zs := HB5.out.size
    have lz1 : w.heap.size + 1 < w3.heap.size := (HZ1.out.carry HB3.out).lt
    have HS := Lib.hid (set3c w4 (w.heap.size + 1))
    go_wp2_with fail
    exact bodyPost_ret (v := .tuple #[.agg #[.int .i64 L, .int .i64 s, .slice A4 (K) c4], .bool true]) (by simp [results, Try.results18, go_sem, z0, z1, z2]; try omega) rfl
      ⟨A4, c4, retw (by rw [HNL.out]) H.out, by rw [H.out]; exact ((HO4.out.grown (HS.out _ _ _) lz1).less (by omega)), by have h := HB5.out; exact (by repeat (first | (with_reducible exact Below.refl _ _) | ((with_reducible refine alloc_ ?_ ?_); (focus (first | exact Nat.le_refl _ | (simp; done) | (simp; omega) | omega))) | ((with_reducible refine set_ ?_ ?_); (focus (first | exact Nat.le_refl _ | (simp; done) | (simp; omega) | omega))) | (with_reducible refine Below.drew ?_) | ((with_reducible refine after_ ?_ (by assumption) ?_); (rotate_left; (focus (first | exact Nat.le_refl _ | (simp; done) | (simp; omega) | omega))))))⟩
  · have HD := Lib.hid (show Rd w1 w1.heap.size 1 intCells (some ⟨b, off + (K + 1), none⟩) (l.drop (K + 1)) by have h := HR1.out.drop (K + 1); rw [Nat.mul_one] at h; exact h)
    have HQ := Lib.hid (show (l.drop (K + 1)).length = l.length - (K + 1) by simp)
    have HNL := Lib.hid (show (remL l K).length = K + (l.length - (K + 1)) by simp [remL]; omega)
    go_region_held3 (fun w' : World => w'.cell? ⟨w.heap.size, 0, none⟩ = some (.int .i64 L) ∧ w'.cell? ⟨w.heap.size, 1, none⟩ = some (.int .i64 s) ∧ w'.cell? ⟨w.heap.size, 2, none⟩ = some (.slice (some ⟨b, off, none⟩) l.length (cap))) (first | (with_reducible exact ⟨x0, x1, x2⟩) | (with_reducible exact ⟨y0, y1, y2⟩) | (with_reducible exact ⟨v0, v1, v2⟩) | (with_reducible exact ⟨u0, u1, u2⟩) | (simp [go_sem, x0, x1, x2, lx1]; done) | (simp [go_sem, y0, y1, y2]; done) | (simp [go_sem, v0, v1, v2]; done) | (simp [go_sem, u0, u1, u2]; done)) (first
      | (go_at_call 36; refine (own_of (l1Own_c (l.take K) (some ⟨b, off, none⟩) (cap) _ (by simp; omega) (.inr ⟨b, off, rfl⟩) ((HR1.out.take K).carry (by repeat (first | (with_reducible exact Below.refl _ _) | ((with_reducible refine alloc_ ?_ ?_); (focus (first | exact Nat.le_refl _ | (simp; done) | (simp; omega) | omega))) | ((with_reducible refine set_ ?_ ?_); (focus (first | exact Nat.le_refl _ | (simp; done) | (simp; omega) | omega))) | (with_reducible refine Below.drew ?_) | ((with_reducible refine after_ ?_ (by assumption) ?_); (rotate_left; (focus (first | exact Nat.le_refl _ | (simp; done) | (simp; omega) | omega)))))))) HP.out).mono ?_; rintro e w2 ⟨A2, c2, rfl, ho, hb2⟩; have HO := Lib.hid ho; have HB2 := Lib.hid (show Below w1.heap.size w1 w2 from (by repeat (first | (with_reducible exact Below.refl _ _) | ((with_reducible refine alloc_ ?_ ?_); (focus (first | exact Nat.le_refl _ | (simp; done) | (simp; omega) | omega))) | ((with_reducible refine set_ ?_ ?_); (focus (first | exact Nat.le_refl _ | (simp; done) | (simp; omega) | omega))) | (with_reducible refine Below.drew ?_) | ((with_reducible refine after_ ?_ (by assumption) ?_); (rotate_left; (focus (first | exact Nat.le_refl _ | (simp; done) | (simp; omega) | omega))))))); have hx2 := HX1.out.carry HB2.out; have y0 := hx2.cell (j := 0) rfl; have y1 := hx2.cell (j := 1) rfl; have y2 := hx2.cell (j := 2) rfl; have s2 := HB2.out.size; clear ho hb2 hx2)
      | (refine step_extend rfl (.tmp 24) (.tmp 29) 24 rfl w1.heap.size 3 (.int .i64 0) 1 8 Try.underlying24 info_int rfl (by decide) (by decide) _ K _ rfl (ownsRow_below HO.out (by repeat (first | (with_reducible exact Below.refl _ _) | ((with_reducible refine alloc_ ?_ ?_); (focus (first | exact Nat.le_refl _ | (simp; done) | (simp; omega) | omega))) | ((with_reducible refine set_ ?_ ?_); (focus (first | exact Nat.le_refl _ | (simp; done) | (simp; omega) | omega))) | (with_reducible refine Below.drew ?_) | ((with_reducible refine after_ ?_ (by assumption) ?_); (rotate_left; (focus (first | exact Nat.le_refl _ | (simp; done) | (simp; omega) | omega))))))) b (off + (K + 1)) (l.length - (K + 1)) (cap - (K + 1)) (flat intCells (l.drop (K + 1))) rfl ?_ (HD.out.news (HB2.out.trans (Below.mono (B := w2.heap.size) (by repeat (first | (with_reducible exact Below.refl _ _) | ((with_reducible refine alloc_ ?_ ?_); (focus (first | exact Nat.le_refl _ | (simp; done) | (simp; omega) | omega))) | ((with_reducible refine set_ ?_ ?_); (focus (first | exact Nat.le_refl _ | (simp; done) | (simp; omega) | omega))) | (with_reducible refine Below.drew ?_) | ((with_reducible refine after_ ?_ (by assumption) ?_); (rotate_left; (focus (first | exact Nat.le_refl _ | (simp; done) | (simp; omega) | omega)))))) s2)) int_one (by decide)) (flat_cells int_ones _) ?_ ?_ ?_; (focus (rw [flat_len int_one, HQ.out])); (focus omega); (focus (first | omega | (simp; omega))); intro v3 w3 hown hb3 hk3; have HO3 := Lib.hid hown; have HB3 := Lib.hid (show Below w1.heap.size w1 w3 from HB2.out.trans ((Below.mono (B := w2.heap.size) (by repeat (first | (with_reducible exact Below.refl _ _) | ((with_reducible refine alloc_ ?_ ?_); (focus (first | exact Nat.le_refl _ | (simp; done) | (simp; omega) | omega))) | ((with_reducible refine set_ ?_ ?_); (focus (first | exact Nat.le_refl _ | (simp; done) | (simp; omega) | omega))) | (with_reducible refine Below.drew ?_) | ((with_reducible refine after_ ?_ (by assumption) ?_); (rotate_left; (focus (first | exact Nat.le_refl _ | (simp; done) | (simp; omega) | omega)))))) s2).trans hb3)); have hx3 := HX1.out.carry HB3.out; have v0 := hx3.cell (j := 0) rfl; have v1 := hx3.cell (j := 1) rfl; have v2 := hx3.cell (j := 2) rfl; have s3 := HB3.out.size; obtain ⟨A3, c3, rfl⟩ := ownsRow_shape hown; clear hown hb3 hk3 hx3)
      | (go_at_call 34; refine (with_of (l8With_c L s _ _ _ (remL l K) A3 c3 _ HLE.out (place_owns HO3.out) ((own_flat (l := remL l K) HO3.out (by rw [HNL.out]; try rfl) (by rw [flat_app]; rfl) int_one).rd int_one)) HNL.out).mono ?_; rintro e w4 ⟨A4, c4, rfl, ho, hb4⟩; have HO4 := Lib.hid ho; have HB4 := Lib.hid (show Below w1.heap.size w1 w4 from HB3.out.trans (hb4.mono s3)); have hx4 := HX1.out.carry HB4.out; have u0 := hx4.cell (j := 0) rfl; have u1 := hx4.cell (j := 1) rfl; have u2 := hx4.cell (j := 2) rfl; have hz4 := HZ1.out.carry HB4.out; have z0 := hz4.cell (j := 0) rfl; have z1 := hz4.cell (j := 1) rfl; have z2 := hz4.cell (j := 2) rfl; have zz := hz4.frozen; have lz := hz4.lt; clear ho hb4 hx4 hz4))
    have HB5 := Lib.hid (show Below w.heap.size w w4 from HB.out.trans (HB4.out.mono HB.out.size))
    have zs := HB5.out.size
    have lz1 : w.heap.size + 1 < w3.heap.size := (HZ1.out.carry HB3.out).lt
    have HS := Lib.hid (set3c w4 (w.heap.size + 1))
    go_wp2_with fail
    exact bodyPost_ret (v := .tuple #[.agg #[.int .i64 L, .int .i64 s, .slice A4 (K + (l.length - (K + 1))) c4], .bool true]) (by simp [results, Try.results18, go_sem, z0, z1, z2]; try omega) rfl
      ⟨A4, c4, retw (by rw [HNL.out]) H.out, by rw [H.out]; exact ((HO4.out.grown (HS.out _ _ _) lz1).less (by omega)), by have h := HB5.out; exact (by repeat (first | (with_reducible exact Below.refl _ _) | ((with_reducible refine alloc_ ?_ ?_); (focus (first | exact Nat.le_refl _ | (simp; done) | (simp; omega) | omega))) | ((with_reducible refine set_ ?_ ?_); (focus (first | exact Nat.le_refl _ | (simp; done) | (simp; omega) | omega))) | (with_reducible refine Below.drew ?_) | ((with_reducible refine after_ ?_ (by assumption) ?_); (rotate_left; (focus (first | exact Nat.le_refl _ | (simp; done) | (simp; omega) | omega))))))⟩
end Go.Proofs.Ytifmeloljkgcjaa
