/- RemoveCabin of the program and of the reference return one Lean function; no conditions but the length and that the ring's length is not far off. -/
import Derived.Test.YtifmeloljkgcjaaGapsEnd
import Derived.Test.YtifmeloljkgcjaaConcatI
namespace Go.Proofs.Ytifmeloljkgcjaa
open Go.RowKit

def remP (L s : Int) (l : List Int) (k : Int) : List Int × Bool := if remC L s l k then (remL l k.toNat, true) else ([], false)
/-- A ring that a call hands back, or an empty one. -/
def CircPost (L s : Int) (p : List Int × Bool) (w : World) (e : Ending) (w' : World) : Prop := ∃ A cap, e = .returned (.tuple #[.agg #[.int .i64 (if p.2 then L else 0), .int .i64 (if p.2 then s else 0), .slice A p.1.length cap], .bool p.2]) ∧ Own w' w.heap.size 3 1 intCells A p.1 ∧ Below w.heap.size w w'
def zeroL : List Value := [.int .i64 0, .int .i64 0, .slice none 0 0]
theorem retc {L s : Int} {p : List Int × Bool} {l : List Int} {A : Option Addr} {cap : Nat} (h : p = (l, true)) : Ending.returned (.tuple #[.agg #[.int .i64 L, .int .i64 s, .slice A l.length cap], .bool true]) = .returned (.tuple #[.agg #[.int .i64 (if p.2 then L else 0), .int .i64 (if p.2 then s else 0), .slice A p.1.length cap], .bool p.2]) := by rw [h]; rfl
theorem retz {L s : Int} {p : List Int × Bool} (h : p = ([], false)) : Ending.returned (.tuple #[.agg #[.int .i64 0, .int .i64 0, .slice none 0 0], .bool false]) = .returned (.tuple #[.agg #[.int .i64 (if p.2 then L else 0), .int .i64 (if p.2 then s else 0), .slice none p.1.length 0], .bool p.2]) := by rw [h]; rfl
theorem retw {L s : Int} {p : List Int × Bool} {v : Value} {l : List Int} {A : Option Addr} {cap : Nat} (hv : v = .tuple #[.agg #[.int .i64 L, .int .i64 s, .slice A l.length cap], .bool true]) (h : p = (l, true)) : Ending.returned v = .returned (.tuple #[.agg #[.int .i64 (if p.2 then L else 0), .int .i64 (if p.2 then s else 0), .slice A p.1.length cap], .bool p.2]) := by rw [hv, h]; rfl

theorem set3c (w : World) (g : Nat) (u0 u1 u2 : Value) : w.grownBy (((w.setCell ⟨g, 0, none⟩ u0).setCell ⟨g, 1, none⟩ u1).setCell ⟨g, 2, none⟩ u2) (some g) :=
  grown_set (grown_set (grown_set (World.grownBy.refl w (some g))))
set_option maxHeartbeats 2000000 in
theorem implRemoveCabin_c (L s : Int) (l : List Int) (k : Int) (A : Option Addr) (cap : Nat) (w : World) (hL : NearC L) (hl : l.length ≤ 1000) (hcap : l.length ≤ cap) (hr : Rd w w.heap.size 1 intCells A l) :
    Calls Try.prog 16 #[.agg #[.int .i64 L, .int .i64 s, .slice A l.length cap], .int .i64 k] w (CircPost L s (remP L s l k) w) := by
  have HX := Lib.hid ((Box.new w [.int .i64 L, .int .i64 s, .slice A l.length cap] 26).alloc (.cells #[.int .i64 0, .int .i64 0, .slice none 0 0] 26))
  have hz := Box.new (w.alloc (.cells #[.int .i64 L, .int .i64 s, .slice A l.length cap] 26)) zeroL 26
  rw [World.size_alloc] at hz
  have HZ := Lib.hid hz
  have HR := Lib.hid ((hr.alloc (.cells #[.int .i64 L, .int .i64 s, .slice A l.length cap] 26)).alloc (.cells #[.int .i64 0, .int .i64 0, .slice none 0 0] 26))
  clear hr hz
  rcases hg : goodC L s l with _ | _
  · have H := Lib.hid (show remP L s l k = ([], false) by simp [remP, remC, hg])
    go_enter Try.func16, Try.ntmps16
    go_wp2_with fail
    refine (isCircle_c L s l _ _ _  hl HR.out).mono ?_
    rintro e w1 ⟨rfl, hb1⟩
    have HB := Lib.hid (show Below w.heap.size w w1 from (by repeat (first | (with_reducible exact Below.refl _ _) | ((with_reducible refine alloc_ ?_ ?_); (focus (first | exact Nat.le_refl _ | (simp; done) | (simp; omega) | omega))) | ((with_reducible refine set_ ?_ ?_); (focus (first | exact Nat.le_refl _ | (simp; done) | (simp; omega) | omega))) | (with_reducible refine Below.drew ?_) | ((with_reducible refine after_ ?_ (by assumption) ?_); (rotate_left; (focus (first | exact Nat.le_refl _ | (simp; done) | (simp; omega) | omega)))))))
    have hz9 := HZ.out.carry hb1
    have z0 := hz9.cell (j := 0) rfl
    have z1 := hz9.cell (j := 1) rfl
    have z2 := hz9.cell (j := 2) rfl
    have zz := hz9.frozen
    have lz := hz9.lt
    have zs := HB.out.size
    clear hz9
    go_wp2_with fail
    exact bodyPost_ret (v := .tuple #[.agg #[.int .i64 0, .int .i64 0, .slice none 0 0], .bool false]) (by simp [results, Try.results16, go_sem, z0, z1, z2]) rfl ⟨none, 0, retz H.out, by rw [H.out]; exact Own.nil, by have h := HB.out; exact (by repeat (first | (with_reducible exact Below.refl _ _) | ((with_reducible refine alloc_ ?_ ?_); (focus (first | exact Nat.le_refl _ | (simp; done) | (simp; omega) | omega))) | ((with_reducible refine set_ ?_ ?_); (focus (first | exact Nat.le_refl _ | (simp; done) | (simp; omega) | omega))) | (with_reducible refine Below.drew ?_) | ((with_reducible refine after_ ?_ (by assumption) ?_); (rotate_left; (focus (first | exact Nat.le_refl _ | (simp; done) | (simp; omega) | omega))))))⟩
  rcases hk : inR k 0 (l.length - 1) with _ | _
  · have H := Lib.hid (show remP L s l k = ([], false) by simp [remP, remC, hk])
    go_enter Try.func16, Try.ntmps16
    go_wp2_with fail
    refine (isCircle_c L s l _ _ _  hl HR.out).mono ?_
    rintro e w1 ⟨rfl, hb1⟩
    have HB := Lib.hid (show Below w.heap.size w w1 from (by repeat (first | (with_reducible exact Below.refl _ _) | ((with_reducible refine alloc_ ?_ ?_); (focus (first | exact Nat.le_refl _ | (simp; done) | (simp; omega) | omega))) | ((with_reducible refine set_ ?_ ?_); (focus (first | exact Nat.le_refl _ | (simp; done) | (simp; omega) | omega))) | (with_reducible refine Below.drew ?_) | ((with_reducible refine after_ ?_ (by assumption) ?_); (rotate_left; (focus (first | exact Nat.le_refl _ | (simp; done) | (simp; omega) | omega)))))))
    have hx := HX.out.carry hb1
    have x0 := hx.cell (j := 0) rfl
    have x1 := hx.cell (j := 1) rfl
    have x2 := hx.cell (j := 2) rfl
    have a1 : IntKind.i64.wrap ((l.length : Int) - 1) = l.length - 1 := IntWalk.i64_in _ (by omega)
    have hz9 := HZ.out.carry hb1
    have z0 := hz9.cell (j := 0) rfl
    have z1 := hz9.cell (j := 1) rfl
    have z2 := hz9.cell (j := 2) rfl
    have zz := hz9.frozen
    have lz := hz9.lt
    have zs := HB.out.size
    clear hz9
    go_wp2_with (go_at_call 26; refine (within_c _ _ _ _).mono ?_; rintro e w' ⟨rfl, rfl⟩)
    exact bodyPost_ret (v := .tuple #[.agg #[.int .i64 0, .int .i64 0, .slice none 0 0], .bool false]) (by simp [results, Try.results16, go_sem, z0, z1, z2]) rfl ⟨none, 0, retz H.out, by rw [H.out]; exact Own.nil, by have h := HB.out; exact (by repeat (first | (with_reducible exact Below.refl _ _) | ((with_reducible refine alloc_ ?_ ?_); (focus (first | exact Nat.le_refl _ | (simp; done) | (simp; omega) | omega))) | ((with_reducible refine set_ ?_ ?_); (focus (first | exact Nat.le_refl _ | (simp; done) | (simp; omega) | omega))) | (with_reducible refine Below.drew ?_) | ((with_reducible refine after_ ?_ (by assumption) ?_); (rotate_left; (focus (first | exact Nat.le_refl _ | (simp; done) | (simp; omega) | omega))))))⟩
  have H := Lib.hid (show remP L s l k = (remL l k.toNat, true) by simp [remP, remC, hg, hk])
  obtain ⟨k1, k2⟩ := inR_true.1 hk
  obtain ⟨K, rfl⟩ : ∃ K : Nat, k = (K : Int) := ⟨k.toNat, by omega⟩
  have hK : K < l.length := by omega
  simp only [Int.toNat_natCast] at H
  go_enter Try.func16, Try.ntmps16
  go_wp2_with fail
  refine (isCircle_c L s l _ _ _  hl HR.out).mono ?_
  rintro e w1 ⟨rfl, hb1⟩
  have HB := Lib.hid (show Below w.heap.size w w1 from (by repeat (first | (with_reducible exact Below.refl _ _) | ((with_reducible refine alloc_ ?_ ?_); (focus (first | exact Nat.le_refl _ | (simp; done) | (simp; omega) | omega))) | ((with_reducible refine set_ ?_ ?_); (focus (first | exact Nat.le_refl _ | (simp; done) | (simp; omega) | omega))) | (with_reducible refine Below.drew ?_) | ((with_reducible refine after_ ?_ (by assumption) ?_); (rotate_left; (focus (first | exact Nat.le_refl _ | (simp; done) | (simp; omega) | omega)))))))
  have HX1 := Lib.hid (HX.out.carry hb1)
  have HZ1 := Lib.hid (HZ.out.carry hb1)
  have HR1 := Lib.hid (HR.out.carry hb1)
  have hx := HX.out.carry hb1
  have x0 := hx.cell (j := 0) rfl
  have x1 := hx.cell (j := 1) rfl
  have x2 := hx.cell (j := 2) rfl
  have a1 : IntKind.i64.wrap ((l.length : Int) - 1) = l.length - 1 := IntWalk.i64_in _ (by omega)
  obtain ⟨b, off, rfl, hb, hc⟩ := HR1.out.int hK
  clear hb1 hx hc
  go_wp2_with (go_at_call 26; refine (within_c _ _ _ _).mono ?_; rintro e w' ⟨rfl, rfl⟩)
  have a2 : IntKind.i64.wrap ((K : Int) + 1) = (K : Int) + 1 := IntWalk.i64_in _ (by omega)
  have a3 : ((K : Int) + 1).toNat = K + 1 := by omega
  have a4 : (0 : Int) ≤ (K : Int) + 1 := by omega
  have a5 : (K : Int) + 1 ≤ l.length := by omega
  have a6 : (K : Int) ≤ l.length := by omega
  have a7 : (K : Int) ≤ cap := by omega
  have lx1 : w.heap.size < w1.heap.size := HX1.out.lt
  clear a1
  have HP := Lib.hid (show (l.take K).length = K by simp; omega)
  have HN := Lib.hid (show (l.take K).length + (l.drop (K + 1)).length ≤ 1000 by simp; omega)
  by_cases hcp : cap = K + 1
  · have HD := Lib.hid (show Rd w1 w1.heap.size 1 intCells (some ⟨b, off, none⟩) (l.drop (K + 1)) by rw [List.drop_eq_nil_of_le (by omega)]; exact Rd.empty)
    subst hcp
    have HQ := Lib.hid (show (l.drop (K + 1)).length = 0 by simp; omega)
    have a8 : (K : Int) ≤ (K : Int) + 1 := by omega
    go_region_held3 (fun w' : World => w'.cell? ⟨w.heap.size, 0, none⟩ = some (.int .i64 L) ∧ w'.cell? ⟨w.heap.size, 1, none⟩ = some (.int .i64 s) ∧ w'.cell? ⟨w.heap.size, 2, none⟩ = some (.slice (some ⟨b, off, none⟩) l.length (K + 1))) (first | (with_reducible exact ⟨x0, x1, x2⟩) | (with_reducible exact ⟨y0, y1, y2⟩) | (simp [go_sem, x0, x1, x2, lx1]; done) | (simp [go_sem, y0, y1, y2]; done)) (first
      | (go_at_call 38; refine (concat_c (l.take K) (l.drop (K + 1)) w1.heap.size b off (K + 1) b (off) (0) _ HN.out ((HR1.out.take K).carry (by repeat (first | (with_reducible exact Below.refl _ _) | ((with_reducible refine alloc_ ?_ ?_); (focus (first | exact Nat.le_refl _ | (simp; done) | (simp; omega) | omega))) | ((with_reducible refine set_ ?_ ?_); (focus (first | exact Nat.le_refl _ | (simp; done) | (simp; omega) | omega))) | (with_reducible refine Below.drew ?_) | ((with_reducible refine after_ ?_ (by assumption) ?_); (rotate_left; (focus (first | exact Nat.le_refl _ | (simp; done) | (simp; omega) | omega))))))) (HD.out.carry (by repeat (first | (with_reducible exact Below.refl _ _) | ((with_reducible refine alloc_ ?_ ?_); (focus (first | exact Nat.le_refl _ | (simp; done) | (simp; omega) | omega))) | ((with_reducible refine set_ ?_ ?_); (focus (first | exact Nat.le_refl _ | (simp; done) | (simp; omega) | omega))) | (with_reducible refine Below.drew ?_) | ((with_reducible refine after_ ?_ (by assumption) ?_); (rotate_left; (focus (first | exact Nat.le_refl _ | (simp; done) | (simp; omega) | omega))))))) (by rw [HP.out, HQ.out]; first | exact Box.new w1 [.slice (some ⟨b, off, none⟩) K (K + 1), .slice (some ⟨b, off, none⟩) (0) (0)] 24 | exact (Box.new w1 [.slice (some ⟨b, off, none⟩) K (K + 1), .slice (some ⟨b, off, none⟩) (0) (0)] 24).drew | exact Box.new w1.drew [.slice (some ⟨b, off, none⟩) K (K + 1), .slice (some ⟨b, off, none⟩) (0) (0)] 24)).mono ?_; rintro e w2 ⟨A2, c2, rfl, ho, hb2⟩; have HO := Lib.hid ho; have HB2 := Lib.hid (show Below w1.heap.size w1 w2 from (by repeat (first | (with_reducible exact Below.refl _ _) | ((with_reducible refine alloc_ ?_ ?_); (focus (first | exact Nat.le_refl _ | (simp; done) | (simp; omega) | omega))) | ((with_reducible refine set_ ?_ ?_); (focus (first | exact Nat.le_refl _ | (simp; done) | (simp; omega) | omega))) | (with_reducible refine Below.drew ?_) | ((with_reducible refine after_ ?_ (by assumption) ?_); (rotate_left; (focus (first | exact Nat.le_refl _ | (simp; done) | (simp; omega) | omega))))))); have hx2 := HX1.out.carry HB2.out; have y0 := hx2.cell (j := 0) rfl; have y1 := hx2.cell (j := 1) rfl; have y2 := hx2.cell (j := 2) rfl; have hz2 := HZ1.out.carry HB2.out; have z0 := hz2.cell (j := 0) rfl; have z1 := hz2.cell (j := 1) rfl; have z2 := hz2.cell (j := 2) rfl; have zz := hz2.frozen; have lz := hz2.lt; clear ho hb2 hx2 hz2))
    have HB3 := Lib.hid (show Below w.heap.size w w2 from HB.out.trans (HB2.out.mono HB.out.size))
    have zs := HB3.out.size
    have HS := Lib.hid (set3c w2 (w.heap.size + 1))
    go_wp2_with fail
    exact bodyPost_ret (v := .tuple #[.agg #[.int .i64 L, .int .i64 s, .slice A2 (l.take K ++ l.drop (K + 1)).length c2], .bool true]) (by simp [results, Try.results16, go_sem, z0, z1, z2]; try omega) rfl
      ⟨A2, c2, retw rfl H.out, by rw [H.out]; exact ((HO.out.grown (HS.out _ _ _) (by simp; omega)).less (by simp; omega) : Own _ w.heap.size 3 1 intCells A2 (remL l K)), by have h := HB3.out; exact (by repeat (first | (with_reducible exact Below.refl _ _) | ((with_reducible refine alloc_ ?_ ?_); (focus (first | exact Nat.le_refl _ | (simp; done) | (simp; omega) | omega))) | ((with_reducible refine set_ ?_ ?_); (focus (first | exact Nat.le_refl _ | (simp; done) | (simp; omega) | omega))) | (with_reducible refine Below.drew ?_) | ((with_reducible refine after_ ?_ (by assumption) ?_); (rotate_left; (focus (first | exact Nat.le_refl _ | (simp; done) | (simp; omega) | omega))))))⟩
  · have HD := Lib.hid (show Rd w1 w1.heap.size 1 intCells (some ⟨b, off + (K + 1), none⟩) (l.drop (K + 1)) by have h := HR1.out.drop (K + 1); rw [Nat.mul_one] at h; exact h)
    have HQ := Lib.hid (show (l.drop (K + 1)).length = l.length - (K + 1) by simp)
    go_region_held3 (fun w' : World => w'.cell? ⟨w.heap.size, 0, none⟩ = some (.int .i64 L) ∧ w'.cell? ⟨w.heap.size, 1, none⟩ = some (.int .i64 s) ∧ w'.cell? ⟨w.heap.size, 2, none⟩ = some (.slice (some ⟨b, off, none⟩) l.length (cap))) (first | (with_reducible exact ⟨x0, x1, x2⟩) | (with_reducible exact ⟨y0, y1, y2⟩) | (simp [go_sem, x0, x1, x2, lx1]; done) | (simp [go_sem, y0, y1, y2]; done)) (first
      | (go_at_call 38; refine (concat_c (l.take K) (l.drop (K + 1)) w1.heap.size b off (cap) b (off + (K + 1)) (cap - (K + 1)) _ HN.out ((HR1.out.take K).carry (by repeat (first | (with_reducible exact Below.refl _ _) | ((with_reducible refine alloc_ ?_ ?_); (focus (first | exact Nat.le_refl _ | (simp; done) | (simp; omega) | omega))) | ((with_reducible refine set_ ?_ ?_); (focus (first | exact Nat.le_refl _ | (simp; done) | (simp; omega) | omega))) | (with_reducible refine Below.drew ?_) | ((with_reducible refine after_ ?_ (by assumption) ?_); (rotate_left; (focus (first | exact Nat.le_refl _ | (simp; done) | (simp; omega) | omega))))))) (HD.out.carry (by repeat (first | (with_reducible exact Below.refl _ _) | ((with_reducible refine alloc_ ?_ ?_); (focus (first | exact Nat.le_refl _ | (simp; done) | (simp; omega) | omega))) | ((with_reducible refine set_ ?_ ?_); (focus (first | exact Nat.le_refl _ | (simp; done) | (simp; omega) | omega))) | (with_reducible refine Below.drew ?_) | ((with_reducible refine after_ ?_ (by assumption) ?_); (rotate_left; (focus (first | exact Nat.le_refl _ | (simp; done) | (simp; omega) | omega))))))) (by rw [HP.out, HQ.out]; first | exact Box.new w1 [.slice (some ⟨b, off, none⟩) K (cap), .slice (some ⟨b, off + (K + 1), none⟩) (l.length - (K + 1)) (cap - (K + 1))] 24 | exact (Box.new w1 [.slice (some ⟨b, off, none⟩) K (cap), .slice (some ⟨b, off + (K + 1), none⟩) (l.length - (K + 1)) (cap - (K + 1))] 24).drew | exact Box.new w1.drew [.slice (some ⟨b, off, none⟩) K (cap), .slice (some ⟨b, off + (K + 1), none⟩) (l.length - (K + 1)) (cap - (K + 1))] 24)).mono ?_; rintro e w2 ⟨A2, c2, rfl, ho, hb2⟩; have HO := Lib.hid ho; have HB2 := Lib.hid (show Below w1.heap.size w1 w2 from (by repeat (first | (with_reducible exact Below.refl _ _) | ((with_reducible refine alloc_ ?_ ?_); (focus (first | exact Nat.le_refl _ | (simp; done) | (simp; omega) | omega))) | ((with_reducible refine set_ ?_ ?_); (focus (first | exact Nat.le_refl _ | (simp; done) | (simp; omega) | omega))) | (with_reducible refine Below.drew ?_) | ((with_reducible refine after_ ?_ (by assumption) ?_); (rotate_left; (focus (first | exact Nat.le_refl _ | (simp; done) | (simp; omega) | omega))))))); have hx2 := HX1.out.carry HB2.out; have y0 := hx2.cell (j := 0) rfl; have y1 := hx2.cell (j := 1) rfl; have y2 := hx2.cell (j := 2) rfl; have hz2 := HZ1.out.carry HB2.out; have z0 := hz2.cell (j := 0) rfl; have z1 := hz2.cell (j := 1) rfl; have z2 := hz2.cell (j := 2) rfl; have zz := hz2.frozen; have lz := hz2.lt; clear ho hb2 hx2 hz2))
    have HB3 := Lib.hid (show Below w.heap.size w w2 from HB.out.trans (HB2.out.mono HB.out.size))
    have zs := HB3.out.size
    have HS := Lib.hid (set3c w2 (w.heap.size + 1))
    go_wp2_with fail
    exact bodyPost_ret (v := .tuple #[.agg #[.int .i64 L, .int .i64 s, .slice A2 (l.take K ++ l.drop (K + 1)).length c2], .bool true]) (by simp [results, Try.results16, go_sem, z0, z1, z2]; try omega) rfl
      ⟨A2, c2, retw rfl H.out, by rw [H.out]; exact ((HO.out.grown (HS.out _ _ _) (by simp; omega)).less (by simp; omega) : Own _ w.heap.size 3 1 intCells A2 (remL l K)), by have h := HB3.out; exact (by repeat (first | (with_reducible exact Below.refl _ _) | ((with_reducible refine alloc_ ?_ ?_); (focus (first | exact Nat.le_refl _ | (simp; done) | (simp; omega) | omega))) | ((with_reducible refine set_ ?_ ?_); (focus (first | exact Nat.le_refl _ | (simp; done) | (simp; omega) | omega))) | (with_reducible refine Below.drew ?_) | ((with_reducible refine after_ ?_ (by assumption) ?_); (rotate_left; (focus (first | exact Nat.le_refl _ | (simp; done) | (simp; omega) | omega))))))⟩
end Go.Proofs.Ytifmeloljkgcjaa
