/- A ring with other starts: the reference's copies of lists and rings; no conditions but the length. -/
import Derived.Test.YtifmeloljkgcjaaRemCab
namespace Go.Proofs.Ytifmeloljkgcjaa
open Go.RowKit

/-- A slice's address: nil at no room, or a plain place. -/
def Place (A : Option Addr) (cap : Nat) : Prop := (A = none ∧ cap = 0) ∨ ∃ b off, A = some ⟨b, off, none⟩
theorem place_owns {w : World} {base n cap k : Nat} {T : TypeId} {A : Option Addr} {xs : List Value} (h : w.ownsRow base T k (.slice A n cap) n xs) : Place A cap := by
  rcases h.2 with ⟨h1, _⟩ | ⟨g, c, cur, h1, _⟩
  · simp only [Value.slice.injEq] at h1; exact .inl ⟨h1.1, h1.2.2⟩
  · simp only [Value.slice.injEq] at h1; exact .inr ⟨g, 0, h1.1⟩
theorem l1Own_c (l : List Int) (A : Option Addr) (cap : Nat) (w : World) (hl : l.length ≤ 1048576) (hA : Place A cap) (hr : Rd w w.heap.size 1 intCells A l) :
    Calls Try.prog 36 #[.slice A l.length cap] w (OwnsL w.heap.size l w) := by
  rcases hA with ⟨rfl, rfl⟩ | ⟨b, off, rfl⟩
  · have h0 : l = [] := by
      rcases l with _ | ⟨x, l⟩
      · rfl
      · obtain ⟨b, off, h, _⟩ := hr 0 (by simp); cases h
    subst h0
    simp only [List.length_nil]
    go_enter Try.func36, Try.ntmps36
    go_wp2_with fail
    go_ret
    exact ⟨_, _, rfl, ownsRow_empty w 3 1, (by repeat (first | (with_reducible exact Below.refl _ _) | ((with_reducible refine alloc_ ?_ ?_); (focus (first | exact Nat.le_refl _ | (simp; done) | (simp; omega) | omega))) | ((with_reducible refine set_ ?_ ?_); (focus (first | exact Nat.le_refl _ | (simp; done) | (simp; omega) | omega))) | (with_reducible refine Below.drew ?_) | ((with_reducible refine after_ ?_ (by assumption) ?_); (rotate_left; (focus (first | exact Nat.le_refl _ | (simp; done) | (simp; omega) | omega))))))⟩
  · have HR := Lib.hid hr
    clear hr
    go_enter Try.func36, Try.ntmps36
    go_wp2_with (refine wpList_extend _ rfl (.tmp 3) (.tmp 4) 24 rfl w.heap.size 3 _ 1 8 Try.underlying24 info_int rfl (by decide) (by decide) _ 0 [] rfl (ownsRow_empty w 3 1) b off l.length cap (flat intCells l) rfl (flat_len int_one l) (HR.out.news (by repeat (first | (with_reducible exact Below.refl _ _) | ((with_reducible refine alloc_ ?_ ?_); (focus (first | exact Nat.le_refl _ | (simp; done) | (simp; omega) | omega))) | ((with_reducible refine set_ ?_ ?_); (focus (first | exact Nat.le_refl _ | (simp; done) | (simp; omega) | omega))) | (with_reducible refine Below.drew ?_) | ((with_reducible refine after_ ?_ (by assumption) ?_); (rotate_left; (focus (first | exact Nat.le_refl _ | (simp; done) | (simp; omega) | omega)))))) int_one (by decide)) (flat_cells int_ones l) (by omega) (by simp) ?_; intro v w1 hown hb1 hk1)
    rw [List.nil_append, Nat.zero_add] at hown
    obtain ⟨A, gc, rfl⟩ := ownsRow_shape hown
    have HO := Lib.hid hown
    have HB := Lib.hid (show Below w.heap.size w w1 from (by repeat (first | (with_reducible exact Below.refl _ _) | ((with_reducible refine alloc_ ?_ ?_); (focus (first | exact Nat.le_refl _ | (simp; done) | (simp; omega) | omega))) | ((with_reducible refine set_ ?_ ?_); (focus (first | exact Nat.le_refl _ | (simp; done) | (simp; omega) | omega))) | (with_reducible refine Below.drew ?_) | ((with_reducible refine after_ ?_ (by assumption) ?_); (rotate_left; (focus (first | exact Nat.le_refl _ | (simp; done) | (simp; omega) | omega)))))))
    clear hown hb1 hk1
    go_wp2_with fail
    go_ret
    exact ⟨A, gc, rfl, HO.out, HB.out⟩
def WithPost (L s : Int) (l : List Int) (w : World) (e : Ending) (w' : World) : Prop := ∃ A cap, e = .returned (.agg #[.int .i64 L, .int .i64 s, .slice A l.length cap]) ∧ Own w' w.heap.size 3 1 intCells A l ∧ Below w.heap.size w w'
set_option maxHeartbeats 1000000 in
theorem l8With_c (L s : Int) (A0 : Option Addr) (n0 c0 : Nat) (l : List Int) (A : Option Addr) (cap : Nat) (w : World) (hl : l.length ≤ 1000) (hA : Place A cap) (hr : Rd w w.heap.size 1 intCells A l) :
    Calls Try.prog 34 #[.agg #[.int .i64 L, .int .i64 s, .slice A0 n0 c0], .slice A l.length cap] w (WithPost L s l w) := by
  have HX := Lib.hid ((Box.new w [.int .i64 L, .int .i64 s, .slice A0 n0 c0] 26).alloc (.cells #[.int .i64 0, .int .i64 0, .slice none 0 0] 26))
  have hz := Box.new (w.alloc (.cells #[.int .i64 L, .int .i64 s, .slice A0 n0 c0] 26)) zeroL 26
  rw [World.size_alloc] at hz
  have HZ := Lib.hid hz
  have HR := Lib.hid ((hr.alloc (.cells #[.int .i64 L, .int .i64 s, .slice A0 n0 c0] 26)).alloc (.cells #[.int .i64 0, .int .i64 0, .slice none 0 0] 26))
  have HA := Lib.hid hA
  clear hr hz hA
  go_enter Try.func34, Try.ntmps34
  go_wp2_with fail
  obtain ⟨w1, hw1⟩ : ∃ w1, (w.alloc (.cells #[.int .i64 L, .int .i64 s, .slice A0 n0 c0] 26)).alloc (.cells #[.int .i64 0, .int .i64 0, .slice none 0 0] 26) = w1 := ⟨_, rfl⟩
  have HB := Lib.hid (show Below w.heap.size w w1 from hw1 ▸ (by repeat (first | (with_reducible exact Below.refl _ _) | ((with_reducible refine alloc_ ?_ ?_); (focus (first | exact Nat.le_refl _ | (simp; done) | (simp; omega) | omega))) | ((with_reducible refine set_ ?_ ?_); (focus (first | exact Nat.le_refl _ | (simp; done) | (simp; omega) | omega))) | (with_reducible refine Below.drew ?_) | ((with_reducible refine after_ ?_ (by assumption) ?_); (rotate_left; (focus (first | exact Nat.le_refl _ | (simp; done) | (simp; omega) | omega)))))))
  have hz2 : (w.alloc (.cells #[.int .i64 L, .int .i64 s, .slice A0 n0 c0] 26)).alloc (.cells zeroL.toArray 26) = w1 := hw1
  rw [hw1] at HX HR ⊢
  rw [hz2] at HZ
  clear hw1 hz2
  have x0 := HX.out.cell (j := 0) rfl
  have x1 := HX.out.cell (j := 1) rfl
  have lx1 : w.heap.size < w1.heap.size := HX.out.lt
  have lz1 : w.heap.size + 1 < w1.heap.size := HZ.out.lt
  go_region_held3 (fun w' : World => w'.cell? ⟨w.heap.size, 0, none⟩ = some (.int .i64 L) ∧ w'.cell? ⟨w.heap.size, 1, none⟩ = some (.int .i64 s)) (first | (with_reducible exact ⟨x0, x1⟩) | (with_reducible exact ⟨y0, y1⟩) | (simp [go_sem, x0, x1]; done) | (simp [go_sem, y0, y1]; done)) (first
    | (go_at_call 36; refine (l1Own_c l A cap _ (by omega) HA.out (HR.out.carry (by repeat (first | (with_reducible exact Below.refl _ _) | ((with_reducible refine alloc_ ?_ ?_); (focus (first | exact Nat.le_refl _ | (simp; done) | (simp; omega) | omega))) | ((with_reducible refine set_ ?_ ?_); (focus (first | exact Nat.le_refl _ | (simp; done) | (simp; omega) | omega))) | (with_reducible refine Below.drew ?_) | ((with_reducible refine after_ ?_ (by assumption) ?_); (rotate_left; (focus (first | exact Nat.le_refl _ | (simp; done) | (simp; omega) | omega)))))))).mono ?_; rintro e w2 ⟨A2, c2, rfl, ho, hb2⟩; have HO := Lib.hid ho; have HB2 := Lib.hid (show Below w1.heap.size w1 w2 from (Below.drew (Below.refl _ _)).trans hb2); have hx2 := HX.out.carry HB2.out; have y0 := hx2.cell (j := 0) rfl; have y1 := hx2.cell (j := 1) rfl; have hz2 := HZ.out.carry HB2.out; have z0 := hz2.cell (j := 0) rfl; have z1 := hz2.cell (j := 1) rfl; have z2 := hz2.cell (j := 2) rfl; have zz := hz2.frozen; have lz := hz2.lt; clear ho hb2 hx2 hz2))
  have HB3 := Lib.hid (show Below w.heap.size w w2 from HB.out.trans (HB2.out.mono HB.out.size))
  have zs := HB3.out.size
  have HS := Lib.hid (set3c w2 (w.heap.size + 1))
  go_wp2_with fail
  exact bodyPost_ret (v := .agg #[.int .i64 L, .int .i64 s, .slice A2 l.length c2]) (by simp [results, Try.results34, go_sem, z0, z1, z2]) rfl
    ⟨A2, c2, rfl, ((own_flat HO.out rfl rfl int_one).grown (HS.out _ _ _) (by simp; omega)).less (by simp; omega), by have h := HB3.out; exact (by repeat (first | (with_reducible exact Below.refl _ _) | ((with_reducible refine alloc_ ?_ ?_); (focus (first | exact Nat.le_refl _ | (simp; done) | (simp; omega) | omega))) | ((with_reducible refine set_ ?_ ?_); (focus (first | exact Nat.le_refl _ | (simp; done) | (simp; omega) | omega))) | (with_reducible refine Below.drew ?_) | ((with_reducible refine after_ ?_ (by assumption) ?_); (rotate_left; (focus (first | exact Nat.le_refl _ | (simp; done) | (simp; omega) | omega))))))⟩
end Go.Proofs.Ytifmeloljkgcjaa
