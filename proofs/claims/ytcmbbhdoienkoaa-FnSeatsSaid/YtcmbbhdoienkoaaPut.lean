/- A number is put into its place in a rising list; no conditions but that it is not there yet. -/
import Derived.Test.YtcmbbhdoienkoaaArr
import Derived.Deep.RegionLaw
import Derived.Deep.AppendLies
namespace Go.Proofs.Ytcmbbhdoienkoaa
open Go.RowKit

theorem Rd.newsI {w W : World} {B b off : Nat} {o : List Int} (h : Rd w B 1 intCells (some ⟨b, off, none⟩) o) (hb : Below B w W) (k : Nat) : ∀ j u, ((o.take k).map (Value.int .i64))[j]? = some u → W.cell? ⟨b, off + j, none⟩ = some u := fun j u hj => by
  have hlt : j < (o.take k).length := by simpa using (List.getElem?_eq_some_iff.1 hj).1
  have hlt2 : j < o.length ∧ j < k := by simp at hlt; omega
  obtain ⟨b', off', he, hb', hc⟩ := (h.below hb (Nat.le_refl _)).int hlt2.1
  simp only [Option.some.injEq, Addr.mk.injEq, and_true] at he
  obtain ⟨rfl, rfl⟩ := he
  rw [hc, ← hj]
  simp [List.getElem?_take, hlt2.2, nth_eq hlt2.1, hlt2.1]
theorem Rd.newsD {w W : World} {B b off : Nat} {o : List Int} (h : Rd w B 1 intCells (some ⟨b, off, none⟩) o) (hb : Below B w W) (k : Nat) : ∀ j u, ((o.drop k).map (Value.int .i64))[j]? = some u → W.cell? ⟨b, off + k + j, none⟩ = some u := fun j u hj => by
  have hlt : j < (o.drop k).length := by simpa using (List.getElem?_eq_some_iff.1 hj).1
  have hlt2 : k + j < o.length := by simp at hlt; omega
  obtain ⟨b', off', he, hb', hc⟩ := (h.below hb (Nat.le_refl _)).int hlt2
  simp only [Option.some.injEq, Addr.mk.injEq, and_true] at he
  obtain ⟨rfl, rfl⟩ := he
  rw [Nat.add_assoc, hc, ← hj]
  simp [List.getElem?_drop, nth_eq hlt2, hlt2]
theorem ints_one' (o : List Int) : ∀ u ∈ o.map (Value.int .i64), u.oneCell' = true := fun u hu => by
  obtain ⟨x, _, rfl⟩ := List.mem_map.1 hu; rfl
section
variable {w : World} {base size : Nat} {e : TypeId} {N : Obj}
theorem heap_new' (W : World) (o : Obj) {g : Nat} (h : g = W.heap.size) : (W.alloc o).drew.heap[g]? = some o := by subst h; exact heap_alloc_new W o
theorem heap_old' (W : World) (o : Obj) {g : Nat} {x : Obj} (h : W.heap[g]? = some x) : (W.alloc o).drew.heap[g]? = some x := by
  have hlt : g < W.heap.size := by
    rcases Nat.lt_or_ge g W.heap.size with h' | h'
    · exact h'
    · rw [Array.getElem?_eq_none h'] at h; cases h
  exact (heap_alloc_old W o hlt).trans h
theorem oe1 (hb : base ≤ w.heap.size) : (w.alloc (.cells #[] e)).drew.ownsRow base e size (.slice (some ⟨w.heap.size, 0, none⟩) 0 0) 0 [] := own_empty (heap_new' w _ rfl) hb
theorem oe2 (hb : base ≤ w.heap.size) : ((w.alloc (.cells #[] e)).alloc N).drew.ownsRow base e size (.slice (some ⟨w.heap.size, 0, none⟩) 0 0) 0 [] := own_empty (heap_old' _ _ (heap_alloc_new w _)) hb
theorem oe3 (hb : base ≤ w.heap.size) : ((w.alloc N).alloc (.cells #[] e)).drew.ownsRow base e size (.slice (some ⟨w.heap.size + 1, 0, none⟩) 0 0) 0 [] := own_empty (heap_new' _ _ (by simp)) (by omega)
theorem nh2 {E : Obj} : ((w.alloc E).alloc N).drew.heap[w.heap.size + 1]? = some N := heap_new' _ _ (by simp)
theorem nk2 {w1 : World} {E : Obj} {n c : Nat} {R : Nat → Prop} (h : ∀ g, g < ((w.alloc E).alloc N).drew.heap.size → (Value.slice (some ⟨w.heap.size, 0, none⟩) n c).ownBlock ≠ some g → w1.heap[g]? = ((w.alloc E).alloc N).drew.heap[g]? ∧ R g) : w1.heap[w.heap.size + 1]? = some N := by
  refine (h _ ?_ ?_).1.trans nh2
  · show _ < ((w.alloc E).alloc N).heap.size
    simp
  · simp [Value.ownBlock]
theorem nh3 {E : Obj} : ((w.alloc N).alloc E).drew.heap[w.heap.size]? = some N := heap_old' _ _ (heap_alloc_new w _)
theorem nk3 {w1 : World} {E : Obj} {n c : Nat} {R : Nat → Prop} (h : ∀ g, g < ((w.alloc N).alloc E).drew.heap.size → (Value.slice (some ⟨w.heap.size + 1, 0, none⟩) n c).ownBlock ≠ some g → w1.heap[g]? = ((w.alloc N).alloc E).drew.heap[g]? ∧ R g) : w1.heap[w.heap.size]? = some N := by
  refine (h _ ?_ ?_).1.trans nh3
  · show _ < ((w.alloc N).alloc E).heap.size
    simp; omega
  · simp [Value.ownBlock]
end
def Places (o : List Int) (x : Int) (k : Nat) : Prop := k ≤ o.length ∧ (∀ j, j < k → nth o j < x) ∧ ∀ j, k ≤ j → j < o.length → x < nth o j
/-- What a call hands back: a list of its own, with its room. -/
def GivesR (o : List Int) (w : World) (e : Ending) (w' : World) : Prop := ∃ g cap, e = .returned (.slice (some ⟨g, 0, none⟩) o.length cap) ∧ o.length ≤ cap ∧ w.heap.size ≤ g ∧ Arr w' g o ∧ Below w.heap.size w w'
theorem own_cap {w : World} {base n cap k : Nat} {e : TypeId} {A : Option Addr} {xs : List Value} (h : w.ownsRow base e k (.slice A n cap) n xs) : n ≤ cap := by
  rcases h.2 with ⟨h1, h2⟩ | ⟨g', c', cu, h1, _, _, hnc, _⟩
  · omega
  · injection h1 with h2 h3 h4; omega
set_option maxHeartbeats 800000 in
theorem l1Put_c (o : List Int) (b off cap : Nat) (x : Int) (k : Nat) (w : World) (hl : o.length ≤ 1000) (hcap : o.length ≤ cap) (hr : Rd w w.heap.size 1 intCells (some ⟨b, off, none⟩) o) (hp : Places o x k) :
    Calls Try.prog 39 #[.slice (some ⟨b, off, none⟩) o.length cap, .int .i64 x] w (GivesR (o.take k ++ [x] ++ o.drop k) w) := by
  obtain ⟨hk, hlo, hhi⟩ := hp
  have HLo := Lib.hid hlo
  have HHi := Lib.hid hhi
  clear hlo hhi
  go_enter Try.func39, Try.ntmps39
  go_wp2_with fail
  go_loop [5] (fun i => ∃ j : Nat, j ≤ k ∧ i = .int .i64 j) (fun i => k - (intOf i).toNat)
  case atStart => exact ⟨0, Nat.zero_le _, rfl⟩
  case round =>
    obtain ⟨j, hj, rfl⟩ := hrel
    by_cases hlt : j < k
    · obtain ⟨b', off', he, hb, hc⟩ := hr.int (show j < o.length by omega)
      simp only [Option.some.injEq, Addr.mk.injEq, and_true] at he
      obtain ⟨rfl, rfl⟩ := he
      have h1 := HLo.out j hlt
      have h2 : j < o.length := by omega
      go_wp2_with fail
      go_round
      case rel => exact ⟨j + 1, by omega, by go_num⟩
      case measure => simp [intOf]; omega
    · obtain rfl : j = k := by omega
      have hkc : j ≤ cap := by omega
      by_cases hend : j < o.length
      · obtain ⟨b', off', he, hb, hc⟩ := hr.int hend
        simp only [Option.some.injEq, Addr.mk.injEq, and_true] at he
        obtain ⟨rfl, rfl⟩ := he
        have h1 := HHi.out j (Nat.le_refl _) hend
        have h2 : ¬ nth o j < x := by omega
        have h3 : (nth o j == x) = false := by simp; omega
        have hcj : ¬ cap = j := by omega
        go_wp2_with fail
        have HR := Lib.hid hr
        clear hr hc
        go_region_law (first
          | (refine step_extend rfl (.tmp 33) (.tmp 36) 27 rfl w.heap.size 3 (.int .i64 0) 1 8 Try.underlying27 info_int rfl (by decide) (by decide) _ 0 [] rfl ?_ b off j _ ((o.take j).map (Value.int .i64)) rfl ?_ (HR.out.newsI (by repeat (first | (with_reducible exact Below.refl _ _) | ((with_reducible refine alloc_ ?_ ?_); (focus (first | exact Nat.le_refl _ | (simp; done) | (simp; omega) | omega))) | ((with_reducible refine set_ ?_ ?_); (focus (first | exact Nat.le_refl _ | (simp; done) | (simp; omega) | omega))) | (with_reducible refine Below.drew ?_) | ((with_reducible refine after_ ?_ (by assumption) ?_); (rotate_left; (focus (first | exact Nat.le_refl _ | (simp; done) | (simp; omega) | omega)))))) j) (ints_one' _) ?_ ?_ ?_; (focus (first | exact oe1 (Nat.le_refl _) | exact oe2 (Nat.le_refl _) | exact oe3 (Nat.le_refl _))); (focus (first | (simp; done) | (simp; omega))); (focus omega); (focus (first | omega | (simp; done) | (simp; omega))); intro v1 w1 hown1 hb1 hk1; have hz1 := hb1.size; (try simp at hz1))
          | (refine step_extend rfl (.tmp 37) (.tmp 39) 27 rfl w.heap.size 3 (.int .i64 0) 1 8 Try.underlying27 info_int rfl (by decide) (by decide) _ ?_ ?_ rfl ?_ _ _ _ _ [.int .i64 x] rfl rfl ?_ ?_ ?_ ?_ ?_; rotate_left 2; (focus (first | exact hown1 | exact hown1.alloc _)); (focus (first | exact news_one (cs := #[.int .i64 x]) (heap_alloc_new _ _) | exact news_one (cs := #[.int .i64 x]) (nk2 hk1) | exact news_one (cs := #[.int .i64 x]) (nk3 hk1))); (focus (intro u hu; simp at hu; subst hu; rfl)); (focus omega); (focus (first | omega | (simp; omega))); intro v2 w2 hown2 hb2 hk2; have hz2 := hb2.size; (try simp at hz2))
          | (refine step_extend rfl (.tmp 40) (.tmp 43) 27 rfl w.heap.size 3 (.int .i64 0) 1 8 Try.underlying27 info_int rfl (by decide) (by decide) _ _ _ rfl hown2 b (off + j) (o.length - j) _ ((o.drop j).map (Value.int .i64)) rfl ?_ (HR.out.newsD (by repeat (first | (with_reducible exact Below.refl _ _) | ((with_reducible refine alloc_ ?_ ?_); (focus (first | exact Nat.le_refl _ | (simp; done) | (simp; omega) | omega))) | ((with_reducible refine set_ ?_ ?_); (focus (first | exact Nat.le_refl _ | (simp; done) | (simp; omega) | omega))) | (with_reducible refine Below.drew ?_) | ((with_reducible refine after_ ?_ (by assumption) ?_); (rotate_left; (focus (first | exact Nat.le_refl _ | (simp; done) | (simp; omega) | omega)))))) j) (ints_one' _) ?_ ?_ ?_; (focus (simp; done)); (focus omega); (focus (first | omega | (simp; omega))); intro v3 w3 hown3 hb3 hk3; have hz3 := hb3.size))
        all_goals
          obtain ⟨g, gc, rfl, hgb, harr⟩ := Arr.of_owns (o := o.take j ++ [x] ++ o.drop j) (n := 0 + j + 1 + (o.length - j)) (by rw [List.map_append, List.map_append]; exact hown3) (by simp; omega) (by omega)
          have hcp := own_cap hown3
          have HA := Lib.hid harr
          have HB := Lib.hid (show Below w.heap.size w w3 from (by repeat (first | (with_reducible exact Below.refl _ _) | ((with_reducible refine alloc_ ?_ ?_); (focus (first | exact Nat.le_refl _ | (simp; done) | (simp; omega) | omega))) | ((with_reducible refine set_ ?_ ?_); (focus (first | exact Nat.le_refl _ | (simp; done) | (simp; omega) | omega))) | (with_reducible refine Below.drew ?_) | ((with_reducible refine after_ ?_ (by assumption) ?_); (rotate_left; (focus (first | exact Nat.le_refl _ | (simp; done) | (simp; omega) | omega)))))))
          clear hown3 hown2 hown1 hb1 hb2 hb3 hk1 hk2 hk3 harr
          go_wp2_with fail
          go_ret
          exact ⟨g, gc, retG (by simp; omega), by simp; omega, hgb, HA.out, HB.out⟩
      · obtain rfl : j = o.length := by omega
        have HR := Lib.hid hr
        clear hr
        by_cases hcj : cap = o.length
        case pos =>
          subst hcj
          go_wp2_with fail
          go_region_law (first
            | (refine step_extend rfl (.tmp 33) (.tmp 36) 27 rfl w.heap.size 3 (.int .i64 0) 1 8 Try.underlying27 info_int rfl (by decide) (by decide) _ 0 [] rfl ?_ b off o.length _ ((o.take o.length).map (Value.int .i64)) rfl ?_ (HR.out.newsI (by repeat (first | (with_reducible exact Below.refl _ _) | ((with_reducible refine alloc_ ?_ ?_); (focus (first | exact Nat.le_refl _ | (simp; done) | (simp; omega) | omega))) | ((with_reducible refine set_ ?_ ?_); (focus (first | exact Nat.le_refl _ | (simp; done) | (simp; omega) | omega))) | (with_reducible refine Below.drew ?_) | ((with_reducible refine after_ ?_ (by assumption) ?_); (rotate_left; (focus (first | exact Nat.le_refl _ | (simp; done) | (simp; omega) | omega)))))) o.length) (ints_one' _) ?_ ?_ ?_; (focus (first | exact oe1 (Nat.le_refl _) | exact oe2 (Nat.le_refl _) | exact oe3 (Nat.le_refl _))); (focus (first | (simp; done) | (simp; omega))); (focus omega); (focus (first | omega | (simp; done) | (simp; omega))); intro v1 w1 hown1 hb1 hk1; have hz1 := hb1.size; (try simp at hz1))
            | (refine step_extend rfl (.tmp 37) (.tmp 39) 27 rfl w.heap.size 3 (.int .i64 0) 1 8 Try.underlying27 info_int rfl (by decide) (by decide) _ ?_ ?_ rfl ?_ _ _ _ _ [.int .i64 x] rfl rfl ?_ ?_ ?_ ?_ ?_; rotate_left 2; (focus (first | exact hown1 | exact hown1.alloc _)); (focus (first | exact news_one (cs := #[.int .i64 x]) (heap_alloc_new _ _) | exact news_one (cs := #[.int .i64 x]) (nk2 hk1) | exact news_one (cs := #[.int .i64 x]) (nk3 hk1))); (focus (intro u hu; simp at hu; subst hu; rfl)); (focus omega); (focus (first | omega | (simp; omega))); intro v2 w2 hown2 hb2 hk2; have hz2 := hb2.size; (try simp at hz2))
            | (refine step_extend rfl (.tmp 40) (.tmp 43) 27 rfl w.heap.size 3 (.int .i64 0) 1 8 Try.underlying27 info_int rfl (by decide) (by decide) _ _ _ rfl hown2 b (off) (0) _ ((o.drop o.length).map (Value.int .i64)) rfl ?_ (fun j u hj => by simp at hj) (ints_one' _) ?_ ?_ ?_; (focus (simp; done)); (focus omega); (focus (first | omega | (simp; omega))); intro v3 w3 hown3 hb3 hk3; have hz3 := hb3.size))
          all_goals
            obtain ⟨g, gc, rfl, hgb, harr⟩ := Arr.of_owns (o := o.take o.length ++ [x] ++ o.drop o.length) (n := 0 + o.length + 1 + 0) (by rw [List.map_append, List.map_append]; exact hown3) (by simp) (by omega)
            have hcp := own_cap hown3
            have HA := Lib.hid harr
            have HB := Lib.hid (show Below w.heap.size w w3 from (by repeat (first | (with_reducible exact Below.refl _ _) | ((with_reducible refine alloc_ ?_ ?_); (focus (first | exact Nat.le_refl _ | (simp; done) | (simp; omega) | omega))) | ((with_reducible refine set_ ?_ ?_); (focus (first | exact Nat.le_refl _ | (simp; done) | (simp; omega) | omega))) | (with_reducible refine Below.drew ?_) | ((with_reducible refine after_ ?_ (by assumption) ?_); (rotate_left; (focus (first | exact Nat.le_refl _ | (simp; done) | (simp; omega) | omega)))))))
            clear hown3 hown2 hown1 hb1 hb2 hb3 hk1 hk2 hk3 harr
            go_wp2_with fail
            go_ret
            exact ⟨g, gc, retG (by simp), by simp; omega, hgb, HA.out, HB.out⟩
        case neg =>
          go_wp2_with fail
          go_region_law (first
            | (refine step_extend rfl (.tmp 33) (.tmp 36) 27 rfl w.heap.size 3 (.int .i64 0) 1 8 Try.underlying27 info_int rfl (by decide) (by decide) _ 0 [] rfl ?_ b off o.length _ ((o.take o.length).map (Value.int .i64)) rfl ?_ (HR.out.newsI (by repeat (first | (with_reducible exact Below.refl _ _) | ((with_reducible refine alloc_ ?_ ?_); (focus (first | exact Nat.le_refl _ | (simp; done) | (simp; omega) | omega))) | ((with_reducible refine set_ ?_ ?_); (focus (first | exact Nat.le_refl _ | (simp; done) | (simp; omega) | omega))) | (with_reducible refine Below.drew ?_) | ((with_reducible refine after_ ?_ (by assumption) ?_); (rotate_left; (focus (first | exact Nat.le_refl _ | (simp; done) | (simp; omega) | omega)))))) o.length) (ints_one' _) ?_ ?_ ?_; (focus (first | exact oe1 (Nat.le_refl _) | exact oe2 (Nat.le_refl _) | exact oe3 (Nat.le_refl _))); (focus (first | (simp; done) | (simp; omega))); (focus omega); (focus (first | omega | (simp; done) | (simp; omega))); intro v1 w1 hown1 hb1 hk1; have hz1 := hb1.size; (try simp at hz1))
            | (refine step_extend rfl (.tmp 37) (.tmp 39) 27 rfl w.heap.size 3 (.int .i64 0) 1 8 Try.underlying27 info_int rfl (by decide) (by decide) _ ?_ ?_ rfl ?_ _ _ _ _ [.int .i64 x] rfl rfl ?_ ?_ ?_ ?_ ?_; rotate_left 2; (focus (first | exact hown1 | exact hown1.alloc _)); (focus (first | exact news_one (cs := #[.int .i64 x]) (heap_alloc_new _ _) | exact news_one (cs := #[.int .i64 x]) (nk2 hk1) | exact news_one (cs := #[.int .i64 x]) (nk3 hk1))); (focus (intro u hu; simp at hu; subst hu; rfl)); (focus omega); (focus (first | omega | (simp; omega))); intro v2 w2 hown2 hb2 hk2; have hz2 := hb2.size; (try simp at hz2))
            | (refine step_extend rfl (.tmp 40) (.tmp 43) 27 rfl w.heap.size 3 (.int .i64 0) 1 8 Try.underlying27 info_int rfl (by decide) (by decide) _ _ _ rfl hown2 b (off + o.length) (0) _ ((o.drop o.length).map (Value.int .i64)) rfl ?_ (HR.out.newsD (by repeat (first | (with_reducible exact Below.refl _ _) | ((with_reducible refine alloc_ ?_ ?_); (focus (first | exact Nat.le_refl _ | (simp; done) | (simp; omega) | omega))) | ((with_reducible refine set_ ?_ ?_); (focus (first | exact Nat.le_refl _ | (simp; done) | (simp; omega) | omega))) | (with_reducible refine Below.drew ?_) | ((with_reducible refine after_ ?_ (by assumption) ?_); (rotate_left; (focus (first | exact Nat.le_refl _ | (simp; done) | (simp; omega) | omega)))))) o.length) (ints_one' _) ?_ ?_ ?_; (focus (simp; done)); (focus omega); (focus (first | omega | (simp; omega))); intro v3 w3 hown3 hb3 hk3; have hz3 := hb3.size))
          all_goals
            obtain ⟨g, gc, rfl, hgb, harr⟩ := Arr.of_owns (o := o.take o.length ++ [x] ++ o.drop o.length) (n := 0 + o.length + 1 + 0) (by rw [List.map_append, List.map_append]; exact hown3) (by simp) (by omega)
            have hcp := own_cap hown3
            have HA := Lib.hid harr
            have HB := Lib.hid (show Below w.heap.size w w3 from (by repeat (first | (with_reducible exact Below.refl _ _) | ((with_reducible refine alloc_ ?_ ?_); (focus (first | exact Nat.le_refl _ | (simp; done) | (simp; omega) | omega))) | ((with_reducible refine set_ ?_ ?_); (focus (first | exact Nat.le_refl _ | (simp; done) | (simp; omega) | omega))) | (with_reducible refine Below.drew ?_) | ((with_reducible refine after_ ?_ (by assumption) ?_); (rotate_left; (focus (first | exact Nat.le_refl _ | (simp; done) | (simp; omega) | omega)))))))
            clear hown3 hown2 hown1 hb1 hb2 hb3 hk1 hk2 hk3 harr
            go_wp2_with fail
            go_ret
            exact ⟨g, gc, retG (by simp), by simp; omega, hgb, HA.out, HB.out⟩
end Go.Proofs.Ytcmbbhdoienkoaa
