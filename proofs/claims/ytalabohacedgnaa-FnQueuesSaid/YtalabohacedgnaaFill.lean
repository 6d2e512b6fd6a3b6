/- The groups that get into the next cabin: the program's and the reference's function return one list; no conditions but that the queue is valid. -/
import Derived.Test.YtalabohacedgnaaFits
import Derived.Test.YtalabohacedgnaaPut
import Derived.Test.YtalabohacedgnaaSort
import Derived.Deep.RegionHeld3
namespace Go.Proofs.Ytalabohacedgnaa
open Go.RowKit

/-- One lane, group by group: who is in, and how many seats are left. -/
def laneTo (l : List Gro) (q : Bool) (st : List Int × Int) : Nat → List Int × Int
  | 0 => st
  | k + 1 => if (nth l k).q = q ∧ (nth l k).s ≤ (laneTo l q st k).2 then ((laneTo l q st k).1 ++ [(k : Int)], (laneTo l q st k).2 - (nth l k).s) else laneTo l q st k
def lanes (l : List Gro) (s : Int) : Nat → List Int × Int
  | 0 => ([], s)
  | k + 1 => laneTo l (decide (k = 0)) (lanes l s k) l.length
def fillL (l : List Gro) (s : Int) : List Int := isort (lanes l s 2).1
theorem laneTo_yes {l : List Gro} {q : Bool} {st : List Int × Int} {k : Nat} (h1 : (nth l k).q = q) (h2 : (nth l k).s ≤ (laneTo l q st k).2) : laneTo l q st (k + 1) = ((laneTo l q st k).1 ++ [(k : Int)], (laneTo l q st k).2 - (nth l k).s) := by rw [laneTo, if_pos ⟨h1, h2⟩]
theorem laneTo_no {l : List Gro} {q : Bool} {st : List Int × Int} {k : Nat} (h : ¬ ((nth l k).q = q ∧ (nth l k).s ≤ (laneTo l q st k).2)) : laneTo l q st (k + 1) = laneTo l q st k := by rw [laneTo, if_neg h]
/-- What holds of a list on the way: falling, and of the groups that went by. -/
structure Way (l : List Gro) (q : Bool) (s : Int) (k : Nat) (st : List Int × Int) : Prop where
  fall : Falling (isQ st.1)
  mem : ∀ z ∈ st.1, ∃ i : Nat, z = i ∧ i < l.length ∧ ((nth l i).q = q → i < k)
  left : 0 ≤ st.2 ∧ st.2 ≤ s
  len : st.1.length ≤ l.length
theorem way_fresh {l : List Gro} {q : Bool} {s : Int} {k : Nat} {st : List Int × Int} (h : Way l q s k st) (hq : (nth l k).q = q) : (k : Int) ∉ st.1 := fun hm => by
  obtain ⟨i, he, _, hlt⟩ := h.mem _ hm
  obtain rfl : i = k := by omega
  exact absurd (hlt hq) (by omega)
theorem way_to {l : List Gro} {q : Bool} {s : Int} {st : List Int × Int} (hg : ∀ i, i < l.length → 1 ≤ (nth l i).s) (h : Way l q s 0 st) : ∀ k, k ≤ l.length → Way l q s k (laneTo l q st k)
  | 0, _ => h
  | k + 1, hk => by
    have ih := way_to hg h k (by omega)
    by_cases c : (nth l k).q = q ∧ (nth l k).s ≤ (laneTo l q st k).2
    · rw [laneTo_yes c.1 c.2]
      have hf : Falling (isQ ((laneTo l q st k).1 ++ [(k : Int)])) := by
        rw [isQ_snoc]; exact insQ_falling ih.fall (fun hm => way_fresh ih c.1 ((isQ_mem _ _).1 hm))
      have hmm : ∀ z ∈ (laneTo l q st k).1 ++ [(k : Int)], ∃ i : Nat, z = i ∧ i < l.length ∧ ((nth l i).q = q → i < k + 1) := fun z hz => by
        rcases List.mem_append.1 hz with hz | hz
        · obtain ⟨i, he, hi, hlt⟩ := ih.mem z hz
          exact ⟨i, he, hi, fun hq => by have := hlt hq; omega⟩
        · exact ⟨k, by simpa using hz, by omega, fun _ => by omega⟩
      refine ⟨hf, hmm, ?_, len_le hf fun z hz => ?_⟩
      · have := hg k (by omega)
        have := ih.left
        have := c.2
        simp only; omega
      · obtain ⟨i, he, hi, _⟩ := hmm z hz
        exact ⟨i, he, hi⟩
    · rw [laneTo_no c]
      exact ⟨ih.fall, fun z hz => by obtain ⟨i, he, hi, hlt⟩ := ih.mem z hz; exact ⟨i, he, hi, fun hq => by have := hlt hq; omega⟩, ih.left, ih.len⟩
theorem way_0 {l : List Gro} {s : Int} (hs : 0 ≤ s) : Way l true s 0 (lanes l s 0) := ⟨by simp [lanes, isQ, Falling], by simp [lanes], ⟨hs, Int.le_refl _⟩, by simp [lanes]⟩
theorem laneTo_q {l : List Gro} {q : Bool} {st : List Int × Int} (h : st.1 = []) : ∀ k, ∀ z ∈ (laneTo l q st k).1, ∃ i : Nat, z = i ∧ (nth l i).q = q
  | 0, z, hz => by rw [laneTo, h] at hz; cases hz
  | k + 1, z, hz => by
    by_cases c : (nth l k).q = q ∧ (nth l k).s ≤ (laneTo l q st k).2
    · rw [laneTo_yes c.1 c.2] at hz
      rcases List.mem_append.1 hz with hz | hz
      · exact laneTo_q h k z hz
      · exact ⟨k, by simpa using hz, c.1⟩
    · rw [laneTo_no c] at hz; exact laneTo_q h k z hz
theorem way_1 {l : List Gro} {s : Int} (hs : 0 ≤ s) (hg : ∀ i, i < l.length → 1 ≤ (nth l i).s) : Way l false s 0 (lanes l s 1) := by
  have h := way_to hg (way_0 (l := l) hs) l.length (Nat.le_refl _)
  have e : lanes l s 1 = laneTo l true (lanes l s 0) l.length := rfl
  rw [e]
  refine ⟨h.fall, fun z hz => ?_, h.left, h.len⟩
  obtain ⟨i, he, hq⟩ := laneTo_q (l := l) (q := true) (st := lanes l s 0) rfl l.length z hz
  obtain ⟨i', he', hi', _⟩ := h.mem z hz
  obtain rfl : i = i' := by omega
  exact ⟨i, he, hi', fun hf => by rw [hq] at hf; cases hf⟩
theorem way_lane {l : List Gro} {s : Int} (hs : 0 ≤ s) (hg : ∀ i, i < l.length → 1 ≤ (nth l i).s) (k : Nat) (hk : k < 2) : Way l (decide (k = 0)) s 0 (lanes l s k) := by
  match k, hk with
  | 0, _ => exact way_0 hs
  | 1, _ => exact way_1 hs hg
theorem arr_of_own {w : World} {base g cap : Nat} {o : List Int} (h : w.ownsRow base 3 1 (.slice (some ⟨g, 0, none⟩) o.length cap) o.length (o.map (Value.int .i64))) : Arr w g o := by
  obtain ⟨hx, ⟨h1, _⟩ | ⟨g', cap', cur, he, hg, hh, hnc, hmax, hcs, htk⟩⟩ := h
  · cases h1
  · injection he with h1 h2 h3
    simp only [Option.some.injEq, Addr.mk.injEq, and_true] at h1
    subst h1
    refine ⟨cur.size, fun i => cur[i]?.getD undef, by omega, ⟨cur, hh, rfl, fun i hi => by simp [hi]⟩, fun i hi => ?_⟩
    have h2 : (o.map (Value.int .i64))[i]? = some (.int .i64 (nth o i)) := by simp [nth_eq hi, hi]
    rw [← htk, List.getElem?_take, if_pos (by omega)] at h2
    simp only [Array.getElem?_toList] at h2
    simp [h2]
theorem own_form {w : World} {base n : Nat} {v : Value} {xs : List Value} (h : w.ownsRow base 3 1 v n xs) (hn : 0 < n) : ∃ g cap, v = .slice (some ⟨g, 0, none⟩) n cap ∧ base ≤ g := by
  obtain ⟨g, cap, hv, hb, _⟩ := World.ownsRow.form h hn
  exact ⟨g, cap, hv, hb⟩
theorem kept_cell {wr w' : World} {N : Obj} {T : TypeId} {g n cp : Nat} {u v : Value} {R : Nat → Prop} (hg : g < wr.heap.size) (h : ∀ x, x < ((wr.alloc (.cells #[v, u] T)).alloc N).drew.heap.size → (Value.slice (some ⟨g, 0, none⟩) n cp).ownBlock ≠ some x → w'.heap[x]? = ((wr.alloc (.cells #[v, u] T)).alloc N).drew.heap[x]? ∧ R x) : w'.cell? ⟨wr.heap.size, 0, none⟩ = some v := by
  have h1 := (h wr.heap.size (by show _ < ((wr.alloc (.cells #[v, u] T)).alloc N).heap.size; simp; omega) (by simp [Value.ownBlock]; omega)).1.trans nh3
  rw [cell_of_row w' wr.heap.size 0 #[v, u] T (0, 0) h1]
  rfl
set_option maxHeartbeats 1600000 in
set_option maxRecDepth 100000 in
theorem fill_c (l : List Gro) (A : Option Addr) (cap : Nat) (s : Int) (w : World) (hr : Rd w w.heap.size 2 Gro.cells A l) (hg : l.length ≤ 12 ∧ ∀ i, i < l.length → 1 ≤ (nth l i).s ∧ (nth l i).s ≤ 8) (hs : 0 ≤ s) (hs2 : s ≤ 1000) :
    Calls Try.prog 65 #[.slice A l.length cap, .int .i64 s] w (Gives (fillL l s) w) := by
  obtain ⟨hl12, hg⟩ := hg
  have HG := Lib.hid hg
  have HW := Lib.hid (way_lane (l := l) hs (fun i hi => (hg i hi).1))
  have HT := Lib.hid (fun q st h => way_to (l := l) (q := q) (s := s) (st := st) (fun i hi => (hg i hi).1) h)
  clear hg
  go_enter Try.func65, Try.ntmps65
  go_wp2_with fail
  go_loopw [1, 5, 7, 8, 9, 13, 19] (fun left v _ _ _ i _ wr => ∃ (k : Nat) (g gc : Nat), k ≤ 2 ∧ i = .int .i64 k ∧ left = .int .i64 (lanes l s k).2 ∧ v = .slice (some ⟨g, 0, none⟩) (lanes l s k).1.length gc ∧ wr.ownsRow w.heap.size 3 1 v (lanes l s k).1.length ((lanes l s k).1.map (Value.int .i64)) ∧ g ≠ w.heap.size + 1 ∧ Box wr (w.heap.size + 1) 4 2 [.bool true, .bool false] ∧ Below w.heap.size w wr) (fun _ _ _ _ _ i _ _ => 2 - (intOf i).toNat)
  case atStart => 
    refine ⟨0, w.heap.size, 0, Nat.zero_le _, rfl, rfl, rfl, (ownsRow_empty w 3 1).alloc _, by omega, ?_, (by repeat (first | (with_reducible exact Below.refl _ _) | ((with_reducible refine alloc_ ?_ ?_); (focus (first | exact Nat.le_refl _ | (simp; done) | (simp; omega) | omega))) | ((with_reducible refine set_ ?_ ?_); (focus (first | exact Nat.le_refl _ | (simp; done) | (simp; omega) | omega))) | (with_reducible refine Below.drew ?_) | ((with_reducible refine after_ ?_ (by assumption) ?_); (rotate_left; (focus (first | exact Nat.le_refl _ | (simp; done) | (simp; omega) | omega))))))⟩
    have := Box.new (w.alloc (.cells #[] 3)) [.bool true, .bool false] 4
    simpa using this
  case round =>
    obtain ⟨k, g, gc, hk, rfl, rfl, rfl, hown, hgn, hbox, hbel⟩ := hrel
    have HB := Lib.hid hbel
    have HO := Lib.hid hown
    have HX := Lib.hid hbox
    have z1 := hbel.size
    by_cases hlt : k < 2
    · obtain ⟨q, hq⟩ : ∃ q, decide (k = 0) = q := ⟨_, rfl⟩
      have hcb : wr.cell? ⟨w.heap.size + 1, k, none⟩ = some (.bool q) := by
        rw [← hq]
        match k, hlt with
        | 0, _ => exact hbox.cell (j := 0) rfl
        | 1, _ => exact hbox.cell (j := 1) rfl
      have hw0 := HW.out k hlt
      rw [hq] at hw0
      have HWk := Lib.hid (HT.out q _ hw0)
      have HE := Lib.hid (show lanes l s (k + 1) = laneTo l q (lanes l s k) l.length by rw [lanes, hq])
      have xlt := hbox.lt
      obtain ⟨st, hst⟩ : ∃ st, lanes l s k = st := ⟨_, rfl⟩
      rw [hst] at HWk HE HO ⊢
      clear hbel hown hbox hw0 hq hst
      have hdk : decide ((k : Int) < 2) = true := decide_eq_true (by omega)
      go_wp2_with fail
      clear hcb
      go_loopw [1, 5, 8, 9, 19] (fun left v _ _ i wr => ∃ (j g gc : Nat), j ≤ l.length ∧ i = .int .i64 j ∧ left = .int .i64 (laneTo l q st j).2 ∧ v = .slice (some ⟨g, 0, none⟩) (laneTo l q st j).1.length gc ∧ wr.ownsRow w.heap.size 3 1 v (laneTo l q st j).1.length ((laneTo l q st j).1.map (Value.int .i64)) ∧ g ≠ w.heap.size + 1 ∧ Box wr (w.heap.size + 1) 4 2 [.bool true, .bool false] ∧ Below w.heap.size w wr) (fun _ _ _ _ i _ => l.length - (intOf i).toNat)
      case atStart => exact ⟨0, g, gc, Nat.zero_le _, rfl, rfl, rfl, HO.out, hgn, HX.out, HB.out⟩
      case round =>
        obtain ⟨j, g, gc, hj, rfl, rfl, rfl, hown, hgn, hbox, hbel⟩ := hrel
        have HBj := Lib.hid hbel
        have HOj := Lib.hid hown
        have HXj := Lib.hid hbox
        have z2 := hbel.size
        by_cases hlj : j < l.length
        · obtain ⟨b, off, rfl, hb1, hcs⟩ := Gro.rd (hr.below hbel (Nat.le_refl _)) hlj
          obtain ⟨g1, g2⟩ := HG.out j hlj
          have hwj := HWk.out j hj
          obtain ⟨lf0, lf1⟩ := hwj.left
          have hlen := hwj.len
          have hglt : g < wr.heap.size := (arr_of_own hown).lt
          have xlt2 := hbox.lt
          have l1 : b < wr.heap.size := by omega
          clear hbel hown hbox hwj
          by_cases hqq : (nth l j).q = q
          case neg =>
            have hqe : ((nth l j).q == q) = false := by simpa using hqq
            have H := Lib.hid (laneTo_no (l := l) (q := q) (st := st) (k := j) (fun h => hqq h.1))
            clear hqq
            go_wp2_with fail
            go_roundw
            case rel => exact ⟨j + 1, g, gc, by omega, by go_num, by rw [H.out], by rw [H.out], by rw [H.out]; exact HOj.out.alloc _, hgn, HXj.out.alloc _, HBj.out.alloc z2 _⟩
            case measure => simp [intOf]; omega
          by_cases hss : (nth l j).s ≤ (laneTo l q st j).2
          case neg =>
            have hse : decide ((nth l j).s ≤ (laneTo l q st j).2) = false := decide_eq_false hss
            have H := Lib.hid (laneTo_no (l := l) (q := q) (st := st) (k := j) (fun h => hss h.2))
            have hqe : ((nth l j).q == q) = true := by simpa using hqq
            clear hqq
            go_wp2_with fail
            go_roundw
            case rel => exact ⟨j + 1, g, gc, by omega, by go_num, by rw [H.out], by rw [H.out], by rw [H.out]; exact HOj.out.alloc _, hgn, HXj.out.alloc _, HBj.out.alloc z2 _⟩
            case measure => simp [intOf]; omega
          have H := Lib.hid (laneTo_yes (l := l) (q := q) (st := st) (k := j) hqq hss)
          have hqe : ((nth l j).q == q) = true := by simpa using hqq
          clear hqq
          have s1 : IntKind.i64.wrap ((laneTo l q st j).2 - (nth l j).s) = (laneTo l q st j).2 - (nth l j).s := IntWalk.i64_in _ (by omega)
          go_wp2_with fail
          go_region_held3 (fun w' : World => w'.cell? ⟨wr.heap.size, 0, none⟩ = some (.int .i64 (nth l j).s)) (first | assumption | (simp [go_sem, *]; done)) (first
            | (refine step_extend rfl (.tmp 34) (.tmp 36) 37 rfl w.heap.size 3 (.int .i64 0) 1 8 Try.underlying37 info_int rfl (by decide) (by decide) (.slice (some ⟨g, 0, none⟩) (laneTo l q st j).1.length gc) _ _ rfl (((HOj.out.alloc _).alloc _).drew) (wr.heap.size + 1) 0 1 1 [.int .i64 j] rfl rfl (news_one (cs := #[.int .i64 j]) nh2) ?_ ?_ ?_ ?_; (focus (intro u hu; simp at hu; subst hu; rfl)); (focus omega); (focus (first | omega | (simp; omega))); intro v' w' hown' hb' hk'; have hkeep := kept_cell (v := .int .i64 (nth l j).s) hglt hk'))
          obtain ⟨g', gc', rfl, hgb'⟩ := own_form hown' (by omega)
          have HO' := Lib.hid hown'
          have HB' := Lib.hid (HBj.out.trans ((((Below.refl _ _).alloc (Nat.le_refl _) _ |>.mono z2).alloc (by simp; omega) _ |>.drew).trans hb'))
          have HK := Lib.hid (hk' (w.heap.size + 1) (Nat.lt_of_lt_of_le xlt2 (by show _ ≤ (World.alloc (World.alloc _ _) _).heap.size; simp; omega)) (fun e => hgn (by simpa [Value.ownBlock] using e)))
          have HXn := Lib.hid (((((HXj.out.alloc (.cells #[.int .i64 (nth l j).s, .bool (nth l j).q] 52)).alloc (.cells #[.int .i64 j] 3)).drew).keep HK.out.1))
          have hne := HK.out.2
          simp only [Value.ownBlock, ne_eq, Option.some.injEq] at hne
          clear hown' hb' hk' hkeep s1
          go_wp2_with fail
          go_roundw
          case rel => exact ⟨j + 1, g', gc', by omega, by go_num, by rw [H.out], by rw [H.out]; simp only [List.length_append, List.length_singleton], by rw [H.out, List.length_append, List.map_append]; exact HO'.out, hne, HXn.out, HB'.out⟩
          case measure => simp [intOf]; omega
        · obtain rfl : j = l.length := by omega
          clear hbel hown hbox
          go_wp2_with fail
          go_roundw
          case rel => exact ⟨k + 1, g, gc, by omega, by go_num, by rw [HE.out], by rw [HE.out], by rw [HE.out]; exact HOj.out, hgn, HXj.out, HBj.out⟩
          case measure => simp [intOf]; omega
    · obtain rfl : k = 2 := by omega
      have hl2 : (lanes l s 2).1.length ≤ 12 := by
        have := (HT.out false _ (HW.out 1 (by omega)) l.length (Nat.le_refl _)).len
        have e : lanes l s 2 = laneTo l false (lanes l s 1) l.length := rfl
        rw [← e] at this; omega
      have HA := Lib.hid (arr_of_own hown)
      have hge : w.heap.size ≤ g := by
        rcases hown.2 with ⟨h, _⟩ | ⟨g', c', cu, h, hb, _⟩
        · cases h
        · injection h with h1; simp only [Option.some.injEq, Addr.mk.injEq, and_true] at h1; omega
      clear hbel hown hbox
      go_wp2_with fail
      refine (sort_c _ g gc _ hl2 HA.out).mono ?_
      rintro e w1 ⟨rfl, ha1, hg1⟩
      have HA1 := Lib.hid ha1
      have HB1 := Lib.hid (HB.out.trans (grown_below hg1 hge z1))
      clear ha1 hg1
      go_wp2_with fail
      go_ret
      exact ⟨g, gc, retG (by rw [fillL, isort_len]), hge, HA1.out, HB1.out⟩
set_option maxHeartbeats 1600000 in
theorem l13Fill_c (l : List Gro) (A : Option Addr) (cap : Nat) (s : Int) (w : World) (hr : Rd w w.heap.size 2 Gro.cells A l) (hg : l.length ≤ 12 ∧ ∀ i, i < l.length → 1 ≤ (nth l i).s ∧ (nth l i).s ≤ 8) (hs : 0 ≤ s) (hs2 : s ≤ 1000) :
    Calls Try.prog 64 #[.slice A l.length cap, .int .i64 s] w (Gives (fillL l s) w) := by
  obtain ⟨hl12, hg⟩ := hg
  have HG := Lib.hid hg
  have HW := Lib.hid (way_lane (l := l) hs (fun i hi => (hg i hi).1))
  have HT := Lib.hid (fun q st h => way_to (l := l) (q := q) (s := s) (st := st) (fun i hi => (hg i hi).1) h)
  clear hg
  go_enter Try.func64, Try.ntmps64
  go_wp2_with fail
  go_loopw [1, 5, 6, 7] (fun left v i _ wr => ∃ (k : Nat) (g gc : Nat), k ≤ 2 ∧ i = .int .i64 k ∧ left = .int .i64 (lanes l s k).2 ∧ v = .slice (some ⟨g, 0, none⟩) (isort (lanes l s k).1).length gc ∧ (isort (lanes l s k).1).length ≤ gc ∧ w.heap.size ≤ g ∧ Arr wr g (isort (lanes l s k).1) ∧ Below w.heap.size w wr) (fun _ _ i _ _ => 2 - (intOf i).toNat)
  case atStart => exact ⟨0, w.heap.size, 0, Nat.zero_le _, rfl, rfl, rfl, Nat.le_refl _, Nat.le_refl _, arr_of_own (o := []) (ownsRow_empty w 3 1), (by repeat (first | (with_reducible exact Below.refl _ _) | ((with_reducible refine alloc_ ?_ ?_); (focus (first | exact Nat.le_refl _ | (simp; done) | (simp; omega) | omega))) | ((with_reducible refine set_ ?_ ?_); (focus (first | exact Nat.le_refl _ | (simp; done) | (simp; omega) | omega))) | (with_reducible refine Below.drew ?_) | ((with_reducible refine after_ ?_ (by assumption) ?_); (rotate_left; (focus (first | exact Nat.le_refl _ | (simp; done) | (simp; omega) | omega))))))⟩
  case round =>
    obtain ⟨k, g, gc, hk, rfl, rfl, rfl, hgc, hgb, harr, hbel⟩ := hrel
    have HB := Lib.hid hbel
    have HA := Lib.hid harr
    have z1 := hbel.size
    by_cases hlt : k < 2
    · obtain ⟨q, hq⟩ : ∃ q, decide (k = 0) = q := ⟨_, rfl⟩
      have hqq : ((k : Int) == 0) = q := by
        rw [← hq]
        match k, hlt with
        | 0, _ => rfl
        | 1, _ => rfl
      have hw0 := HW.out k hlt
      rw [hq] at hw0
      have HWk := Lib.hid (HT.out q _ hw0)
      have HE := Lib.hid (show lanes l s (k + 1) = laneTo l q (lanes l s k) l.length by rw [lanes, hq])
      obtain ⟨st, hst⟩ : ∃ st, lanes l s k = st := ⟨_, rfl⟩
      rw [hst] at HWk HE HA hgc ⊢
      have HQ := Lib.hid hqq
      have hdk : decide ((k : Int) < 2) = true := decide_eq_true (by omega)
      clear hbel harr hw0 hq hst hqq
      go_wp2_with fail
      go_loopw [1, 5, 7] (fun left v i wr => ∃ (j g gc : Nat), j ≤ l.length ∧ i = .int .i64 j ∧ left = .int .i64 (laneTo l q st j).2 ∧ v = .slice (some ⟨g, 0, none⟩) (isort (laneTo l q st j).1).length gc ∧ (isort (laneTo l q st j).1).length ≤ gc ∧ w.heap.size ≤ g ∧ Arr wr g (isort (laneTo l q st j).1) ∧ Below w.heap.size w wr) (fun _ _ i _ => l.length - (intOf i).toNat)
      case atStart => exact ⟨0, g, gc, Nat.zero_le _, rfl, rfl, rfl, hgc, hgb, HA.out, HB.out⟩
      case round =>
        obtain ⟨j, g, gc, hj, rfl, rfl, rfl, hgc, hgb, harr, hbel⟩ := hrel
        have HBj := Lib.hid hbel
        have HAj := Lib.hid harr
        have z2 := hbel.size
        by_cases hlj : j < l.length
        · obtain ⟨b, off, rfl, hb1, hcs⟩ := Gro.rd (hr.below hbel (Nat.le_refl _)) hlj
          obtain ⟨g1, g2⟩ := HG.out j hlj
          have hwj := HWk.out j hj
          obtain ⟨lf0, lf1⟩ := hwj.left
          have hlen := hwj.len
          have hqk := HQ.out
          clear hbel harr
          by_cases hqq : (nth l j).q = q
          case neg =>
            have hqe : ((nth l j).q == q) = false := by simpa using hqq
            have H := Lib.hid (laneTo_no (l := l) (q := q) (st := st) (k := j) (fun h => hqq h.1))
            clear hqq hwj
            go_wp2_with fail
            go_roundw
            case rel => exact ⟨j + 1, g, gc, by omega, by go_num, by rw [H.out], by rw [H.out], by rw [H.out]; exact hgc, hgb, by rw [H.out]; exact HAj.out, HBj.out⟩
            case measure => simp [intOf]; omega
          by_cases hss : (nth l j).s ≤ (laneTo l q st j).2
          case neg =>
            have hse : decide ((nth l j).s ≤ (laneTo l q st j).2) = false := decide_eq_false hss
            have H := Lib.hid (laneTo_no (l := l) (q := q) (st := st) (k := j) (fun h => hss h.2))
            have hqe : ((nth l j).q == q) = true := by simpa using hqq
            clear hqq hwj
            go_wp2_with fail
            go_roundw
            case rel => exact ⟨j + 1, g, gc, by omega, by go_num, by rw [H.out], by rw [H.out], by rw [H.out]; exact hgc, hgb, by rw [H.out]; exact HAj.out, HBj.out⟩
            case measure => simp [intOf]; omega
          have H := Lib.hid (laneTo_yes (l := l) (q := q) (st := st) (k := j) hqq hss)
          obtain ⟨p, hp, hpe⟩ := places hwj.fall (fun hm => way_fresh hwj hqq ((isQ_mem _ _).1 hm))
          have HP := Lib.hid hp
          have HPE := Lib.hid (show (isort (laneTo l q st j).1).take p ++ [(j : Int)] ++ (isort (laneTo l q st j).1).drop p = isort (laneTo l q st (j + 1)).1 by
            rw [H.out, isort, isort, isQ_snoc]; exact hpe.symm)
          have hqe : ((nth l j).q == q) = true := by simpa using hqq
          have hil : (isort (laneTo l q st j).1).length ≤ 12 := by rw [isort_len]; omega
          clear hqq hwj hp hpe
          go_wp2_with fail
          refine (l1Put_c _ g 0 gc (j : Int) p _ (by omega) hgc HAj.out.rd HP.out).mono ?_
          rintro e w2 ⟨g2, gc2, rfl, hgc2, hgb2, harr2, hb2⟩
          rw [HPE.out] at hgc2 harr2 ⊢
          have HA2 := Lib.hid harr2
          have HB2 := Lib.hid (HBj.out.trans (hb2.mono z2))
          obtain ⟨hcs1, hcs2⟩ := hcs
          have hct := (hb2.cell (p := ⟨b, off + j * 2, none⟩) (show b < _ by omega)).trans hcs1
          have i1 : (0 : Int) ≤ (j : Int) := by omega
          have i2 : (j : Int) < l.length := by omega
          clear harr2 hb2 hcs1 hcs2
          go_wp2_with fail
          go_roundw
          case rel => exact ⟨j + 1, g2, gc2, by omega, by go_num, by rw [H.out], rfl, hgc2, by omega, HA2.out, HB2.out⟩
          case measure => simp [intOf]; omega
        · obtain rfl : j = l.length := by omega
          clear hbel harr
          go_wp2_with fail
          go_roundw
          case rel => exact ⟨k + 1, g, gc, by omega, by go_num, by rw [HE.out], by rw [HE.out], by rw [HE.out]; exact hgc, hgb, by rw [HE.out]; exact HAj.out, HBj.out⟩
          case measure => simp [intOf]; omega
    · obtain rfl : k = 2 := by omega
      clear hbel harr
      go_wp2_with fail
      go_ret
      exact ⟨g, gc, rfl, hgb, HA.out, HB.out⟩
end Go.Proofs.Ytalabohacedgnaa
