/- The library's cuts of texts, by the kit's contracts at this program; no conditions but the length and what the library's text lays. -/
import Derived.Test.YteoajaichjojdaaDoorCabRead
import Derived.Test.YteoajaichjojdaaDoorL1Split
namespace Go.Proofs.YteoajaichjojdaaDoor
open Go.RowKit

theorem size_list (s : ByteArray) : s.size = s.data.toList.length := by simp
theorem split_len (sep : List UInt8) (h0 : sep ≠ []) : ∀ (n : Nat) (s : List UInt8), s.length ≤ n → (Lib.split s sep).length = Lib.count s sep + 1 := fun n => by
  induction n with
  | zero =>
    intro s hs
    have : s = [] := List.eq_nil_of_length_eq_zero (by omega)
    subst this
    rcases Lib.index_spec [] sep with ⟨h, _⟩ | ⟨i, h, _⟩
    · unfold Lib.split; rw [Lib.count_miss h]; rfl
    · have h2 := Lib.index_room [] sep (by omega)
      have : 0 < sep.length := List.length_pos_iff.2 h0
      simp at h2; omega
  | succ n ih =>
    intro s hs
    rcases Lib.index_spec s sep with ⟨h, _⟩ | ⟨i, h, _⟩
    · unfold Lib.split; rw [Lib.count_miss h]; rfl
    · have h2 := Lib.index_room s sep (by omega)
      have h3 : 0 < sep.length := List.length_pos_iff.2 h0
      have h4 := ih (s.drop (i + sep.length)) (by simp; omega)
      unfold Lib.split at h4 ⊢
      rw [Lib.count_hit h0 h, Nat.add_comm 1, Lib.splitK, if_neg (by simp; omega)]
      rw [show (Lib.index s sep).toNat = i by omega, List.length_cons, h4]
/-- The bound that the library reckons ahead of main. -/
def MaxL (w : World) : Prop := 1 < w.heap.size ∧ ∃ m, w.cell? ⟨1, 0, none⟩ = some (.int .i64 m)
theorem MaxL.carry {w w' : World} (h : MaxL w) (hb : Below w.heap.size w w') : MaxL w' := by
  obtain ⟨h1, m, h2⟩ := h
  exact ⟨Nat.lt_of_lt_of_le h1 hb.size, m, (hb.cell (p := ⟨1, 0, none⟩) h1).trans h2⟩
theorem split_c (s : ByteArray) (w : World) (hs : s.size ≤ 2000000) (hM : MaxL w) : Calls Tryd.prog 25 #[.string s, .string ⟨#[44, 32]⟩] w fun e w' => ∃ ps : List ByteArray, ps.map (·.data.toList) = Lib.split s.data.toList [44, 32] ∧ e = .returned (.slice (some ⟨w.heap.size, 0, none⟩) ps.length ps.length) ∧ w' = w.alloc (.cells (ps.map Value.string).toArray 9) := by
  obtain ⟨m, hm⟩ := hM.2
  refine (Tryd.strings_Split s ⟨#[44, 32]⟩ m w (by omega) hm (by decide)).mono ?_
  rintro e w' ⟨rfl, rfl⟩
  have h1 := Lib.splitB_data ⟨#[44, 32]⟩ 0 (Lib.countB s ⟨#[44, 32]⟩) s
  have h2 : (Lib.splitB ⟨#[44, 32]⟩ 0 (Lib.countB s ⟨#[44, 32]⟩) s).length = Lib.countB s ⟨#[44, 32]⟩ + 1 := by
    have := congrArg List.length h1
    rw [List.length_map] at this
    rw [this]
    exact split_len [44, 32] (by simp) s.data.toList.length s.data.toList (Nat.le_refl _)
  exact ⟨_, h1, by rw [h2], rfl⟩
theorem below_drewN (w : World) (n : Nat) : Below w.heap.size w (w.drewN n) := ⟨rfl, rfl, rfl, Nat.le_refl _, fun _ _ => rfl⟩
theorem cut2_c (s sep : ByteArray) (w : World) (hs : s.size ≤ 2000000) (hM : MaxL w) : Calls Tryd.prog 26 #[.string s, .string sep] w fun e w' => ∃ (a b : ByteArray) (c : Bool), a.data.toList = (Lib.cut s.data.toList sep.data.toList).1 ∧ b.data.toList = (Lib.cut s.data.toList sep.data.toList).2.1 ∧ e = .returned (.tuple #[.string a, .string b, .bool c]) ∧ Below w.heap.size w w' := by
  obtain ⟨m, hm⟩ := hM.2
  refine (Tryd.strings_Cut s sep m w (by omega) hm).mono ?_
  rintro e w' ⟨rfl, n, rfl⟩
  exact ⟨_, _, _, rfl, rfl, rfl, below_drewN _ _⟩
theorem cut_size (s sep : List UInt8) : (Lib.cut s sep).1.length ≤ s.length ∧ (Lib.cut s sep).2.1.length ≤ s.length := by
  unfold Lib.cut
  split
  · constructor <;> simp <;> omega
  · simp
theorem split_size (sep : List UInt8) : ∀ (k : Nat) (s : List UInt8), ∀ p ∈ Lib.splitK sep 0 k s, p.length ≤ s.length
  | 0, s, p, h => by simp [Lib.splitK] at h; subst h; exact Nat.le_refl _
  | k + 1, s, p, h => by
    rw [Lib.splitK] at h
    split at h
    · simp at h; subst h; exact Nat.le_refl _
    · rcases List.mem_cons.1 h with h | h
      · subst h; simp; omega
      · have := split_size sep k _ p h
        simp at this; omega
theorem trimSuf_c (s p : ByteArray) (w : World) (hs : s.size ≤ 2000000) : Calls Tryd.prog 30 #[.string s, .string p] w fun e w' => ∃ a : ByteArray, a.data.toList = Lib.trimSuffix s.data.toList p.data.toList ∧ e = .returned (.string a) ∧ w' = w := by
  refine (Tryd.strings_TrimSuffix s p w (by omega)).mono ?_
  rintro e w' ⟨rfl, rfl⟩
  exact ⟨_, rfl, rfl, rfl⟩
theorem trimPre_c (s p : ByteArray) (w : World) : Calls Tryd.prog 29 #[.string s, .string p] w fun e w' => ∃ a : ByteArray, a.data.toList = Lib.trimPrefix s.data.toList p.data.toList ∧ e = .returned (.string a) ∧ w' = w := by
  refine (Tryd.strings_TrimPrefix s p w).mono ?_
  rintro e w' ⟨rfl, rfl⟩
  exact ⟨_, rfl, rfl, rfl⟩
theorem suf_size (s p : List UInt8) : (Lib.trimSuffix s p).length ≤ s.length := by
  unfold Lib.trimSuffix
  split <;> simp
theorem pre_size (s p : List UInt8) : (Lib.trimPrefix s p).length ≤ s.length := by
  unfold Lib.trimPrefix
  split <;> simp
theorem toList_inj2 {a b : ByteArray} (h : a.data.toList = b.data.toList) : a = b := by rw [S_of a, S_of b, h]
theorem stI_none {p : List UInt8} (h : ∀ j : Nat, j < 4 → stN (j : Int) ≠ p) : stI p = -1 := by
  unfold stI
  rw [if_neg fun e => h 0 (by omega) e.symm, if_neg fun e => h 1 (by omega) e.symm, if_neg fun e => h 2 (by omega) e.symm, if_neg fun e => h 3 (by omega) e.symm]
/-- The place of a text among the states' names. -/
theorem index_c (p : ByteArray) (w : World) (hN : NamesAt w) : Calls Tryd.prog 27 #[.slice (some ⟨0, 0, none⟩) 4 4, .string p] w fun e w' => e = .returned (.int .i64 (stI p.data.toList)) ∧ w = w' := by
  have HN := Lib.hid hN
  clear hN
  go_enter Tryd.func27, Tryd.ntmps27
  go_wp2_with fail
  go_loop [5, 8] (fun _ i => ∃ k : Nat, k ≤ 4 ∧ i = .int .i64 k ∧ ∀ j : Nat, j < k → stN (j : Int) ≠ p.data.toList) (fun _ i => 4 - (intOf i).toNat)
  case atStart => exact ⟨0, Nat.zero_le _, rfl, fun j hj => absurd hj (by omega)⟩
  case round =>
    obtain ⟨k, hk, rfl, hall⟩ := hrel
    have HA := Lib.hid hall
    clear hall
    by_cases hlt : k < 4
    · obtain ⟨t, ht⟩ : ∃ t, S (stN (k : Int)) = t := ⟨_, rfl⟩
      have hc := HN.out.2 k hlt
      rw [ht] at hc
      have gl := HN.out.1
      have i1 : (k : Int) < 4 := by omega
      by_cases hq : p = t
      · have hq' : (p.toList == t.toList) = true := by rw [hq]; simp
        have H := Lib.hid (show stI p.data.toList = k by
          rw [hq, ← ht, S_data]; exact stI_name (by omega) (by omega))
        clear hq ht
        go_wp2_with fail
        go_ret
        exact ⟨reti H.out.symm, rfl⟩
      · have hq' : (p.toList == t.toList) = false := by rw [beq_eq_false_iff_ne]; intro e; exact hq (toList_inj e)
        have H := Lib.hid (below_add (p := fun j : Nat => stN (j : Int) ≠ p.data.toList) HA.out (fun e => hq (by rw [← ht]; exact toList_inj2 (by rw [S_data, e]))))
        clear hq ht
        go_wp2_with fail
        go_round
        case rel => exact ⟨k + 1, by omega, by go_num, H.out⟩
        case measure => simp [intOf]; omega
    · obtain rfl : k = 4 := by omega
      have H := Lib.hid (stI_none HA.out)
      go_wp2_with fail
      go_ret
      exact ⟨reti H.out.symm, rfl⟩
end Go.Proofs.YteoajaichjojdaaDoor
