/- The library's cut of a text at a separator, by the kit's contract at this program; no conditions but the length and what the library's text lays. -/
import Derived.Test.YtpchcblialkpcaaDoorWords
import Derived.Test.YtpchcblialkpcaaDoorShelf
import Derived.Test.YtpchcblialkpcaaDoorText
namespace Go.Proofs.YtpchcblialkpcaaDoor
open Go.RowKit

theorem nth_snoc_l {α : Type} [Inhabited α] {q : List α} {n : α} {t : Nat} (h : t < q.length) : nth (q ++ [n]) t = nth q t := by
  rw [nth_eq (by simp; omega), List.getElem_append_left h, ← nth_eq h]
theorem nth_snoc_r {α : Type} [Inhabited α] {q : List α} {n : α} : nth (q ++ [n]) q.length = n := by
  rw [nth_eq (by simp)]; simp
theorem split_len (sep : List UInt8) (h0 : sep ≠ []) : ∀ (n : Nat) (s : List UInt8), s.length ≤ n → (Lib.split s sep).length = Lib.count s sep + 1 := fun n => by
  induction n with
  | zero =>
    intro s hs
    have : s = [] := List.eq_nil_of_length_eq_zero (by omega)
    subst this
    rcases Lib.index_spec [] sep with ⟨h, _⟩ | ⟨i, h, _⟩
    · unfold Lib.split; rw [Lib.count_miss h]; rfl
    · have h2 := Lib.index_room [] sep (by omega)
      have : 0 < sep.length := List.length_pos_iff.2 h0
      simp at h2; omega
  | succ n ih =>
    intro s hs
    rcases Lib.index_spec s sep with ⟨h, _⟩ | ⟨i, h, _⟩
    · unfold Lib.split; rw [Lib.count_miss h]; rfl
    · have h2 := Lib.index_room s sep (by omega)
      have h3 : 0 < sep.length := List.length_pos_iff.2 h0
      have h4 := ih (s.drop (i + sep.length)) (by simp; omega)
      unfold Lib.split at h4 ⊢
      rw [Lib.count_hit h0 h, Nat.add_comm 1, Lib.splitK, if_neg (by simp; omega)]
      rw [show (Lib.index s sep).toNat = i by omega, List.length_cons, h4]
/-- The bound that the library reckons ahead of main. -/
def MaxL (w : World) : Prop := 0 < w.heap.size ∧ ∃ m, w.cell? ⟨0, 0, none⟩ = some (.int .i64 m)
theorem MaxL.carry {w w' : World} (h : MaxL w) (hb : Below w.heap.size w w') : MaxL w' := by
  obtain ⟨h1, m, h2⟩ := h
  exact ⟨Nat.lt_of_lt_of_le h1 hb.size, m, (hb.cell (p := ⟨0, 0, none⟩) h1).trans h2⟩
theorem split1_c (s : ByteArray) (c : UInt8) (w : World) (hs : s.size ≤ 2000000) (hM : MaxL w) : Calls Tryd.prog 25 #[.string s, .string ⟨#[c]⟩] w fun e w' => ∃ ps : List ByteArray, ps.map (·.data.toList) = Lib.split s.data.toList [c] ∧ e = .returned (.slice (some ⟨w.heap.size, 0, none⟩) ps.length ps.length) ∧ w' = w.alloc (.cells (ps.map Value.string).toArray 9) := by
  obtain ⟨m, hm⟩ := hM.2
  refine (Tryd.strings_Split s ⟨#[c]⟩ m w (by omega) hm (by simp [ByteArray.size])).mono ?_
  rintro e w' ⟨rfl, rfl⟩
  have h1 := Lib.splitB_data ⟨#[c]⟩ 0 (Lib.countB s ⟨#[c]⟩) s
  have h2 : (Lib.splitB ⟨#[c]⟩ 0 (Lib.countB s ⟨#[c]⟩) s).length = Lib.countB s ⟨#[c]⟩ + 1 := by
    have := congrArg List.length h1
    rw [List.length_map] at this
    rw [this]
    exact split_len [c] (by simp) s.data.toList.length s.data.toList (Nat.le_refl _)
  exact ⟨_, h1, by rw [h2], rfl⟩
theorem split_size (sep : List UInt8) : ∀ (k : Nat) (s : List UInt8), ∀ p ∈ Lib.splitK sep 0 k s, p.length ≤ s.length
  | 0, s, p, h => by simp [Lib.splitK] at h; subst h; exact Nat.le_refl _
  | k + 1, s, p, h => by
    rw [Lib.splitK] at h
    split at h
    · simp at h; subst h; exact Nat.le_refl _
    · rcases List.mem_cons.1 h with h | h
      · subst h; simp; omega
      · have := split_size sep k _ p h
        simp at this; omega
theorem split_sizes {ps : List ByteArray} {s : ByteArray} {sep : List UInt8} (h : ps.map (·.data.toList) = Lib.split s.data.toList sep) {t : Nat} (ht : t < ps.length) : (nth ps t).size ≤ s.size := by
  have hm : (nth ps t).data.toList ∈ Lib.split s.data.toList sep := by
    rw [← h, nth_eq ht]
    exact List.mem_map.2 ⟨_, List.getElem_mem ht, rfl⟩
  have := split_size sep _ _ _ hm
  simpa using this
theorem parts_nth {ps : List ByteArray} {L : List (List UInt8)} (h : ps.map (·.data.toList) = L) {t : Nat} (ht : t < ps.length) : nth L t = (nth ps t).data.toList := by
  subst h
  rw [nth_eq (by simpa using ht), nth_eq ht]; simp
/-- The cells of a list of texts. -/
theorem parts_cell (w : World) (ps : List ByteArray) {t : Nat} (ht : t < ps.length) : (w.alloc (.cells (ps.map Value.string).toArray 9)).cell? ⟨w.heap.size, t, none⟩ = some (.string (nth ps t)) := by
  rw [cell_of_row _ _ t _ 9 (0, 0) (heap_alloc_new w _), nth_eq ht]
  simp [ht]
end Go.Proofs.YtpchcblialkpcaaDoor
