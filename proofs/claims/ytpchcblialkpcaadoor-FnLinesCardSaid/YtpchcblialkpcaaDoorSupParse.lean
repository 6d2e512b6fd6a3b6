/- What a text of a line reads as, whichever way its parts are cut and read; no conditions beyond those of each statement. -/
import Derived.Test.YtpchcblialkpcaaDoorSupWays
namespace Go.Proofs.YtpchcblialkpcaaDoor

/-- A way to cut a text and to read the parts that fits the texts of good lines. -/
def Fits (s : List UInt8) (P : List (List UInt8)) (rd : List UInt8 → Option Sup) : Prop := (∀ l, goodU l = true → lineL l = s → P = l.map supL) ∧ ∀ x, okU x = true → rd (supL x) = some x
theorem fits_I (s : List UInt8) : Fits s (Lib.split s [32]) rdI := ⟨fun l hg h => by rw [← h]; exact line_parts (good_ne hg), fun _ h => rdI_text h⟩
theorem fits_S (s : List UInt8) : Fits s (spl 32 s) rdS := ⟨fun l hg h => by rw [← h]; exact line_words (good_ne hg), fun _ h => rdS_text h⟩
section
variable {s : List UInt8} {P : List (List UInt8)} {rd : List UInt8 → Option Sup}
theorem Fits.at (h : Fits s P rd) {l : List Sup} (hg : goodU l = true) (hl : lineL l = s) : P.length = l.length ∧ ∀ t, t < l.length → rd (nth P t) = some (nth l t) := by
  have hp := h.1 l hg hl
  refine ⟨by rw [hp]; simp, fun t ht => ?_⟩
  rw [hp, nth_map ht]
  exact h.2 _ ((goodU_true hg).2.2.2.2.2.1 t ht)
theorem Fits.none (h : Fits s P rd) {t : Nat} (ht : t < P.length) (hn : rd (nth P t) = none) : Parsed s ([], false) := .inr ⟨rfl, fun l hg hl => by
  obtain ⟨h1, h2⟩ := h.at hg hl
  have := h2 t (by omega)
  rw [hn] at this; cases this⟩
theorem Fits.long (h : Fits s P rd) (h8 : 8 < P.length) : Parsed s ([], false) := .inr ⟨rfl, fun l hg hl => by
  obtain ⟨h1, _⟩ := h.at hg hl
  have := (goodU_true hg).2.1
  omega⟩
theorem Fits.yes {q : List Sup} (hg : goodU q = true) (hs : lineL q = s) : Parsed s (q, true) := .inl ⟨hg, hs, rfl⟩
theorem Fits.no (h : Fits s P rd) {q : List Sup} (hq : q.length = P.length) (hr : ∀ t, t < q.length → rd (nth P t) = some (nth q t)) (hno : ¬ (goodU q = true ∧ lineL q = s)) : Parsed s ([], false) := .inr ⟨rfl, fun l hg hl => by
  obtain ⟨h1, h2⟩ := h.at hg hl
  have : q = l := by
    apply List.ext_getElem (by omega)
    intro i i1 i2
    have h3 := hr i i1
    rw [h2 i i2, Option.some.injEq, nth_eq i1, nth_eq i2] at h3
    exact h3.symm
  subst this
  exact hno ⟨hg, hl⟩⟩
theorem parsed_size (h : 120 < s.length) : Parsed s ([], false) := .inr ⟨rfl, fun l hg hl => by
  have h1 := line_len (goodU_true hg).2.2.2.2.2.1
  have := (goodU_true hg).2.1
  rw [hl] at h1
  omega⟩
end
end Go.Proofs.YtpchcblialkpcaaDoor
