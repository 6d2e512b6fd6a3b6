/- The library's search and its deletion over a slice of cabins of the call's own; no conditions but the length. -/
import Derived.Test.YteoajaichjojdaaDoorCbnSort
namespace Go.Proofs.YteoajaichjojdaaDoor
open Go.RowKit Go.Lib

/-- The first that a test takes. -/
def FirstP (o : List Cbn) (p : Cbn → Bool) (w : World) (e : Ending) (w' : World) : Prop := ∃ r : Int, e = .returned (.int .i64 r) ∧ ((r = -1 ∧ ∀ j, j < o.length → p (nth o j) = false) ∨ ∃ k : Nat, r = k ∧ k < o.length ∧ (∀ j, j < k → p (nth o j) = false) ∧ p (nth o k) = true) ∧ Below w.heap.size w w'
theorem idxMove_c (o : List Cbn) (A : Option Addr) (cap : Nat) (gb : Nat) (w : World) (hl : o.length ≤ 1048576) (hr : Rd w w.heap.size 5 Cbn.cells A o) (p : Cbn → Bool)
    (hclo : ∀ (x : Cbn) (w' : World), Below w.heap.size w w' → Calls Tryd.prog 40 #[.agg #[.int .i64 x.n, .int .i64 x.s, .int .i64 x.e, .int .i64 x.t, .int .i64 x.r], .pointer (some ⟨gb, 0, none⟩)] w' fun e w'' => e = .returned (.bool (p x)) ∧ Below w'.heap.size w' w'') :
    Calls Tryd.prog 39 #[.slice A o.length cap, .func (.func 40) #[] #[.pointer (some ⟨gb, 0, none⟩)]] w (FirstP o p w) := by
  have HC := Lib.hid hclo
  clear hclo
  go_enter Tryd.func39, Tryd.ntmps39
  go_wp2_with fail
  go_loopw [5, 8] (fun _ i wr => ∃ k : Nat, k ≤ o.length ∧ i = .int .i64 k ∧ (∀ j, j < k → p (nth o j) = false) ∧ Below w.heap.size w wr) (fun _ i _ => o.length - (intOf i).toNat)
  case atStart => exact ⟨0, Nat.zero_le _, rfl, fun j hj => absurd hj (by omega), Below.refl _ _⟩
  case round =>
    obtain ⟨k, hk, rfl, hall, hbel⟩ := hrel
    have HB := Lib.hid hbel
    have HA := Lib.hid hall
    clear hall
    by_cases hlt : k < o.length
    · obtain ⟨b, off, rfl, hb1, hcs⟩ := Cbn.rd (hr.below hbel (Nat.le_refl _)) hlt
      have z1 := hbel.size
      clear hbel
      go_wp2_with fail
      refine (HC.out (nth o k) _ HB.out).mono ?_
      rintro e w1 ⟨rfl, hb2⟩
      have HB2 := Lib.hid (HB.out.trans (hb2.mono z1))
      clear hb2
      rcases hp : p (nth o k) with _ | _
      · have HP := Lib.hid hp
        clear hp
        go_wp2_with fail
        go_roundw
        case rel => exact ⟨k + 1, by omega, by go_num, below_add HA.out HP.out, HB2.out⟩
        case measure => simp [intOf]; omega
      · have HP := Lib.hid hp
        clear hp
        go_wp2_with fail
        go_ret
        exact ⟨k, rfl, .inr ⟨k, rfl, hlt, HA.out, HP.out⟩, HB2.out⟩
    · clear hbel
      obtain rfl : k = o.length := by omega
      go_wp2_with fail
      go_ret
      exact ⟨-1, rfl, .inl ⟨rfl, HA.out⟩, HB.out⟩

def keptC (p : Cbn → Bool) (o : List Cbn) : List Cbn := o.filter fun c => !p c
theorem keptC_le {p : Cbn → Bool} (o : List Cbn) : (keptC p o).length ≤ o.length := List.length_filter_le _ _
theorem take_snocC {o : List Cbn} {k : Nat} (hk : k < o.length) : o.take (k + 1) = o.take k ++ [nth o k] := by rw [List.take_succ_eq_append_getElem hk, nth_eq hk]
theorem keptC_yes {p : Cbn → Bool} {o : List Cbn} {k : Nat} (hk : k < o.length) (h : p (nth o k) = false) : keptC p (o.take (k + 1)) = keptC p (o.take k) ++ [nth o k] := by
  rw [take_snocC hk]; simp [keptC, List.filter_append, h]
theorem keptC_no {p : Cbn → Bool} {o : List Cbn} {k : Nat} (hk : k < o.length) (h : p (nth o k) = true) : keptC p (o.take (k + 1)) = keptC p (o.take k) := by
  rw [take_snocC hk]; simp [keptC, List.filter_append, h]
theorem keptC_all {p : Cbn → Bool} {o : List Cbn} (h : ∀ j, j < o.length → p (nth o j) = false) : keptC p o = o := by
  unfold keptC; rw [List.filter_eq_self]
  intro x hx
  obtain ⟨j, hj, rfl⟩ := List.getElem_of_mem hx
  have := h j hj
  rw [nth_eq hj] at this
  simp [this]
theorem keptC_take {p : Cbn → Bool} {o : List Cbn} {k : Nat} (hk : k ≤ o.length) (h : ∀ j, j < k → p (nth o j) = false) : keptC p (o.take k) = o.take k :=
  keptC_all fun j hj => by
    have hj2 : j < k := by simp at hj; omega
    rw [nth_take hj2]; exact h j hj2
theorem setCells_puts {g : Nat} : ∀ (vs : List Value) (s : Nat) (w : World), w.setCells g s vs = puts w g s vs
  | [], _, _ => rfl
  | _ :: vs, s, _ => setCells_puts vs (s + 1) _
theorem ArrC.past {w : World} {g : Nat} {o : List Cbn} (h : ArrC w g o) {s : Nat} (hs : o.length * 5 ≤ s) (vs : List Value) : ArrC (puts w g s vs) g o := by
  obtain ⟨N, f, hN, hf, hc⟩ := h
  obtain ⟨f', h1, _, h3⟩ := puts_row vs w s f hf
  refine ⟨N, f', hN, h1, fun i hi j v hj hv => ?_⟩
  rw [h3 (i * 5 + j) (.inl (by omega))]
  exact hc i hi j v hj hv
theorem ArrC.isSome {w : World} {g : Nat} {o : List Cbn} (h : ArrC w g o) {j : Nat} (hj : j < o.length * 5) : (w.cell? ⟨g, j, none⟩).isSome = true := by
  obtain ⟨N, f, hN, hf, _⟩ := h
  rw [hf.cell (by omega)]; rfl
theorem run_clear_C (w : World) (ty : TypeId) (b o n c : Nat) (hn : 0 < n) (hc : ∀ j, j < n * 5 → (w.cell? ⟨b, o + j, none⟩).isSome = true) (hf : ∀ j, j < n * 5 → w.frozen? ⟨b, o + j, none⟩ = false) :
    (Builtin.clear_ #[33] ty #[.slice (some ⟨b, o, none⟩) n c]).run Tryd.prog w = .ok (.tuple #[]) (w.setCells b o (List.replicate (n * 5) (.int .i64 0))) := by
  have hv : ∀ w, (zeroValue 25).run Tryd.prog w = .ok (.agg #[.int .i64 0, .int .i64 0, .int .i64 0, .int .i64 0, .int .i64 0]) w := fun w => by kernel_rfl
  have hzc : (Builtin.zeroCells (Value.agg #[.int .i64 0, .int .i64 0, .int .i64 0, .int .i64 0, .int .i64 0]).cells n).toList = List.replicate (n * 5) (.int .i64 0) := by
    apply List.ext_getElem
    · simp [Builtin.zeroCells, Value.cells]
    · intro i h1 h2
      have h5 : i % 5 = 0 ∨ i % 5 = 1 ∨ i % 5 = 2 ∨ i % 5 = 3 ∨ i % 5 = 4 := by omega
      simp only [Builtin.zeroCells, Value.cells, Array.getElem_toList, Array.getElem_map, Array.getElem_range, List.getElem_replicate]
      rcases h5 with h | h | h | h | h <;> simp [h]
  have hst := run_storeCells_cells (P := Tryd.prog) b o (List.replicate (n * 5) (.int .i64 0)) 0 w (by simpa using hc) (by simpa using hf) (by intro v hv'; rw [List.eq_of_mem_replicate hv']; rfl)
  simp only [Nat.add_zero] at hst
  obtain ⟨m, rfl⟩ : ∃ m, n = m + 1 := ⟨n - 1, by omega⟩
  simp [Builtin.clear_, run_underlying Tryd.underlying33, hv, hzc, hst]
def KeptPost (p : Cbn → Bool) (o : List Cbn) (g : Nat) (w : World) (e : Ending) (w' : World) : Prop := ∃ cap, e = .returned (.slice (some ⟨g, 0, none⟩) (keptC p o).length cap) ∧ ArrC w' g (keptC p o) ∧ w.grownBy w' (some g)
end Go.Proofs.YteoajaichjojdaaDoor
