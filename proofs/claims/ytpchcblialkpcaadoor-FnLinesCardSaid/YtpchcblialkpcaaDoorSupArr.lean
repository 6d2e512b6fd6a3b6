/- A slice of supports of the call's own, cell by cell; no conditions. -/
import Derived.Test.YtpchcblialkpcaaDoorSup
import Derived.Test.YtpchcblialkpcaaDoorCur
import Derived.Test.YtpchcblialkpcaaDoorPut
import Derived.Test.YtpchcblialkpcaaDoorFlat
import Derived.WalkSpells
import Derived.Lib.SliceRun
namespace Go.Proofs.YtpchcblialkpcaaDoor
open Go.RowKit

/-- Block g holds the supports of o at its head. -/
def ArrU (w : World) (g : Nat) (o : List Sup) : Prop := ∃ N f, o.length * 3 ≤ N ∧ w.rowIs g 33 N f ∧ ∀ i, i < o.length → ∀ j v, j < 3 → (Sup.cells (nth o i))[j]? = some v → f (i * 3 + j) = v
theorem nth_setU {l : List Sup} {i j : Nat} {x : Sup} (hj : j < l.length) : nth (l.set i x) j = if i = j then x else nth l j := by
  rw [nth_eq (by simpa using hj), nth_eq hj, List.getElem_set]
section
variable {w w' : World} {g B base : Nat} {o : List Sup}
theorem ArrU.at (h : ArrU w g o) {i : Nat} (hi : i < o.length) {j : Nat} {v : Value} (hj : j < 3) (hv : (Sup.cells (nth o i))[j]? = some v) : w.cell? ⟨g, i * 3 + j, none⟩ = some v := by
  obtain ⟨N, f, hN, hf, hc⟩ := h
  rw [hf.cell (by omega), hc i hi j v hj hv]
theorem ArrU.cell (h : ArrU w g o) {i : Nat} (hi : i < o.length) : w.cell? ⟨g, i * 3, none⟩ = some (.int .i64 (nth o i).a) ∧ w.cell? ⟨g, i * 3 + 1, none⟩ = some (.int .i64 (nth o i).h) ∧ w.cell? ⟨g, i * 3 + 2, none⟩ = some (.bool (nth o i).s) :=
  ⟨h.at hi (j := 0) (by decide) rfl, h.at hi (j := 1) (by decide) rfl, h.at hi (j := 2) (by decide) rfl⟩
theorem ArrU.frozen (h : ArrU w g o) (i : Nat) : w.frozen? ⟨g, i, none⟩ = false := by
  obtain ⟨N, f, hN, hf, hc⟩ := h
  exact hf.frozen i
theorem ArrU.lt (h : ArrU w g o) : g < w.heap.size := by
  obtain ⟨N, f, hN, hf, hc⟩ := h
  exact hf.lt
theorem ArrU.below (h : ArrU w g o) (hb : Below B w w') (hg : g < B) : ArrU w' g o := by
  obtain ⟨N, f, hN, hf, hc⟩ := h
  exact ⟨N, f, hN, hf.of_block (hb.block g hg), hc⟩
theorem ArrU.carry (h : ArrU w g o) (hb : Below w.heap.size w w') : ArrU w' g o := h.below hb h.lt
theorem ArrU.keep (h : ArrU w g o) (he : w'.heap[g]? = w.heap[g]?) : ArrU w' g o := by
  obtain ⟨N, f, hN, hf, hc⟩ := h
  exact ⟨N, f, hN, hf.of_block he, hc⟩
theorem ArrU.put (h : ArrU w g o) (i : Nat) (x : Sup) : ArrU (puts w g (i * 3) (Sup.cells x)) g (o.set i x) := by
  obtain ⟨N, f, hN, hf, hc⟩ := h
  obtain ⟨f', h1, h2, h3⟩ := puts_row (Sup.cells x) w (i * 3) f hf
  refine ⟨N, f', by simpa using hN, h1, fun t ht j v hj hv => ?_⟩
  simp only [List.length_set] at ht
  rw [nth_setU ht] at hv
  by_cases e : i = t
  · subst e; rw [if_pos rfl] at hv; exact h2 j v hv
  · rw [if_neg e] at hv
    rw [h3 (t * 3 + j) (by simp [Sup.cells]; omega)]
    exact hc t ht j v hj hv
theorem ArrU.setField {i j : Nat} (h : ArrU w g o) (hi : i < o.length) (hj : j < 3) {y : Sup} {v : Value} (hy : Sup.cells y = (Sup.cells (nth o i)).set j v) : ArrU (w.setCell ⟨g, i * 3 + j, none⟩ v) g (o.set i y) := by
  obtain ⟨N, f, hN, hf, hc⟩ := h
  refine ⟨N, _, by simpa using hN, hf.set _ _, fun t ht k u hk hu => ?_⟩
  simp only [List.length_set] at ht
  rw [nth_setU ht] at hu
  by_cases e : i = t
  · subst e
    rw [if_pos rfl, hy] at hu
    by_cases e2 : j = k
    · subst e2
      rw [List.getElem?_set_self (by simpa [Sup.cells] using hj), Option.some.injEq] at hu
      rw [if_pos rfl, hu]
    · rw [List.getElem?_set_ne e2] at hu
      rw [if_neg (by omega)]; exact hc i hi k u hk hu
  · rw [if_neg e] at hu
    rw [if_neg (by omega)]; exact hc t ht k u hk hu
theorem ArrU.own (h : ArrU w g o) (hb : base ≤ g) : Own w base 33 3 Sup.cells (some ⟨g, 0, none⟩) o := fun _ => by
  obtain ⟨N, f, hN, hf, hc⟩ := h
  exact ⟨g, N, f, rfl, hb, hN, hf, hc⟩
theorem ArrU.rd (h : ArrU w g o) : Rd w w.heap.size 3 Sup.cells (some ⟨g, 0, none⟩) o := fun i hi => ⟨g, 0, rfl, h.lt, fun j v hv => by
  rw [Nat.zero_add]
  exact h.at hi (by have := (List.getElem?_eq_some_iff.1 hv).1; simpa [Sup.cells] using this) hv⟩
theorem ArrU.head (h : ArrU w g o) {q : List Sup} (hl : q.length ≤ o.length) (he : ∀ t, t < q.length → nth q t = nth o t) : ArrU w g q := by
  obtain ⟨N, f, hN, hf, hc⟩ := h
  exact ⟨N, f, by omega, hf, fun i hi j v hj hv => hc i (by omega) j v hj (by rw [← he i hi]; exact hv)⟩
end
/-- The same out of what an append leaves. -/
theorem ArrU.of_owns {w : World} {base n : Nat} {v : Value} {xs : List Value} {o : List Sup} (h : w.ownsRow base 33 3 v n xs) (hn : n = o.length) (hx : xs = (o.map Sup.cells).flatten) (h0 : 0 < n) :
    ∃ g cap, v = .slice (some ⟨g, 0, none⟩) o.length cap ∧ base ≤ g ∧ o.length ≤ cap ∧ ArrU w g o := by
  subst hn hx
  obtain ⟨A2, c2, he, ho⟩ := Own.of_row h (fun _ => rfl)
  obtain ⟨g, N, f, rfl, hb, hN, hf, hc⟩ := ho h0
  have hcap : o.length ≤ c2 := by
    rw [he] at h
    exact own_cap h
  exact ⟨g, c2, he, hb, hcap, N, f, hN, hf, hc⟩
/-- Many elements are appended to a slice that is not nil: what comes is not nil. -/
theorem wpList_extendU {P : Program} (w : World) {ops : Array Oper} {rest : List Oper} {o : Oper} {a : Act} {Q : Exit → Act → World → Prop} (hgd : o.guard = none) (s x : Operand) (t : TypeId)
    (ho : o.op = .call { callee := .builtin .append, args := #[s, x], argTypes := #[t, t] })
    (base : Nat) (e : TypeId) (z : Value) (k bytes : Nat) (ht : P.underlying t = some (.slice e)) (hinfo : (P.info? e).map (fun i => (i.zero, i.size, i.bytes)) = some (some z, k, bytes))
    (hzs : z.cells.size = k) (hk : 0 < k) (hby : bytes ≤ 1000)
    (v : Value) (n : Nat) (xs : List Value) (hs : a.eval s = v) (hown : w.ownsRow base e k v n xs) (hne : v.ownBlock ≠ none)
    (b off m c : Nat) (news : List Value) (hx : a.eval x = .slice (some ⟨b, off, none⟩) m c) (hl : news.length = m * k) (hnews : ∀ j u, news[j]? = some u → w.cell? ⟨b, off + j, none⟩ = some u) (h1 : ∀ u ∈ news, u.oneCell' = true)
    (hn : n + m ≤ 10000000) (hbase : base ≤ w.heap.size)
    (h : ∀ v' w', w'.ownsRow base e k v' (n + m) (xs ++ news) → Below base w w' → v'.ownBlock ≠ none → wpList P ops Q rest (a.put o.dst v') w') :
    wpList P ops Q (o :: rest) a w := by
  obtain ⟨i, hi, hzz⟩ := Option.map_eq_some_iff.1 hinfo
  simp only [Prod.mk.injEq] at hzz
  obtain ⟨hz, hsi, hb⟩ := hzz
  have hmul : (n + m) * bytes ≤ 10000001 * 1000 := Nat.mul_le_mul (by omega) hby
  refine wpList_append_own_at w hgd s x t ho base e i z k bytes ht hi hz hsi hb hzs hk v n xs hs hown ⟨b, off, none⟩ m c news hx hl (fun j u hj => ?_) h1 (by unfold maxLen; omega) (by omega) hbase fun v' w' h2 h3 _ h5 => h v' w' h2 ((Below.refl _ _).grown h3 hbase fun k hk => ?_) (fun e => ?_)
  · have := hnews j u hj
    unfold Addr.add
    by_cases h0 : j = 0
    · subst h0; simpa using this
    · simpa [h0] using this
  · rcases hown.2 with ⟨rfl, _⟩ | ⟨g, cap, cur, rfl, hg, _⟩
    · simp [Value.ownBlock] at hk
    · simp [Value.ownBlock] at hk; omega
  · rcases h5 with h5 | h5
    · exact hne (h5 ▸ e)
    · rw [h5] at e; cases e
theorem ArrU.of_some {w : World} {base n : Nat} {v : Value} {xs : List Value} {o : List Sup} (h : w.ownsRow base 33 3 v n xs) (hn : n = o.length) (hx : xs = (o.map Sup.cells).flatten) (hne : v.ownBlock ≠ none) :
    ∃ g cap, v = .slice (some ⟨g, 0, none⟩) o.length cap ∧ base ≤ g ∧ o.length ≤ cap ∧ ArrU w g o := by
  by_cases h0 : 0 < n
  · exact ArrU.of_owns h hn hx h0
  · rcases h.2 with ⟨rfl, _⟩ | ⟨g, cap, cur, rfl, hg, hh, _⟩
    · exact absurd rfl hne
    · exact ⟨g, cap, by rw [hn], hg, by omega, cur.size, fun i => cur[i]?.getD undef, by omega, ⟨cur, hh, rfl, fun i hi => by simp [hi]⟩, fun i hi => absurd hi (by omega)⟩
def GivesU (o : List Sup) (w : World) (e : Ending) (w' : World) : Prop := ∃ g cap, e = .returned (.slice (some ⟨g, 0, none⟩) o.length cap) ∧ o.length ≤ cap ∧ w.heap.size ≤ g ∧ ArrU w' g o ∧ Below w.heap.size w w'
theorem cloneU_c (o : List Sup) (b off cap : Nat) (w : World) (hl : o.length ≤ 1000) (hr : Rd w w.heap.size 3 Sup.cells (some ⟨b, off, none⟩) o) :
    Calls Tryd.prog 19 #[.slice (some ⟨b, off, none⟩) o.length cap] w (GivesU o w) := by
  have hnil := @Lib.run_eql_slice_nil Tryd.prog
  have HR := Lib.hid hr
  have HL := Lib.hid (flat_len (k := 3) (cells := Sup.cells) (fun _ => rfl) o)
  clear hr
  go_enter Tryd.func19, Tryd.ntmps19
  go_wp2_with (refine wpList_extendU _ rfl (.tmp 5) (.tmp 6) 24 rfl w.heap.size 33 _ 3 24 Tryd.underlying24 info_sup rfl (by decide) (by decide) (.slice (some ⟨w.heap.size, 0, none⟩) 0 0) 0 [] rfl (ownsRow_empty w 33 3) (by simp [Value.ownBlock]) b off o.length cap (flat Sup.cells o) rfl HL.out (HR.out.news (by repeat (first | (with_reducible exact Below.refl _ _) | ((with_reducible refine alloc_ ?_ ?_); (focus (first | exact Nat.le_refl _ | (simp; done) | (simp; omega) | omega))) | ((with_reducible refine set_ ?_ ?_); (focus (first | exact Nat.le_refl _ | (simp; done) | (simp; omega) | omega))) | (with_reducible refine Below.drew ?_) | ((with_reducible refine after_ ?_ (by assumption) ?_); (rotate_left; (focus (first | exact Nat.le_refl _ | (simp; done) | (simp; omega) | omega)))))) (fun _ => rfl) (by decide)) (flat_cells (fun x u hu => by simp [Sup.cells] at hu; rcases hu with rfl | rfl | rfl <;> rfl) o) (by omega) (by simp) ?_; intro v w1 hown hb1 hk1)
  rw [List.nil_append] at hown
  obtain ⟨g, gc, rfl, hg, hcp, harr⟩ := ArrU.of_some hown (by omega) rfl hk1
  have HA := Lib.hid harr
  have HB := Lib.hid (show Below w.heap.size w w1 from (by repeat (first | (with_reducible exact Below.refl _ _) | ((with_reducible refine alloc_ ?_ ?_); (focus (first | exact Nat.le_refl _ | (simp; done) | (simp; omega) | omega))) | ((with_reducible refine set_ ?_ ?_); (focus (first | exact Nat.le_refl _ | (simp; done) | (simp; omega) | omega))) | (with_reducible refine Below.drew ?_) | ((with_reducible refine after_ ?_ (by assumption) ?_); (rotate_left; (focus (first | exact Nat.le_refl _ | (simp; done) | (simp; omega) | omega)))))))
  clear hown hb1 hk1 harr hnil
  go_wp2_with fail
  go_ret
  exact ⟨g, gc, rfl, hcp, hg, HA.out, HB.out⟩
end Go.Proofs.YtpchcblialkpcaaDoor
