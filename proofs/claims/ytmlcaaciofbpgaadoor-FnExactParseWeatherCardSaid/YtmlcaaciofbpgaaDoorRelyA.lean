/- A region that draws its order, each operation shown once: what the world keeps may speak of the frame; no conditions but those that each statement names. -/
import Derived.Test.YtmlcaaciofbpgaaDoorRely
import Derived.Test.YtmlcaaciofbpgaaDoorSlice
namespace Go.Proofs.YtmlcaaciofbpgaaDoor
open Go.RowKit

section
variable {P : Program} {ops : Array Oper} {Q : Exit → Act → World → Prop} {a0 : Act} {V : Nat → Value → Prop} {J : Array Bool → Act → World → Prop}
structure RelyAtA (ops : Array Oper) (a0 : Act) (V : Nat → Value → Prop) (J : Array Bool → Act → World → Prop) (listed : Array Bool) (a : Act) (w : World) : Prop where
  hs : listed.size = ops.size
  sz : a.tmps.size = a0.tmps.size
  df : a.defers = a0.defers
  fr : ∀ t, Unwritten ops t → a.eval (.tmp t) = a0.eval (.tmp t)
  vs : ∀ (i : Nat) (o : Oper) (d : Nat), ops[i]? = some o → o.dst = some d → listed.getD i false = true → V i (a.eval (.tmp d))
  hj : J listed a w
/-- What an operation is shown to do. -/
def RelyOpA (P : Program) (ops : Array Oper) (Q : Exit → Act → World → Prop) (a0 : Act) (V : Nat → Value → Prop) (J : Array Bool → Act → World → Prop) (i : Nat) (o : Oper) : Prop :=
  ∀ (L : Array Bool) (a : Act) (w : World), L.size = ops.size → a.tmps.size = a0.tmps.size → L.getD i true = false → J L a w → (∀ t, Unwritten ops t → a.eval (.tmp t) = a0.eval (.tmp t)) → (∀ e ∈ o.after, L.getD e.on false = true ∧ ∀ d, (ops[e.on]?).bind (·.dst) = some d → V e.on (a.eval (.tmp d))) →
    ∀ K : Act → World → Prop, (∀ v w', V i v → J (L.setIfInBounds i true) (a.put o.dst v) w' → K (a.put o.dst v) w') → o.wp P a w K Q
theorem relyA_step (hB : relyB ops a0.tmps.size = true) {listed : Array Bool} {a : Act} {w : World} (h : RelyAtA ops a0 V J listed a w) {i : Nat} (hi : i ∈ Region.ready .any ops listed)
    (hop : ∀ (i : Nat) (o : Oper), ops[i]? = some o → RelyOpA P ops Q a0 V J i o) : wpOp P ops Q i (RelyAtA ops a0 V J (listed.setIfInBounds i true)) a w := by
  obtain ⟨hl, o, ho, hdep⟩ := mem_ready.1 hi
  have hlt : i < ops.size := (Array.getElem?_eq_some_iff.1 ho).1
  obtain ⟨hg, hd, he⟩ := relyB_spec hB ho
  have hw : Region.wanted o (yielded ops a.tmps) = true := by simp [Region.wanted, hg]
  unfold wpOp
  simp only [ho, hw, if_true]
  refine .inl (hop i o ho listed a w h.hs h.sz hl h.hj h.fr (fun e hem => ?_) _ fun v w' hv hj => ?_)
  rotate_left
  · refine ⟨by simpa using h.hs, by rw [size_put]; exact h.sz, by rw [defers_put]; exact h.df, fun t ht => ?_, fun j oj d hj' hdj hlj => ?_, hj⟩
    · rw [eval_put_other (ht i o ho)]; exact h.fr t ht
    · by_cases e : j = i
      · subst e
        rw [ho] at hj'; cases hj'
        rw [hdj, eval_put_same (by rw [h.sz]; exact (hd d hdj).1)]
        exact hv
      · have hne : o.dst ≠ some d := fun hx => by
          rcases Nat.lt_or_gt_of_ne e with h1 | h1
          · exact (hd d hx).2 j h1 (by rw [hj']; exact hdj)
          · exact ((relyB_spec hB hj').2.1 d hdj).2 i h1 (by rw [ho]; exact hx)
        rw [eval_put_other hne]
        rw [getD_set_ne false (Ne.symm e)] at hlj
        exact h.vs j oj d hj' hdj hlj
  · have hb : Region.binds .any e = true := (he e hem).2
    refine ⟨hdep e hem hb, fun d hde => ?_⟩
    obtain ⟨oe, hoe, hde⟩ := Option.bind_eq_some_iff.1 hde
    exact h.vs _ oe d hoe hde (hdep e hem hb)
theorem wpAny_relyA (hB : relyB ops a0.tmps.size = true) (hop : ∀ (i : Nat) (o : Oper), ops[i]? = some o → RelyOpA P ops Q a0 V J i o)
    (hend : ∀ (L : Array Bool) (a : Act) (w : World), J L a w → (∀ i, i < ops.size → L.getD i false = true) → a.tmps.size = a0.tmps.size → a.defers = a0.defers → (∀ t, Unwritten ops t → a.eval (.tmp t) = a0.eval (.tmp t)) → (∀ (i : Nat) (o : Oper) (d : Nat), ops[i]? = some o → o.dst = some d → V i (a.eval (.tmp d))) → Q .normal a w) :
    ∀ (fuel : Nat) (listed : Array Bool) (a : Act) (w : World), unl listed ≤ fuel → RelyAtA ops a0 V J listed a w → wpAny P .any ops Q fuel listed a w := by
  have fin : ∀ (listed : Array Bool) (a : Act) (w : World), RelyAtA ops a0 V J listed a w → Region.ready .any ops listed = [] → Q .normal a w := fun listed a w h hr =>
    hend listed a w h.hj (rely_done hB h.hs hr) h.sz h.df h.fr fun i o d hi hd => h.vs i o d hi hd (rely_done hB h.hs hr i (Array.getElem?_eq_some_iff.1 hi).1)
  have none_of : ∀ (listed : Array Bool), unl listed = 0 → Region.ready .any ops listed = [] := fun listed h0 => by
    rcases hr : Region.ready .any ops listed with _ | ⟨i, rest⟩
    · rfl
    · have hm : i ∈ Region.ready .any ops listed := by rw [hr]; exact List.mem_cons_self
      have := unl_set (mem_ready.1 hm).1
      omega
  intro fuel
  induction fuel with
  | zero => exact fun listed a w hf h => ⟨none_of listed (by omega), fin listed a w h (none_of listed (by omega))⟩
  | succ fuel ih =>
    exact fun listed a w hf h => ⟨fin listed a w h, fun i hi => wpOp_mono (fun a' w' h' => ih _ a' w' (by have := unl_set (mem_ready.1 hi).1; omega) h') (relyA_step hB h hi hop)⟩
end
/-- The operations one by one. -/
def RelyAllA (P : Program) (ops : Array Oper) (Q : Exit → Act → World → Prop) (a0 : Act) (V : Nat → Value → Prop) (J : Array Bool → Act → World → Prop) : Nat → List Oper → Prop
  | _, [] => True
  | i, o :: l => RelyOpA P ops Q a0 V J i o ∧ RelyAllA P ops Q a0 V J (i + 1) l
theorem RelyAllA.at {P : Program} {ops : Array Oper} {Q : Exit → Act → World → Prop} {a0 : Act} {V : Nat → Value → Prop} {J : Array Bool → Act → World → Prop} : ∀ {l : List Oper} {k : Nat}, RelyAllA P ops Q a0 V J k l → ∀ (i : Nat) (o : Oper), l[i]? = some o → RelyOpA P ops Q a0 V J (k + i) o
  | [], _, _, i, o, h => by simp at h
  | x :: l, k, h, 0, o, hi => by
    simp only [List.getElem?_cons_zero, Option.some.injEq] at hi
    subst hi; exact h.1
  | x :: l, k, h, i + 1, o, hi => by
    have := RelyAllA.at h.2 i o (by simpa using hi)
    rwa [show k + 1 + i = k + (i + 1) by omega] at this
theorem relyA_dep {ops : Array Oper} {o : Oper} {V : Nat → Value → Prop} {L : Array Bool} {a : Act} (hd : ∀ e ∈ o.after, L.getD e.on false = true ∧ ∀ d, (ops[e.on]?).bind (·.dst) = some d → V e.on (a.eval (.tmp d))) (j : Nat) (h : (o.after.any fun e => e.on == j) = true) : L.getD j false = true ∧ ∀ d, (ops[j]?).bind (·.dst) = some d → V j (a.eval (.tmp d)) := by
  obtain ⟨e, he, hj⟩ : ∃ e ∈ o.after, (e.on == j) = true := by
    obtain ⟨i, hi, hj⟩ := Array.any_eq_true.1 h
    exact ⟨_, Array.getElem_mem hi, hj⟩
  have hj' : e.on = j := by simpa using hj
  subst hj'
  exact hd e he
/-- The law: a region that draws its order, by what each operation gives, the frame in sight. -/
theorem wp_region_relyA {P : Program} {id : Nat} {Q : Exit → Act → World → Prop} {a0 : Act} {w0 : World} {l : List Oper} (V : Nat → Value → Prop) (J : Array Bool → Act → World → Prop) (hm : P.follows .mixedOrders = true) (hB : relyB l.toArray a0.tmps.size = true)
    (hJ : J (Array.replicate l.toArray.size false) a0 w0.drew) (hop : RelyAllA P l.toArray Q a0 V J 0 l)
    (hend : ∀ (L : Array Bool) (a : Act) (w : World), J L a w → (∀ i, i < l.toArray.size → L.getD i false = true) → a.tmps.size = a0.tmps.size → a.defers = a0.defers → (∀ t, Unwritten l.toArray t → a.eval (.tmp t) = a0.eval (.tmp t)) → (∀ (i : Nat) (o : Oper) (d : Nat), l.toArray[i]? = some o → o.dst = some d → V i (a.eval (.tmp d))) → Q .normal a w) :
    (Code.region id l.toArray true).wp P Q a0 w0 := by
  refine wp_region_any hm (wpAny_relyA hB (fun i o hi => by simpa using hop.at i o (by simpa using hi)) hend _ _ _ _ ?_ ⟨by simp, rfl, rfl, fun _ _ => rfl, fun i o d hi _ hl => ?_, hJ⟩)
  · unfold unl
    exact Nat.le_trans (List.length_filter_le _ _) (by simp)
  · have hlt : i < l.toArray.size := (Array.getElem?_eq_some_iff.1 hi).1
    simp only [Array.getD_eq_getD_getElem?, Array.getElem?_replicate] at hl
    split at hl <;> simp at hl
/-- A block that is made in slot D by operation A and filled by operation B. -/
def MadeJ (w0 : World) (T : TypeId) (n : Nat) (us vs : List Value) (D A B : Nat) (L : Array Bool) (a : Act) (w : World) : Prop :=
  Below w0.heap.size w0 w ∧ (L.getD B false = true → L.getD A false = true) ∧ (L.getD A false = true → ∃ g, a.eval (.tmp D) = .pointer (some ⟨g, 0, none⟩) ∧ w0.heap.size ≤ g ∧ Box w g T n (if L.getD B false = true then vs else us))
theorem MadeJ.start {w0 w : World} {T : TypeId} {n : Nat} {us vs : List Value} {D A B k : Nat} {a : Act} (h : Below w0.heap.size w0 w) : MadeJ w0 T n us vs D A B (Array.replicate k false) a w := by
  have h1 : ∀ i, (Array.replicate k false).getD i false = false := fun i => by
    simp only [Array.getD_eq_getD_getElem?, Array.getElem?_replicate]; split <;> rfl
  exact ⟨h, fun e => by rw [h1] at e; simp at e, fun e => by rw [h1] at e; simp at e⟩
theorem MadeJ.put {w0 w w' : World} {T : TypeId} {n : Nat} {us vs : List Value} {D A B i : Nat} {L : Array Bool} {a : Act} {d : Option Tmp} {v : Value} (h : MadeJ w0 T n us vs D A B L a w) (hA : i ≠ A) (hB : i ≠ B) (hd : d ≠ some D) (hb : Below w.heap.size w w') : MadeJ w0 T n us vs D A B (L.setIfInBounds i true) (a.put d v) w' := by
  obtain ⟨h1, h2, h3⟩ := h
  refine ⟨h1.trans (hb.mono h1.size), ?_, ?_⟩
  · rw [getD_set_ne false hA, getD_set_ne false hB]; exact h2
  · rw [getD_set_ne false hA, getD_set_ne false hB, eval_put_other hd]
    intro e
    obtain ⟨g, e1, e2, e3⟩ := h3 e
    exact ⟨g, e1, e2, e3.carry hb⟩
theorem false_of_true {L : Array Bool} {i : Nat} (h : L.getD i true = false) : i < L.size ∧ L.getD i false = false := by
  have hi : i < L.size := by
    rcases Nat.lt_or_ge i L.size with h' | h'
    · exact h'
    · simp [Array.getElem?_eq_none h'] at h
  exact ⟨hi, by simpa [hi] using h⟩
theorem getD_set_at {L : Array Bool} {i : Nat} (h : i < L.size) : (L.setIfInBounds i true).getD i false = true := by
  simp [h]
theorem MadeJ.made {w0 w : World} {T : TypeId} {n : Nat} {us vs : List Value} {D A B : Nat} {L : Array Bool} {a : Act} (h : MadeJ w0 T n us vs D A B L a w) (hAB : A ≠ B) (hl : L.getD A true = false) (hD : D < a.tmps.size) (hn : us.length = n) : MadeJ w0 T n us vs D A B (L.setIfInBounds A true) (a.put (some D) (.pointer (some ⟨w.heap.size, 0, none⟩))) (w.alloc (.cells us.toArray T)) := by
  obtain ⟨h1, h2, _⟩ := h
  obtain ⟨hi, hf⟩ := false_of_true hl
  have hb : L.getD B false = false := by
    cases e : L.getD B false with
    | false => rfl
    | true => rw [h2 e] at hf; cases hf
  refine ⟨h1.alloc h1.size _, fun _ => getD_set_at hi, fun _ => ⟨w.heap.size, eval_put_same hD, h1.size, ?_⟩⟩
  rw [getD_set_ne false hAB, hb]
  subst hn
  exact Box.new w us T
theorem MadeJ.at {w0 w : World} {T : TypeId} {n : Nat} {us vs : List Value} {D A B : Nat} {L : Array Bool} {a : Act} (h : MadeJ w0 T n us vs D A B L a w) (hl : L.getD B true = false) (hA : L.getD A false = true) : ∃ g, a.eval (.tmp D) = .pointer (some ⟨g, 0, none⟩) ∧ w0.heap.size ≤ g ∧ Box w g T n us := by
  obtain ⟨g, e1, e2, e3⟩ := h.2.2 hA
  rw [(false_of_true hl).2] at e3
  exact ⟨g, e1, e2, e3⟩
theorem MadeJ.stored {w0 w w' : World} {T : TypeId} {n : Nat} {us vs : List Value} {D A B g : Nat} {L : Array Bool} {a : Act} {d : Option Tmp} {v : Value} (h : MadeJ w0 T n us vs D A B L a w) (hAB : B ≠ A) (hl : L.getD B true = false) (hA : L.getD A false = true) (hd : d ≠ some D) (hg : a.eval (.tmp D) = .pointer (some ⟨g, 0, none⟩)) (h0 : w0.heap.size ≤ g) (hb : Below w0.heap.size w0 w') (hx : Box w' g T n vs) : MadeJ w0 T n us vs D A B (L.setIfInBounds B true) (a.put d v) w' := by
  have hi := (false_of_true hl).1
  refine ⟨hb, fun _ => by rw [getD_set_ne false hAB]; exact hA, fun _ => ⟨g, by rw [eval_put_other hd]; exact hg, h0, ?_⟩⟩
  rw [getD_set_at hi]
  exact hx
theorem MadeJ.done {w0 w : World} {T : TypeId} {n : Nat} {us vs : List Value} {D A B k : Nat} {L : Array Bool} {a : Act} (h : MadeJ w0 T n us vs D A B L a w) (hl : ∀ i, i < k → L.getD i false = true) (hA : A < k) (hB : B < k) : ∃ g, a.eval (.tmp D) = .pointer (some ⟨g, 0, none⟩) ∧ w0.heap.size ≤ g ∧ Box w g T n vs ∧ Below w0.heap.size w0 w := by
  obtain ⟨g, e1, e2, e3⟩ := h.2.2 (hl A hA)
  rw [hl B hB] at e3
  exact ⟨g, e1, e2, e3, h.1⟩
end Go.Proofs.YtmlcaaciofbpgaaDoor
