/- A region that draws its order, each operation shown once: what an operation gives stays true behind all others; no conditions but those that each statement names. -/
import Derived.Test.YtpchcblialkpcaaDoorBase
namespace Go.Proofs.YtpchcblialkpcaaDoor
open Go.RowKit

/-- No guards, each slot written once, edges point back. -/
def relyB (ops : Array Oper) (n : Nat) : Bool := (List.range ops.size).all fun i => match ops[i]? with
  | none => true
  | some o => o.guard.isNone && (match o.dst with | none => true | some d => decide (d < n) && (List.range i).all fun j => decide ((ops[j]?).bind (·.dst) ≠ some d)) && o.after.all fun e => decide (e.on < i) && Region.binds .any e
theorem relyB_spec {ops : Array Oper} {n : Nat} (h : relyB ops n = true) {i : Nat} {o : Oper} (hi : ops[i]? = some o) :
    o.guard = none ∧ (∀ d, o.dst = some d → d < n ∧ ∀ j, j < i → (ops[j]?).bind (·.dst) ≠ some d) ∧ ∀ e ∈ o.after, e.on < i ∧ Region.binds .any e = true := by
  have hlt : i < ops.size := (Array.getElem?_eq_some_iff.1 hi).1
  have h1 := List.all_eq_true.1 h i (List.mem_range.2 hlt)
  simp only [hi, Bool.and_eq_true] at h1
  obtain ⟨⟨h1, h2⟩, h3⟩ := h1
  refine ⟨by simpa using h1, fun d hd => ?_, fun e he => ?_⟩
  · simp only [hd, Bool.and_eq_true, decide_eq_true_eq, List.all_eq_true, List.mem_range] at h2
    exact ⟨h2.1, h2.2⟩
  · have := (Array.all_eq_true_iff_forall_mem.1 h3) e he
    simpa using this
section
variable {P : Program} {ops : Array Oper} {Q : Exit → Act → World → Prop} {a0 : Act} {V : Nat → Value → World → Prop} {J : Array Bool → World → Prop} {R : World → World → Prop}
/-- Slots that the region does not write. -/
def Unwritten (ops : Array Oper) (t : Nat) : Prop := ∀ (i : Nat) (o : Oper), ops[i]? = some o → o.dst ≠ some t
structure RelyAt (ops : Array Oper) (a0 : Act) (V : Nat → Value → World → Prop) (J : Array Bool → World → Prop) (listed : Array Bool) (a : Act) (w : World) : Prop where
  hs : listed.size = ops.size
  sz : a.tmps.size = a0.tmps.size
  df : a.defers = a0.defers
  fr : ∀ t, Unwritten ops t → a.eval (.tmp t) = a0.eval (.tmp t)
  vs : ∀ (i : Nat) (o : Oper) (d : Nat), ops[i]? = some o → o.dst = some d → listed.getD i false = true → V i (a.eval (.tmp d)) w
  hj : J listed w
/-- What an operation is shown to do. -/
def RelyOp (P : Program) (ops : Array Oper) (Q : Exit → Act → World → Prop) (a0 : Act) (V : Nat → Value → World → Prop) (J : Array Bool → World → Prop) (R : World → World → Prop) (i : Nat) (o : Oper) : Prop :=
  ∀ (L : Array Bool) (a : Act) (w : World), L.size = ops.size → L.getD i true = false → J L w → (∀ t, Unwritten ops t → a.eval (.tmp t) = a0.eval (.tmp t)) → (∀ e ∈ o.after, ∀ d, (ops[e.on]?).bind (·.dst) = some d → V e.on (a.eval (.tmp d)) w) →
    ∀ K : Act → World → Prop, (∀ v w', V i v w' → J (L.setIfInBounds i true) w' → R w w' → K (a.put o.dst v) w') → o.wp P a w K Q
theorem eval_put_same {a : Act} {d : Nat} {v : Value} (h : d < a.tmps.size) : (a.put (some d) v).eval (.tmp d) = v := by
  simp [Act.eval, Act.put, h]
theorem eval_put_other {a : Act} {x : Option Tmp} {t : Nat} {v : Value} (h : x ≠ some t) : (a.put x v).eval (.tmp t) = a.eval (.tmp t) := by
  cases x with
  | none => rfl
  | some d =>
    have hne : d ≠ t := fun e => h (by rw [e])
    simp [Act.eval, Act.put, Array.getElem?_setIfInBounds_ne hne]
theorem size_put {a : Act} {x : Option Tmp} {v : Value} : (a.put x v).tmps.size = a.tmps.size := by cases x <;> simp [Act.put]
theorem defers_put {a : Act} {x : Option Tmp} {v : Value} : (a.put x v).defers = a.defers := by cases x <;> simp [Act.put]
theorem rely_step (hB : relyB ops a0.tmps.size = true) (hV : ∀ i v w w', V i v w → R w w' → V i v w') {listed : Array Bool} {a : Act} {w : World} (h : RelyAt ops a0 V J listed a w) {i : Nat} (hi : i ∈ Region.ready .any ops listed)
    (hop : ∀ (i : Nat) (o : Oper), ops[i]? = some o → RelyOp P ops Q a0 V J R i o) : wpOp P ops Q i (RelyAt ops a0 V J (listed.setIfInBounds i true)) a w := by
  obtain ⟨hl, o, ho, hdep⟩ := mem_ready.1 hi
  have hlt : i < ops.size := (Array.getElem?_eq_some_iff.1 ho).1
  obtain ⟨hg, hd, he⟩ := relyB_spec hB ho
  have hw : Region.wanted o (yielded ops a.tmps) = true := by simp [Region.wanted, hg]
  unfold wpOp
  simp only [ho, hw, if_true]
  refine .inl (hop i o ho listed a w h.hs hl h.hj h.fr (fun e hem d hde => ?_) _ fun v w' hv hj hr => ?_)
  rotate_left
  · refine ⟨by simpa using h.hs, by rw [size_put]; exact h.sz, by rw [defers_put]; exact h.df, fun t ht => ?_, fun j oj d hj' hdj hlj => ?_, hj⟩
    · rw [eval_put_other (ht i o ho)]; exact h.fr t ht
    · by_cases e : j = i
      · subst e
        rw [ho] at hj'; cases hj'
        rw [hdj, eval_put_same (by rw [h.sz]; exact (hd d hdj).1)]
        exact hv
      · have hne : o.dst ≠ some d := fun hx => by
          rcases Nat.lt_or_gt_of_ne e with h1 | h1
          · exact (hd d hx).2 j h1 (by rw [hj']; exact hdj)
          · exact ((relyB_spec hB hj').2.1 d hdj).2 i h1 (by rw [ho]; exact hx)
        rw [eval_put_other hne]
        rw [getD_set_ne false (Ne.symm e)] at hlj
        exact hV _ _ _ _ (h.vs j oj d hj' hdj hlj) hr
  · obtain ⟨oe, hoe, hde⟩ := Option.bind_eq_some_iff.1 hde
    by_cases hb : Region.binds .any e = true
    · exact h.vs _ oe d hoe hde (hdep e hem hb)
    · exact absurd (he e hem).2 hb
theorem rely_done (hB : relyB ops a0.tmps.size = true) {listed : Array Bool} (hs : listed.size = ops.size) (h : Region.ready .any ops listed = []) : ∀ i, i < ops.size → listed.getD i false = true := fun i => by
  induction i using Nat.strongRecOn with
  | ind i ih =>
    intro hi
    rcases hl : listed.getD i false with _ | _
    · have ho : ops[i]? = some ops[i] := Array.getElem?_eq_getElem hi
      obtain ⟨_, _, he⟩ := relyB_spec hB ho
      have hm : i ∈ Region.ready .any ops listed := mem_ready.2 ⟨by simpa [hs, hi] using hl, _, ho, fun e hem _ => ih e.on (he e hem).1 (by have := (he e hem).1; omega)⟩
      rw [h] at hm; cases hm
    · rfl
def unl (listed : Array Bool) : Nat := (listed.toList.filter fun b => !b).length
theorem unl_set {listed : Array Bool} {i : Nat} (h : listed.getD i true = false) : unl (listed.setIfInBounds i true) + 1 = unl listed := by
  have hi : i < listed.size := by
    rcases Nat.lt_or_ge i listed.size with h' | h'
    · exact h'
    · simp [Array.getElem?_eq_none h'] at h
  have hv : listed.toList[i]? = some false := by simp [hi] at h ⊢; exact h
  unfold unl
  simp only [Array.toList_setIfInBounds]
  clear h hi
  generalize listed.toList = L at hv
  induction L generalizing i with
  | nil => simp at hv
  | cons b L ih =>
    cases i with
    | zero => simp at hv; subst hv; simp
    | succ i => 
      have := ih (i := i) (by simpa using hv)
      simp only [List.set_cons_succ, List.filter_cons]
      cases b <;> simp <;> omega
theorem wpAny_rely (hB : relyB ops a0.tmps.size = true) (hV : ∀ i v w w', V i v w → R w w' → V i v w') (hop : ∀ (i : Nat) (o : Oper), ops[i]? = some o → RelyOp P ops Q a0 V J R i o)
    (hend : ∀ (L : Array Bool) (a : Act) (w : World), J L w → (∀ i, i < ops.size → L.getD i false = true) → a.tmps.size = a0.tmps.size → a.defers = a0.defers → (∀ t, Unwritten ops t → a.eval (.tmp t) = a0.eval (.tmp t)) → (∀ (i : Nat) (o : Oper) (d : Nat), ops[i]? = some o → o.dst = some d → V i (a.eval (.tmp d)) w) → Q .normal a w) :
    ∀ (fuel : Nat) (listed : Array Bool) (a : Act) (w : World), unl listed ≤ fuel → RelyAt ops a0 V J listed a w → wpAny P .any ops Q fuel listed a w := by
  have fin : ∀ (listed : Array Bool) (a : Act) (w : World), RelyAt ops a0 V J listed a w → Region.ready .any ops listed = [] → Q .normal a w := fun listed a w h hr =>
    hend listed a w h.hj (rely_done hB h.hs hr) h.sz h.df h.fr fun i o d hi hd => h.vs i o d hi hd (rely_done hB h.hs hr i (Array.getElem?_eq_some_iff.1 hi).1)
  have none_of : ∀ (listed : Array Bool), unl listed = 0 → Region.ready .any ops listed = [] := fun listed h0 => by
    rcases hr : Region.ready .any ops listed with _ | ⟨i, rest⟩
    · rfl
    · have hm : i ∈ Region.ready .any ops listed := by rw [hr]; exact List.mem_cons_self
      have := unl_set (mem_ready.1 hm).1
      omega
  intro fuel
  induction fuel with
  | zero => exact fun listed a w hf h => ⟨none_of listed (by omega), fin listed a w h (none_of listed (by omega))⟩
  | succ fuel ih =>
    exact fun listed a w hf h => ⟨fin listed a w h, fun i hi => wpOp_mono (fun a' w' h' => ih _ a' w' (by have := unl_set (mem_ready.1 hi).1; omega) h') (rely_step hB hV h hi hop)⟩
end
/-- The operations one by one. -/
def RelyAll (P : Program) (ops : Array Oper) (Q : Exit → Act → World → Prop) (a0 : Act) (V : Nat → Value → World → Prop) (J : Array Bool → World → Prop) (R : World → World → Prop) : Nat → List Oper → Prop
  | _, [] => True
  | i, o :: l => RelyOp P ops Q a0 V J R i o ∧ RelyAll P ops Q a0 V J R (i + 1) l
theorem RelyAll.at {P : Program} {ops : Array Oper} {Q : Exit → Act → World → Prop} {a0 : Act} {V : Nat → Value → World → Prop} {J : Array Bool → World → Prop} {R : World → World → Prop} : ∀ {l : List Oper} {k : Nat}, RelyAll P ops Q a0 V J R k l → ∀ (i : Nat) (o : Oper), l[i]? = some o → RelyOp P ops Q a0 V J R (k + i) o
  | [], _, _, i, o, h => by simp at h
  | x :: l, k, h, 0, o, hi => by
    simp only [List.getElem?_cons_zero, Option.some.injEq] at hi
    subst hi; exact h.1
  | x :: l, k, h, i + 1, o, hi => by
    have := RelyAll.at h.2 i o (by simpa using hi)
    rwa [show k + 1 + i = k + (i + 1) by omega] at this
theorem rely_dep {ops : Array Oper} {o : Oper} {V : Nat → Value → World → Prop} {a : Act} {w : World} (hd : ∀ e ∈ o.after, ∀ d, (ops[e.on]?).bind (·.dst) = some d → V e.on (a.eval (.tmp d)) w) (j d : Nat) (h : (o.after.any fun e => e.on == j) = true) (h2 : (ops[j]?).bind (·.dst) = some d) : V j (a.eval (.tmp d)) w := by
  obtain ⟨e, he, hj⟩ : ∃ e ∈ o.after, (e.on == j) = true := by
    obtain ⟨i, hi, hj⟩ := Array.any_eq_true.1 h
    exact ⟨_, Array.getElem_mem hi, hj⟩
  have hj' : e.on = j := by simpa using hj
  subst hj'
  exact hd e he d h2
theorem unwritten_of {ops : Array Oper} {t : Nat} (h : (ops.all fun o => decide (o.dst ≠ some t)) = true) : Unwritten ops t := fun i o hi => by
  have := (Array.all_eq_true_iff_forall_mem.1 h) o (Array.mem_of_getElem? hi)
  simpa using this
/-- The law: a region that draws its order, by what each operation gives. -/
theorem wp_region_rely {P : Program} {id : Nat} {Q : Exit → Act → World → Prop} {a0 : Act} {w0 : World} {l : List Oper} (V : Nat → Value → World → Prop) (J : Array Bool → World → Prop) (R : World → World → Prop) (hm : P.follows .mixedOrders = true) (hB : relyB l.toArray a0.tmps.size = true)
    (hJ : J (Array.replicate l.toArray.size false) w0.drew) (hV : ∀ i v w w', V i v w → R w w' → V i v w') (hop : RelyAll P l.toArray Q a0 V J R 0 l)
    (hend : ∀ (L : Array Bool) (a : Act) (w : World), J L w → (∀ i, i < l.toArray.size → L.getD i false = true) → a.tmps.size = a0.tmps.size → a.defers = a0.defers → (∀ t, Unwritten l.toArray t → a.eval (.tmp t) = a0.eval (.tmp t)) → (∀ (i : Nat) (o : Oper) (d : Nat), l.toArray[i]? = some o → o.dst = some d → V i (a.eval (.tmp d)) w) → Q .normal a w) :
    (Code.region id l.toArray true).wp P Q a0 w0 := by
  refine wp_region_any hm (wpAny_rely hB hV (fun i o hi => by simpa using hop.at i o (by simpa using hi)) hend _ _ _ _ ?_ ⟨by simp, rfl, rfl, fun _ _ => rfl, fun i o d hi _ hl => ?_, hJ⟩)
  · unfold unl
    exact Nat.le_trans (List.length_filter_le _ _) (by simp)
  · have hlt : i < l.toArray.size := (Array.getElem?_eq_some_iff.1 hi).1
    simp only [Array.getD_eq_getD_getElem?, Array.getElem?_replicate] at hl
    split at hl <;> simp at hl
end Go.Proofs.YtpchcblialkpcaaDoor
