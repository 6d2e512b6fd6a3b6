/- A region that draws its order, each operation shown once, some of whose edges bind one road of the compiler alone; no conditions but those that each statement names. -/
import Derived.Test.YtpchcblialkpcaaDoorRely
import Derived.Test.YtpchcblialkpcaaDoorSlice
namespace Go.Proofs.YtpchcblialkpcaaDoor
open Go.RowKit

/-- No guards, each slot written once, the edges that bind point back. -/
def relyC (ops : Array Oper) (n : Nat) : Bool := (List.range ops.size).all fun i => match ops[i]? with
  | none => true
  | some o => o.guard.isNone && (match o.dst with | none => true | some d => decide (d < n) && (List.range i).all fun j => decide ((ops[j]?).bind (·.dst) ≠ some d)) && o.after.all fun e => !Region.binds .any e || decide (e.on < i)
theorem relyC_spec {ops : Array Oper} {n : Nat} (h : relyC ops n = true) {i : Nat} {o : Oper} (hi : ops[i]? = some o) :
    o.guard = none ∧ (∀ d, o.dst = some d → d < n ∧ ∀ j, j < i → (ops[j]?).bind (·.dst) ≠ some d) ∧ ∀ e ∈ o.after, Region.binds .any e = true → e.on < i := by
  have hlt : i < ops.size := (Array.getElem?_eq_some_iff.1 hi).1
  have h1 := List.all_eq_true.1 h i (List.mem_range.2 hlt)
  simp only [hi, Bool.and_eq_true] at h1
  obtain ⟨⟨h1, h2⟩, h3⟩ := h1
  refine ⟨by simpa using h1, fun d hd => ?_, fun e he hb => ?_⟩
  · simp only [hd, Bool.and_eq_true, decide_eq_true_eq, List.all_eq_true, List.mem_range] at h2
    exact ⟨h2.1, h2.2⟩
  · have := (Array.all_eq_true_iff_forall_mem.1 h3) e he
    simpa [hb] using this
theorem rely_doneC {ops : Array Oper} {n : Nat} (hB : relyC ops n = true) {listed : Array Bool} (hs : listed.size = ops.size) (h : Region.ready .any ops listed = []) : ∀ i, i < ops.size → listed.getD i false = true := fun i => by
  induction i using Nat.strongRecOn with
  | ind i ih =>
    intro hi
    rcases hl : listed.getD i false with _ | _
    · have ho : ops[i]? = some ops[i] := Array.getElem?_eq_getElem hi
      obtain ⟨_, _, he⟩ := relyC_spec hB ho
      have hm : i ∈ Region.ready .any ops listed := mem_ready.2 ⟨by simpa [hs, hi] using hl, _, ho, fun e hem hb => ih e.on (he e hem hb) (by have := he e hem hb; omega)⟩
      rw [h] at hm; cases hm
    · rfl
section
variable {P : Program} {ops : Array Oper} {Q : Exit → Act → World → Prop} {a0 : Act} {V : Nat → Value → Prop} {J : Array Bool → Act → World → Prop}
structure RelyAtC (ops : Array Oper) (a0 : Act) (V : Nat → Value → Prop) (J : Array Bool → Act → World → Prop) (listed : Array Bool) (a : Act) (w : World) : Prop where
  hs : listed.size = ops.size
  sz : a.tmps.size = a0.tmps.size
  df : a.defers = a0.defers
  fr : ∀ t, Unwritten ops t → a.eval (.tmp t) = a0.eval (.tmp t)
  vs : ∀ (i : Nat) (o : Oper) (d : Nat), ops[i]? = some o → o.dst = some d → listed.getD i false = true → V i (a.eval (.tmp d))
  hj : J listed a w
/-- What an operation is shown to do. -/
def RelyOpC (P : Program) (ops : Array Oper) (Q : Exit → Act → World → Prop) (a0 : Act) (V : Nat → Value → Prop) (J : Array Bool → Act → World → Prop) (i : Nat) (o : Oper) : Prop :=
  ∀ (L : Array Bool) (a : Act) (w : World), L.size = ops.size → a.tmps.size = a0.tmps.size → L.getD i true = false → J L a w → (∀ t, Unwritten ops t → a.eval (.tmp t) = a0.eval (.tmp t)) → (∀ e ∈ o.after, Region.binds .any e = true → L.getD e.on false = true ∧ ∀ d, (ops[e.on]?).bind (·.dst) = some d → V e.on (a.eval (.tmp d))) →
    ∀ K : Act → World → Prop, (∀ v w', V i v → J (L.setIfInBounds i true) (a.put o.dst v) w' → K (a.put o.dst v) w') → o.wp P a w K Q
theorem relyC_step (hB : relyC ops a0.tmps.size = true) {listed : Array Bool} {a : Act} {w : World} (h : RelyAtC ops a0 V J listed a w) {i : Nat} (hi : i ∈ Region.ready .any ops listed)
    (hop : ∀ (i : Nat) (o : Oper), ops[i]? = some o → RelyOpC P ops Q a0 V J i o) : wpOp P ops Q i (RelyAtC ops a0 V J (listed.setIfInBounds i true)) a w := by
  obtain ⟨hl, o, ho, hdep⟩ := mem_ready.1 hi
  have hlt : i < ops.size := (Array.getElem?_eq_some_iff.1 ho).1
  obtain ⟨hg, hd, he⟩ := relyC_spec hB ho
  have hw : Region.wanted o (yielded ops a.tmps) = true := by simp [Region.wanted, hg]
  unfold wpOp
  simp only [ho, hw, if_true]
  refine .inl (hop i o ho listed a w h.hs h.sz hl h.hj h.fr (fun e hem hb => ?_) _ fun v w' hv hj => ?_)
  rotate_left
  · refine ⟨by simpa using h.hs, by rw [size_put]; exact h.sz, by rw [defers_put]; exact h.df, fun t ht => ?_, fun j oj d hj' hdj hlj => ?_, hj⟩
    · rw [eval_put_other (ht i o ho)]; exact h.fr t ht
    · by_cases e : j = i
      · subst e
        rw [ho] at hj'; cases hj'
        rw [hdj, eval_put_same (by rw [h.sz]; exact (hd d hdj).1)]
        exact hv
      · have hne : o.dst ≠ some d := fun hx => by
          rcases Nat.lt_or_gt_of_ne e with h1 | h1
          · exact (hd d hx).2 j h1 (by rw [hj']; exact hdj)
          · exact ((relyC_spec hB hj').2.1 d hdj).2 i h1 (by rw [ho]; exact hx)
        rw [eval_put_other hne]
        rw [getD_set_ne false (Ne.symm e)] at hlj
        exact h.vs j oj d hj' hdj hlj
  · refine ⟨hdep e hem hb, fun d hde => ?_⟩
    obtain ⟨oe, hoe, hde⟩ := Option.bind_eq_some_iff.1 hde
    exact h.vs _ oe d hoe hde (hdep e hem hb)
theorem wpAny_relyC (hB : relyC ops a0.tmps.size = true) (hop : ∀ (i : Nat) (o : Oper), ops[i]? = some o → RelyOpC P ops Q a0 V J i o)
    (hend : ∀ (L : Array Bool) (a : Act) (w : World), J L a w → (∀ i, i < ops.size → L.getD i false = true) → a.tmps.size = a0.tmps.size → a.defers = a0.defers → (∀ t, Unwritten ops t → a.eval (.tmp t) = a0.eval (.tmp t)) → (∀ (i : Nat) (o : Oper) (d : Nat), ops[i]? = some o → o.dst = some d → V i (a.eval (.tmp d))) → Q .normal a w) :
    ∀ (fuel : Nat) (listed : Array Bool) (a : Act) (w : World), unl listed ≤ fuel → RelyAtC ops a0 V J listed a w → wpAny P .any ops Q fuel listed a w := by
  have fin : ∀ (listed : Array Bool) (a : Act) (w : World), RelyAtC ops a0 V J listed a w → Region.ready .any ops listed = [] → Q .normal a w := fun listed a w h hr =>
    hend listed a w h.hj (rely_doneC hB h.hs hr) h.sz h.df h.fr fun i o d hi hd => h.vs i o d hi hd (rely_doneC hB h.hs hr i (Array.getElem?_eq_some_iff.1 hi).1)
  have none_of : ∀ (listed : Array Bool), unl listed = 0 → Region.ready .any ops listed = [] := fun listed h0 => by
    rcases hr : Region.ready .any ops listed with _ | ⟨i, rest⟩
    · rfl
    · have hm : i ∈ Region.ready .any ops listed := by rw [hr]; exact List.mem_cons_self
      have := unl_set (mem_ready.1 hm).1
      omega
  intro fuel
  induction fuel with
  | zero => exact fun listed a w hf h => ⟨none_of listed (by omega), fin listed a w h (none_of listed (by omega))⟩
  | succ fuel ih =>
    exact fun listed a w hf h => ⟨fin listed a w h, fun i hi => wpOp_mono (fun a' w' h' => ih _ a' w' (by have := unl_set (mem_ready.1 hi).1; omega) h') (relyC_step hB h hi hop)⟩
end
/-- The operations one by one. -/
def RelyAllC (P : Program) (ops : Array Oper) (Q : Exit → Act → World → Prop) (a0 : Act) (V : Nat → Value → Prop) (J : Array Bool → Act → World → Prop) : Nat → List Oper → Prop
  | _, [] => True
  | i, o :: l => RelyOpC P ops Q a0 V J i o ∧ RelyAllC P ops Q a0 V J (i + 1) l
theorem RelyAllC.at {P : Program} {ops : Array Oper} {Q : Exit → Act → World → Prop} {a0 : Act} {V : Nat → Value → Prop} {J : Array Bool → Act → World → Prop} : ∀ {l : List Oper} {k : Nat}, RelyAllC P ops Q a0 V J k l → ∀ (i : Nat) (o : Oper), l[i]? = some o → RelyOpC P ops Q a0 V J (k + i) o
  | [], _, _, i, o, h => by simp at h
  | x :: l, k, h, 0, o, hi => by
    simp only [List.getElem?_cons_zero, Option.some.injEq] at hi
    subst hi; exact h.1
  | x :: l, k, h, i + 1, o, hi => by
    have := RelyAllC.at h.2 i o (by simpa using hi)
    rwa [show k + 1 + i = k + (i + 1) by omega] at this
theorem relyC_dep {ops : Array Oper} {o : Oper} {V : Nat → Value → Prop} {L : Array Bool} {a : Act} (hd : ∀ e ∈ o.after, Region.binds .any e = true → L.getD e.on false = true ∧ ∀ d, (ops[e.on]?).bind (·.dst) = some d → V e.on (a.eval (.tmp d))) (j : Nat) (h : (o.after.any fun e => e.on == j && Region.binds .any e) = true) : L.getD j false = true ∧ ∀ d, (ops[j]?).bind (·.dst) = some d → V j (a.eval (.tmp d)) := by
  obtain ⟨e, he, hj⟩ : ∃ e ∈ o.after, (e.on == j && Region.binds .any e) = true := by
    obtain ⟨i, hi, hj⟩ := Array.any_eq_true.1 h
    exact ⟨_, Array.getElem_mem hi, hj⟩
  simp only [Bool.and_eq_true, beq_iff_eq] at hj
  obtain ⟨rfl, hb⟩ := hj
  exact hd e he hb
/-- The law: a region that draws its order, by what each operation gives, the frame in sight. -/
theorem wp_region_relyC {P : Program} {id : Nat} {Q : Exit → Act → World → Prop} {a0 : Act} {w0 : World} {l : List Oper} (V : Nat → Value → Prop) (J : Array Bool → Act → World → Prop) (hm : P.follows .mixedOrders = true) (hB : relyC l.toArray a0.tmps.size = true)
    (hJ : J (Array.replicate l.toArray.size false) a0 w0.drew) (hop : RelyAllC P l.toArray Q a0 V J 0 l)
    (hend : ∀ (L : Array Bool) (a : Act) (w : World), J L a w → (∀ i, i < l.toArray.size → L.getD i false = true) → a.tmps.size = a0.tmps.size → a.defers = a0.defers → (∀ t, Unwritten l.toArray t → a.eval (.tmp t) = a0.eval (.tmp t)) → (∀ (i : Nat) (o : Oper) (d : Nat), l.toArray[i]? = some o → o.dst = some d → V i (a.eval (.tmp d))) → Q .normal a w) :
    (Code.region id l.toArray true).wp P Q a0 w0 := by
  refine wp_region_any hm (wpAny_relyC hB (fun i o hi => by simpa using hop.at i o (by simpa using hi)) hend _ _ _ _ ?_ ⟨by simp, rfl, rfl, fun _ _ => rfl, fun i o d hi _ hl => ?_, hJ⟩)
  · unfold unl
    exact Nat.le_trans (List.length_filter_le _ _) (by simp)
  · have hlt : i < l.toArray.size := (Array.getElem?_eq_some_iff.1 hi).1
    simp only [Array.getD_eq_getD_getElem?, Array.getElem?_replicate] at hl
    split at hl <;> simp at hl
theorem false_of_trueC {L : Array Bool} {i : Nat} (h : L.getD i true = false) : i < L.size ∧ L.getD i false = false := by
  have hi : i < L.size := by
    rcases Nat.lt_or_ge i L.size with h' | h'
    · exact h'
    · simp [Array.getElem?_eq_none h'] at h
  exact ⟨hi, by simpa [hi] using h⟩
theorem getD_set_atC {L : Array Bool} {i : Nat} (h : i < L.size) : (L.setIfInBounds i true).getD i false = true := by
  simp [h]
/-- An exchange: two loads (operations A and B), then a store (C), then another (D): the world before, between and behind. -/
structure SwapJ (A B C D : Nat) (w0 w1 w2 : World) (L : Array Bool) (w : World) : Prop where
  first : L.getD C false = true → L.getD A false = true ∧ L.getD B false = true
  last : L.getD D false = true → L.getD C false = true
  now : w = if L.getD D false = true then w2 else if L.getD C false = true then w1 else w0
theorem SwapJ.start {A B C D k : Nat} {w0 w1 w2 : World} : SwapJ A B C D w0 w1 w2 (Array.replicate k false) w0 := by
  have h1 : ∀ i, (Array.replicate k false).getD i false = false := fun i => by
    simp only [Array.getD_eq_getD_getElem?, Array.getElem?_replicate]; split <;> rfl
  exact ⟨fun e => absurd ((h1 _).symm.trans e) (by decide), fun e => absurd ((h1 _).symm.trans e) (by decide), by rw [h1, h1]; rfl⟩
theorem SwapJ.put {A B C D i : Nat} {w0 w1 w2 w : World} {L : Array Bool} (h : SwapJ A B C D w0 w1 w2 L w) (hC : i ≠ C) (hD : i ≠ D) : SwapJ A B C D w0 w1 w2 (L.setIfInBounds i true) w := by
  have mono : ∀ j, L.getD j false = true → (L.setIfInBounds i true).getD j false = true := fun j hj => by
    by_cases e : i = j
    · subst e
      refine getD_set_atC ?_
      rcases Nat.lt_or_ge i L.size with h' | h'
      · exact h'
      · simp [Array.getElem?_eq_none h'] at hj
    · rw [getD_set_ne false e]; exact hj
  refine ⟨fun e => ?_, fun e => ?_, ?_⟩
  · rw [getD_set_ne false hC] at e
    exact ⟨mono _ (h.first e).1, mono _ (h.first e).2⟩
  · rw [getD_set_ne false hD] at e
    rw [getD_set_ne false hC]; exact h.last e
  · rw [getD_set_ne false hC, getD_set_ne false hD]; exact h.now
theorem SwapJ.none {A B C D : Nat} {w0 w1 w2 w : World} {L : Array Bool} (h : SwapJ A B C D w0 w1 w2 L w) (hl : L.getD A true = false ∨ L.getD B true = false ∨ L.getD C true = false) : w = w0 := by
  have hC : L.getD C false = false := by
    rcases e : L.getD C false with _ | _
    · rfl
    · rcases hl with hl | hl | hl
      · exact absurd (h.first e).1 (by simp [(false_of_trueC hl).2])
      · exact absurd (h.first e).2 (by simp [(false_of_trueC hl).2])
      · rw [(false_of_trueC hl).2] at e; cases e
  have hD : L.getD D false = false := by
    rcases e : L.getD D false with _ | _
    · rfl
    · rw [h.last e] at hC; cases hC
  rw [h.now, hC, hD]; rfl
theorem SwapJ.one {A B C D : Nat} {w0 w1 w2 w : World} {L : Array Bool} (h : SwapJ A B C D w0 w1 w2 L w) (hl : L.getD C true = false) (hA : L.getD A false = true) (hB : L.getD B false = true) (hCA : C ≠ A) (hCB : C ≠ B) (hCD : C ≠ D) : SwapJ A B C D w0 w1 w2 (L.setIfInBounds C true) w1 := by
  obtain ⟨hi, hf⟩ := false_of_trueC hl
  have hD : L.getD D false = false := by
    rcases e : L.getD D false with _ | _
    · rfl
    · rw [h.last e] at hf; cases hf
  refine ⟨fun _ => by rw [getD_set_ne false hCA, getD_set_ne false hCB]; exact ⟨hA, hB⟩, fun _ => getD_set_atC hi, ?_⟩
  rw [getD_set_ne false hCD, hD, getD_set_atC hi]; rfl
theorem SwapJ.mid {A B C D : Nat} {w0 w1 w2 w : World} {L : Array Bool} (h : SwapJ A B C D w0 w1 w2 L w) (hl : L.getD D true = false) (hC : L.getD C false = true) : w = w1 := by
  rw [h.now, (false_of_trueC hl).2, hC]; rfl
theorem SwapJ.two {A B C D : Nat} {w0 w1 w2 w : World} {L : Array Bool} (h : SwapJ A B C D w0 w1 w2 L w) (hl : L.getD D true = false) (hC : L.getD C false = true) (hDA : D ≠ A) (hDB : D ≠ B) (hDC : D ≠ C) : SwapJ A B C D w0 w1 w2 (L.setIfInBounds D true) w2 := by
  obtain ⟨hi, _⟩ := false_of_trueC hl
  refine ⟨fun _ => by rw [getD_set_ne false hDA, getD_set_ne false hDB]; exact h.first hC, fun _ => by rw [getD_set_ne false hDC]; exact hC, ?_⟩
  rw [getD_set_atC hi]; rfl
theorem SwapJ.done {A B C D k : Nat} {w0 w1 w2 w : World} {L : Array Bool} (h : SwapJ A B C D w0 w1 w2 L w) (hl : ∀ i, i < k → L.getD i false = true) (hD : D < k) : w = w2 := by
  rw [h.now, hl D hD]; rfl
end Go.Proofs.YtpchcblialkpcaaDoor
