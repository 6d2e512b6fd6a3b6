/- Passes over the edges of a net come to one end, in whatever order they go; no conditions beyond those of each statement. -/
import Derived.Below
namespace Go.Proofs.Ytddnemmdlijgiaa
/-- Edges: from u, to v, open up to p, arriving at q. -/
structure Net where
  n : Nat
  m : Nat
  u : Nat → Nat
  v : Nat → Nat
  p : Nat → Int
  q : Nat → Int
structure Net.Ok (N : Net) : Prop where
  un : ∀ i, i < N.m → N.u i < N.n
  vn : ∀ i, i < N.m → N.v i < N.n
  pq : ∀ i, i < N.m → N.p i < N.q i
def Stable (N : Net) (F : Nat → Int) : Prop := ∀ i, i < N.m → F (N.u i) ≤ N.p i → F (N.v i) ≤ N.q i
def Based (N : Net) (o F : Nat → Int) : Prop := ∀ s, s < N.n → F s = o s ∨ ∃ i, i < N.m ∧ N.v i = s ∧ F (N.u i) ≤ N.p i ∧ F s = N.q i
/-- One pass. -/
structure Pass (N : Net) (o o' : Nat → Int) : Prop where
  le : ∀ s, s < N.n → o' s ≤ o s
  hit : ∀ i, i < N.m → o (N.u i) ≤ N.p i → o' (N.v i) ≤ N.q i
  ge : ∀ F, Stable N F → (∀ s, s < N.n → F s ≤ o s) → ∀ s, s < N.n → F s ≤ o' s
theorem count_lt {α : Type} {p q : α → Bool} : ∀ {l : List α}, (∀ x, p x = true → q x = true) → ∀ {x}, x ∈ l → q x = true → p x = false → l.countP p < l.countP q
  | [], _, x, hx, _, _ => absurd hx (by simp)
  | y :: l, h, x, hx, h1, h2 => by
    have hle : l.countP p ≤ l.countP q := List.countP_mono_left (fun x _ hp => h x hp)
    rw [List.countP_cons, List.countP_cons]
    rcases List.mem_cons.1 hx with rfl | hx
    · rw [h1, h2]; simp; omega
    · have ih := count_lt h hx h1 h2
      have : (if p y = true then 1 else 0) ≤ (if q y = true then 1 else 0) := by
        by_cases hp : p y = true
        · simp [hp, h y hp]
        · simp [hp]
      omega
section
variable {N : Net} {F : Nat → Int} {o : Nat → Nat → Int}
theorem lower (hs : Stable N F) (h0 : ∀ s, s < N.n → F s ≤ o 0 s) (hp : ∀ k, Pass N (o k) (o (k + 1))) : ∀ k s, s < N.n → F s ≤ o k s
  | 0 => h0
  | k + 1 => (hp k).ge F hs (lower hs h0 hp k)
theorem nodes (ok : N.Ok) (hs : Stable N F) (hb : Based N (o 0) F) (hp : ∀ k, Pass N (o k) (o (k + 1))) : ∀ k s, s < N.n → (List.range N.n).countP (fun t => decide (F t < F s)) ≤ k → o k s ≤ F s
  | 0, s, hsn, hc => by
    rcases hb s hsn with h | ⟨i, hi, hv, hu, hq⟩
    · omega
    · have h1 := ok.pq i hi
      have : 0 < (List.range N.n).countP (fun t => decide (F t < F s)) := List.countP_pos_iff.2 ⟨N.u i, by simpa using ok.un i hi, by simp; omega⟩
      omega
  | k + 1, s, hsn, hc => by
    rcases hb s hsn with h | ⟨i, hi, hv, hu, hq⟩
    · have : ∀ k, o k s ≤ o 0 s := fun k => by
        induction k with
        | zero => omega
        | succ k ih => have := (hp k).le s hsn; omega
      have := this (k + 1); omega
    · have h1 := ok.pq i hi
      have hlt : (List.range N.n).countP (fun t => decide (F t < F (N.u i))) < (List.range N.n).countP (fun t => decide (F t < F s)) :=
        count_lt (fun x hx => by simp at hx ⊢; omega) (show N.u i ∈ List.range N.n by simpa using ok.un i hi) (by simp; omega) (by simp)
      have ih := nodes ok hs hb hp k (N.u i) (ok.un i hi) (by omega)
      have := (hp k).hit i hi (by omega)
      rw [hv] at this
      omega
theorem edges (ok : N.Ok) (hb : Based N (o 0) F) (hp : ∀ k, Pass N (o k) (o (k + 1))) : ∀ k s, s < N.n → (List.range N.m).countP (fun j => decide (N.q j ≤ F s)) ≤ k → o k s ≤ F s
  | 0, s, hsn, hc => by
    rcases hb s hsn with h | ⟨i, hi, hv, hu, hq⟩
    · omega
    · have : 0 < (List.range N.m).countP (fun j => decide (N.q j ≤ F s)) := List.countP_pos_iff.2 ⟨i, by simpa using hi, by simp; omega⟩
      omega
  | k + 1, s, hsn, hc => by
    rcases hb s hsn with h | ⟨i, hi, hv, hu, hq⟩
    · have : ∀ k, o k s ≤ o 0 s := fun k => by
        induction k with
        | zero => omega
        | succ k ih => have := (hp k).le s hsn; omega
      have := this (k + 1); omega
    · have h1 := ok.pq i hi
      have hlt : (List.range N.m).countP (fun j => decide (N.q j ≤ F (N.u i))) < (List.range N.m).countP (fun j => decide (N.q j ≤ F s)) :=
        count_lt (fun x hx => by simp at hx ⊢; omega) (show i ∈ List.range N.m by simpa using hi) (by simp; omega) (by simp; omega)
      have ih := edges ok hb hp k (N.u i) (ok.un i hi) (by omega)
      have := (hp k).hit i hi (by omega)
      rw [hv] at this
      omega
theorem settled_nodes (ok : N.Ok) (hs : Stable N F) (h0 : ∀ s, s < N.n → F s ≤ o 0 s) (hb : Based N (o 0) F) (hp : ∀ k, Pass N (o k) (o (k + 1))) {k : Nat} (hk : N.n ≤ k + 1) {s : Nat} (hsn : s < N.n) : o k s = F s := by
  have h1 := lower hs h0 hp k s hsn
  have h2 := nodes ok hs hb hp k s hsn (by
    have : (List.range N.n).countP (fun t => decide (F t < F s)) < (List.range N.n).countP (fun _ => true) :=
      count_lt (fun _ _ => rfl) (show s ∈ List.range N.n by simpa using hsn) rfl (by simp)
    simp at this; omega)
  omega
theorem settled_edges (ok : N.Ok) (hs : Stable N F) (h0 : ∀ s, s < N.n → F s ≤ o 0 s) (hb : Based N (o 0) F) (hp : ∀ k, Pass N (o k) (o (k + 1))) {k : Nat} (hk : N.m ≤ k) {s : Nat} (hsn : s < N.n) : o k s = F s := by
  have h1 := lower hs h0 hp k s hsn
  have h2 := edges ok hb hp k s hsn (by
    have := List.countP_le_length (p := fun j => decide (N.q j ≤ F s)) (l := List.range N.m)
    simp at this; omega)
  omega
end
section
variable {N : Net}
theorem Based.trans {a b c : Nat → Int} (h1 : Based N a b) (h2 : Based N b c) (hle : ∀ s, s < N.n → c s ≤ b s) (ok : N.Ok) : Based N a c := fun s hs => by
  rcases h2 s hs with h | h
  · rcases h1 s hs with h' | ⟨i, hi, hv, hu, hq⟩
    · exact .inl (h.trans h')
    · exact .inr ⟨i, hi, hv, by have := hle _ (ok.un i hi); omega, h.trans hq⟩
  · exact .inr h
theorem pass_of (ok : N.Ok) (x : Nat → Nat → Int) (c : Nat → Prop) (h1 : ∀ k, k < N.m → x 0 (N.u k) ≤ N.p k → c k) (h2 : ∀ k, k < N.m → c k → x k (N.u k) ≤ N.p k)
    (hx : ∀ k, k < N.m → ∀ s, s < N.n → (c k ∧ s = N.v k → x (k + 1) s = min (x k s) (N.q k)) ∧ (¬ (c k ∧ s = N.v k) → x (k + 1) s = x k s)) : Pass N (x 0) (x N.m) ∧ Based N (x 0) (x N.m) := by
  have hle : ∀ k, k < N.m → ∀ s, s < N.n → x (k + 1) s ≤ x k s := fun k hk s hs => by
    by_cases h : c k ∧ s = N.v k
    · rw [(hx k hk s hs).1 h]; omega
    · rw [(hx k hk s hs).2 h]; omega
  have hle2 : ∀ d k, k + d ≤ N.m → ∀ s, s < N.n → x (k + d) s ≤ x k s := fun d => by
    induction d with
    | zero => intro k _ s _; exact Int.le_refl _
    | succ d ih => intro k hk s hs; exact Int.le_trans (hle (k + d) (by omega) s hs) (ih k (by omega) s hs)
  have hm : ∀ k, k ≤ N.m → ∀ s, s < N.n → x N.m s ≤ x k s := fun k hk s hs => by
    have := hle2 (N.m - k) k (by omega) s hs
    rwa [Nat.add_sub_cancel' hk] at this
  refine ⟨⟨hm 0 (Nat.zero_le _), fun i hi hu => ?_, fun F hF h0 => ?_⟩, fun s hs => ?_⟩
  · have := (hx i hi (N.v i) (ok.vn i hi)).1 ⟨h1 i hi hu, rfl⟩
    have := hm (i + 1) hi (N.v i) (ok.vn i hi)
    omega
  · have hk : ∀ k, k ≤ N.m → ∀ s, s < N.n → F s ≤ x k s := fun k => by
      induction k with
      | zero => intro _; exact h0
      | succ k ih =>
        intro hk s hs
        have ih := ih (by omega)
        by_cases h : c k ∧ s = N.v k
        · rw [(hx k hk s hs).1 h]
          have a := ih s hs
          have b := h2 k hk h.1
          have d := ih _ (ok.un k hk)
          have e := hF k hk (by omega)
          rw [← h.2] at e
          omega
        · rw [(hx k hk s hs).2 h]; exact ih s hs
    exact hk N.m (Nat.le_refl _)
  · have hk : ∀ k, k ≤ N.m → x k s = x 0 s ∨ ∃ i, i < N.m ∧ N.v i = s ∧ x N.m (N.u i) ≤ N.p i ∧ x k s = N.q i := fun k => by
      induction k with
      | zero => intro _; exact .inl rfl
      | succ k ih =>
        intro hk
        by_cases h : c k ∧ s = N.v k
        · rw [(hx k hk s hs).1 h]
          by_cases hq : N.q k ≤ x k s
          · refine .inr ⟨k, hk, h.2.symm, ?_, by omega⟩
            have := h2 k hk h.1
            have := hm k (by omega) _ (ok.un k hk)
            omega
          · rw [show min (x k s) (N.q k) = x k s by omega]
            exact ih (by omega)
        · rw [(hx k hk s hs).2 h]; exact ih (by omega)
    exact hk N.m (Nat.le_refl _)
/-- Where a pass changes nothing, all is settled. -/
theorem settled (ok : N.Ok) {o : Nat → Nat → Int} (hp : ∀ k, Pass N (o k) (o (k + 1))) (hb : ∀ k, Based N (o k) (o (k + 1))) {n : Nat} (hn : ∀ s, s < N.n → o (n + 1) s = o n s) :
    Stable N (o n) ∧ (∀ s, s < N.n → o n s ≤ o 0 s) ∧ Based N (o 0) (o n) := by
  have hle : ∀ k s, s < N.n → o k s ≤ o 0 s := fun k s hs => by
    induction k with
    | zero => omega
    | succ k ih => have := (hp k).le s hs; omega
  refine ⟨fun i hi hu => ?_, hle n, ?_⟩
  · have := (hp n).hit i hi hu
    rw [hn _ (ok.vn i hi)] at this
    exact this
  · have : ∀ k, Based N (o 0) (o k) := fun k => by
      induction k with
      | zero => exact fun s _ => .inl rfl
      | succ k ih => exact ih.trans (hb k) (hp k).le ok
    exact this n
/-- Passes that begin alike come to one end. -/
theorem one_end (ok : N.Ok) {o o' : Nat → Nat → Int} (hp : ∀ k, Pass N (o k) (o (k + 1))) (hb : ∀ k, Based N (o k) (o (k + 1))) (hp' : ∀ k, Pass N (o' k) (o' (k + 1))) (h0 : ∀ s, s < N.n → o' 0 s = o 0 s) {n : Nat} (hn : ∀ s, s < N.n → o (n + 1) s = o n s)
    {k : Nat} (hk : N.n ≤ k + 1 ∨ N.m ≤ k) {s : Nat} (hs : s < N.n) : o' k s = o n s := by
  obtain ⟨a, b, c⟩ := settled ok hp hb hn
  have b' : ∀ s, s < N.n → o n s ≤ o' 0 s := fun s hs => by rw [h0 s hs]; exact b s hs
  have c' : Based N (o' 0) (o n) := fun s hs => by rw [h0 s hs]; exact c s hs
  rcases hk with hk | hk
  · exact settled_nodes ok a b' c' hp' hk hs
  · exact settled_edges ok a b' c' hp' hk hs
def sumTo (f : Nat → Int) : Nat → Int
  | 0 => 0
  | n + 1 => sumTo f n + f n
theorem sumTo_le {f g : Nat → Int} : ∀ n, (∀ s, s < n → f s ≤ g s) → sumTo f n ≤ sumTo g n ∧ (sumTo f n = sumTo g n → ∀ s, s < n → f s = g s)
  | 0, _ => ⟨Int.le_refl _, fun _ s hs => absurd hs (by omega)⟩
  | n + 1, h => by
    obtain ⟨h1, h2⟩ := sumTo_le n fun s hs => h s (by omega)
    have h3 := h n (by omega)
    refine ⟨by simp only [sumTo]; omega, fun e s hs => ?_⟩
    simp only [sumTo] at e
    by_cases hsn : s = n
    · subst hsn; omega
    · exact h2 (by omega) s (by omega)
/-- Passes that stay above a bound come to an end. -/
theorem ends (o : Nat → Nat → Int) (L : Nat → Int) (hp : ∀ k, Pass N (o k) (o (k + 1))) (hL : ∀ k s, s < N.n → L s ≤ o k s) : ∃ n, ∀ s, s < N.n → o (n + 1) s = o n s := by
  have H : ∀ M : Nat, ∀ k, (sumTo (o k) N.n - sumTo L N.n).toNat ≤ M → ∃ n, ∀ s, s < N.n → o (n + 1) s = o n s := fun M => by
    induction M with
    | zero =>
      intro k hk
      have h1 := sumTo_le (f := o (k + 1)) (g := o k) N.n (fun s hs => (hp k).le s hs)
      have h2 := sumTo_le (f := L) (g := o (k + 1)) N.n (fun s hs => hL (k + 1) s hs)
      have h3 := sumTo_le (f := L) (g := o k) N.n (fun s hs => hL k s hs)
      exact ⟨k, h1.2 (by omega)⟩
    | succ M ih =>
      intro k hk
      have h1 := sumTo_le (f := o (k + 1)) (g := o k) N.n (fun s hs => (hp k).le s hs)
      by_cases he : sumTo (o (k + 1)) N.n = sumTo (o k) N.n
      · exact ⟨k, h1.2 he⟩
      · have h2 := sumTo_le (f := L) (g := o (k + 1)) N.n (fun s hs => hL (k + 1) s hs)
        exact ih (k + 1) (by omega)
  exact H _ 0 (Nat.le_refl _)
end
end Go.Proofs.Ytddnemmdlijgiaa
