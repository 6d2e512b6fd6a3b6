/- Who can come from a stop at a minute to another stop, and what the earliest and the latest minutes say of it; no conditions but that the timetable and what is asked are valid. -/
import Derived.Test.YtddnemmdlijgiaaEarlEnd
import Derived.Test.YtddnemmdlijgiaaLateEnd
import Derived.Test.YtddnemmdlijgiaaFewest
import Derived.Test.YtddnemmdlijgiaaReached
import Derived.Test.YtddnemmdlijgiaaStranded
import Derived.Test.YtddnemmdlijgiaaJourney
namespace Go.Proofs.Ytddnemmdlijgiaa
open Go.RowKit

/-- From stop f at minute m one can be at stop s at minute x. -/
inductive Conn (l : List Rid) (f : Nat) (m : Int) : Nat → Int → Prop
  | here : Conn l f m f m
  | ride {s : Nat} {x : Int} (i : Nat) : Conn l f m s x → i < l.length → (nth l i).f.toNat = s → x ≤ (nth l i).d → Conn l f m (nth l i).t.toNat (nth l i).a
section
variable {l : List Rid}
theorem Conn.ge (hg : ∀ i, i < l.length → okR (nth l i) = true) {f s : Nat} {m x : Int} (h : Conn l f m s x) : m ≤ x := by
  induction h with
  | here => exact Int.le_refl _
  | ride i _ hi _ hx ih =>
    obtain ⟨_, _, _, ⟨e5, e6⟩, ⟨e7, e8⟩, _⟩ := okR_true.1 (hg i hi)
    omega
theorem Conn.sooner {f s : Nat} {m m' x : Int} (h : Conn l f m s x) (hm : m' ≤ m) : ∃ y, y ≤ x ∧ Conn l f m' s y := by
  induction h with
  | here => exact ⟨m', hm, .here⟩
  | ride i _ hi hf hx ih =>
    obtain ⟨y, hy, hc⟩ := ih
    exact ⟨_, Int.le_refl _, .ride i hc hi hf (by omega)⟩
theorem Conn.first {f s i : Nat} {m x : Int} (hi : i < l.length) (hf : (nth l i).f.toNat = f) (hm : m ≤ (nth l i).d) (h : Conn l (nth l i).t.toNat (nth l i).a s x) : Conn l f m s x := by
  induction h with
  | here => exact .ride i .here hi hf hm
  | ride j _ hj hs hx ih => exact .ride j ih hj hs hx

/-! The earliest minutes. -/
theorem start_own {x m : Int} {f : Nat} (hf : f < 6) : nth (start x f m) f = m := by
  unfold start; rw [nth_setI (by simpa using hf), if_pos rfl]
theorem start_other {x m : Int} {f s : Nat} (hs : s < 6) (h : s ≠ f) : nth (start x f m) s = x := by
  unfold start; rw [nth_setI (by simpa using hs), if_neg (fun e => h e.symm), nth_eq (by simpa using hs)]; exact List.getElem_replicate _
theorem jacs_conn {f : Nat} {m : Int} (hg : ∀ i, i < l.length → okR (nth l i) = true) : ∀ k s, s < 6 → nth (jacs l (start 1440 f m) k) s = 1440 ∨ Conn l f m s (nth (jacs l (start 1440 f m) k) s) := by
  have hlen := fun k => (jacs_len l (start 1440 f m) k).trans (start_len _ _ _)
  intro k
  induction k with
  | zero =>
    intro s hs
    simp only [jacs]
    by_cases h : s = f
    · subst h; rw [start_own hs]; exact .inr .here
    · rw [start_other hs h]; exact .inl rfl
  | succ k ih =>
    have hk : ∀ n, n ≤ l.length → ∀ s, s < 6 → nth (jsweep l (jacs l (start 1440 f m) k) n) s = 1440 ∨ Conn l f m s (nth (jsweep l (jacs l (start 1440 f m) k) n) s) := by
      intro n
      induction n with
      | zero => intro _; exact ih
      | succ n ih2 =>
        intro hn s hs
        obtain ⟨⟨e1, e2⟩, ⟨e3, e4⟩, _, ⟨e5, e6⟩, ⟨e7, e8⟩, _⟩ := okR_true.1 (hg n hn)
        rw [jsweep, jacR_nth (by rw [jsweep_len, hlen]; exact hs)]
        by_cases h : nth (jacs l (start 1440 f m) k) (nth l n).f.toNat ≤ (nth l n).d ∧ s = (nth l n).t.toNat
        · rw [if_pos h]
          by_cases hmin : nth (jsweep l (jacs l (start 1440 f m) k) n) s ≤ (nth l n).a
          · rw [show min _ _ = nth (jsweep l (jacs l (start 1440 f m) k) n) s by omega]; exact ih2 (by omega) s hs
          · rw [show min (nth (jsweep l (jacs l (start 1440 f m) k) n) s) (nth l n).a = (nth l n).a by omega]
            right
            rcases ih (nth l n).f.toNat (by omega) with h1 | h1
            · have := h.1; omega
            · rw [h.2]; exact .ride n h1 hn rfl h.1
        · rw [if_neg h]; exact ih2 (by omega) s hs
    exact hk _ (Nat.le_refl _)
theorem earL_stable (hg : ∀ i, i < l.length → okR (nth l i) = true) {f : Nat} {m : Int} (h0 : 0 ≤ m) (h1 : m ≤ 1439) :
    Stable (earNet l) (fun s => nth (earL l f m) s) ∧ ∀ s, s < 6 → nth (earL l f m) s ≤ nth (start 1440 f m) s := by
  have hj := fun k => (jacs_len l (start 1440 f m) k).trans (start_len _ _ _)
  have hp := fun k => jac_pass hg (hj k)
  obtain ⟨n, hn⟩ := ends (N := earNet l) (fun k s => nth (jacs l (start 1440 f m) k) s) (fun _ => 0) (fun k => (hp k).1) (fun k s hs => ((mins_jacs hg (mins_start h0 h1) k).2 s hs).1)
  obtain ⟨a, b, _⟩ := settled (N := earNet l) (earNet_ok hg) (o := fun k s => nth (jacs l (start 1440 f m) k) s) (fun k => (hp k).1) (fun k => (hp k).2) hn
  have e : ∀ s, s < 6 → nth (earL l f m) s = nth (jacs l (start 1440 f m) n) s := fun s hs =>
    one_end (N := earNet l) (earNet_ok hg) (o := fun k s => nth (jacs l (start 1440 f m) k) s) (o' := fun k s => nth (jacs l (start 1440 f m) k) s) (fun k => (hp k).1) (fun k => (hp k).2) (fun k => (hp k).1) (fun _ _ => rfl) hn (k := 6) (.inl (by simp [earNet])) hs
  refine ⟨fun i hi hu => ?_, fun s hs => ?_⟩
  · have ok := earNet_ok hg
    simp only at hu ⊢
    rw [e _ (ok.un i hi)] at hu
    rw [e _ (ok.vn i hi)]
    exact a i hi hu
  · rw [e s hs]; exact b s hs
/-- Nobody is there earlier than the earliest minute. -/
theorem earL_le (hg : ∀ i, i < l.length → okR (nth l i) = true) {f : Nat} {m : Int} (hf : f < 6) (h0 : 0 ≤ m) (h1 : m ≤ 1439) {s : Nat} {x : Int} (h : Conn l f m s x) : nth (earL l f m) s ≤ x := by
  obtain ⟨a, b⟩ := earL_stable hg (f := f) h0 h1
  induction h with
  | here => have := b f hf; rw [start_own hf] at this; exact this
  | ride i _ hi hs hx ih =>
    have := a i hi
    simp only [earNet] at this
    exact this (by rw [hs]; omega)
theorem earL_conn (hg : ∀ i, i < l.length → okR (nth l i) = true) {f : Nat} {m : Int} {s : Nat} (hs : s < 6) (h : nth (earL l f m) s ≠ 1440) : Conn l f m s (nth (earL l f m) s) :=
  (jacs_conn hg 6 s hs).resolve_left h

/-! The latest minutes. -/
theorem sweeps_conn {t : Nat} {m : Int} (hg : ∀ i, i < l.length → okR (nth l i) = true) : ∀ k s, s < 6 → nth (sweeps lateR l (start (-1) t m) k) s < 0 ∨ ∃ y, y ≤ m ∧ Conn l s (nth (sweeps lateR l (start (-1) t m) k) s) t y := by
  have hlen := fun k => (sweeps_len lateR_len l (start (-1) t m) k).trans (start_len _ _ _)
  intro k
  induction k with
  | zero =>
    intro s hs
    simp only [sweeps]
    by_cases h : s = t
    · subst h; rw [start_own hs]; exact .inr ⟨m, Int.le_refl _, .here⟩
    · rw [start_other hs h]; left; omega
  | succ k ih =>
    have hk : ∀ n, n ≤ l.length → ∀ s, s < 6 → nth (sweep lateR l (sweeps lateR l (start (-1) t m) k) n) s < 0 ∨ ∃ y, y ≤ m ∧ Conn l s (nth (sweep lateR l (sweeps lateR l (start (-1) t m) k) n) s) t y := by
      intro n
      induction n with
      | zero => intro _; exact ih
      | succ n ih2 =>
        intro hn s hs
        obtain ⟨⟨e1, e2⟩, ⟨e3, e4⟩, _, ⟨e5, e6⟩, ⟨e7, e8⟩, _⟩ := okR_true.1 (hg n hn)
        rw [sweep, lateR_nth (by rw [sweep_len lateR_len, hlen]; exact hs)]
        by_cases h : (nth l n).a ≤ nth (sweep lateR l (sweeps lateR l (start (-1) t m) k) n) (nth l n).t.toNat ∧ s = (nth l n).f.toNat
        · rw [if_pos h]
          by_cases hmax : (nth l n).d ≤ nth (sweep lateR l (sweeps lateR l (start (-1) t m) k) n) s
          · rw [show max _ _ = nth (sweep lateR l (sweeps lateR l (start (-1) t m) k) n) s by omega]; exact ih2 (by omega) s hs
          · rw [show max (nth (sweep lateR l (sweeps lateR l (start (-1) t m) k) n) s) (nth l n).d = (nth l n).d by omega]
            right
            rcases ih2 (by omega) (nth l n).t.toNat (by omega) with h1 | ⟨y, hy, h1⟩
            · have := h.1; omega
            · obtain ⟨z, hz, h2⟩ := h1.sooner h.1
              exact ⟨z, by omega, .first hn h.2.symm (Int.le_refl _) h2⟩
        · rw [if_neg h]; exact ih2 (by omega) s hs
    exact hk _ (Nat.le_refl _)
theorem sweeps_up : ∀ (o : List Int) (k s : Nat), s < o.length → nth o s ≤ nth (sweeps lateR l o k) s := by
  intro o k
  induction k with
  | zero => intro s _; exact Int.le_refl _
  | succ k ih =>
    have hk : ∀ n s, s < o.length → nth (sweeps lateR l o k) s ≤ nth (sweep lateR l (sweeps lateR l o k) n) s := by
      intro n
      induction n with
      | zero => intro s _; exact Int.le_refl _
      | succ n ih2 =>
        intro s hs
        rw [sweep, lateR_nth (by rw [sweep_len lateR_len, sweeps_len lateR_len]; exact hs)]
        have := ih2 s hs
        split <;> omega
    intro s hs
    have := ih s hs
    have := hk l.length s hs
    rw [sweeps]; omega
theorem lates_top (hg : ∀ i, i < l.length → okR (nth l i) = true) {t : Nat} {m : Int} (h1 : m ≤ 1439) (k : Nat) : ∀ s, s < 6 → nth (sweeps lateR l (start (-1) t m) k) s ≤ 1439 := by
  have hlen := fun k => (sweeps_len lateR_len l (start (-1) t m) k).trans (start_len _ _ _)
  induction k with
  | zero =>
    intro s hs
    simp only [sweeps]
    by_cases h : s = t
    · subst h; rw [start_own hs]; exact h1
    · rw [start_other hs h]; omega
  | succ k ih =>
    have hk : ∀ n, n ≤ l.length → ∀ s, s < 6 → nth (sweep lateR l (sweeps lateR l (start (-1) t m) k) n) s ≤ 1439 := by
      intro n
      induction n with
      | zero => intro _; exact ih
      | succ n ih2 =>
        intro hn s hs
        obtain ⟨_, _, _, ⟨e5, e6⟩, ⟨e7, e8⟩, _⟩ := okR_true.1 (hg n hn)
        rw [sweep, lateR_nth (by rw [sweep_len lateR_len, hlen]; exact hs)]
        have := ih2 (by omega) s hs
        split <;> omega
    exact hk _ (Nat.le_refl _)
theorem lateL_top (hg : ∀ i, i < l.length → okR (nth l i) = true) {t : Nat} {m : Int} (h1 : m ≤ 1439) {s : Nat} (hs : s < 6) : nth (lateL l t m) s ≤ 1439 := lates_top hg h1 6 s hs
theorem lateL_stable (hg : ∀ i, i < l.length → okR (nth l i) = true) {t : Nat} {m : Int} (h1 : m ≤ 1439) : Stable (lateNet l) (fun s => -(nth (lateL l t m) s)) := by
  have hj := fun k => (sweeps_len lateR_len l (start (-1) t m) k).trans (start_len _ _ _)
  have hp := fun k => late_pass hg (hj k)
  obtain ⟨n, hn⟩ := ends (N := lateNet l) (fun k s => -(nth (sweeps lateR l (start (-1) t m) k) s)) (fun _ => -1439) (fun k => (hp k).1) (fun k s hs => by have := lates_top hg h1 (t := t) k s hs; omega)
  obtain ⟨a, _, _⟩ := settled (N := lateNet l) (lateNet_ok hg) (o := fun k s => -(nth (sweeps lateR l (start (-1) t m) k) s)) (fun k => (hp k).1) (fun k => (hp k).2) hn
  have e : ∀ s, s < 6 → -(nth (lateL l t m) s) = -(nth (sweeps lateR l (start (-1) t m) n) s) := fun s hs =>
    one_end (N := lateNet l) (lateNet_ok hg) (o := fun k s => -(nth (sweeps lateR l (start (-1) t m) k) s)) (o' := fun k s => -(nth (sweeps lateR l (start (-1) t m) k) s)) (fun k => (hp k).1) (fun k => (hp k).2) (fun k => (hp k).1) (fun _ _ => rfl) hn (k := 6) (.inl (by simp [lateNet])) hs
  intro i hi hu
  have ok := lateNet_ok hg
  simp only at hu ⊢
  rw [e _ (ok.un i hi)] at hu
  rw [e _ (ok.vn i hi)]
  exact a i hi hu
/-- Nobody who comes in time leaves later than the latest minute. -/
theorem lateL_ge (hg : ∀ i, i < l.length → okR (nth l i) = true) {f t : Nat} {m x y : Int} (ht : t < 6) (h1 : m ≤ 1439) (h : Conn l f x t y) (hy : y ≤ m) : x ≤ nth (lateL l t m) f := by
  have hs := lateL_stable hg (t := t) h1
  have hm : m ≤ nth (lateL l t m) t := by
    have := sweeps_up (l := l) (start (-1) t m) 6 t (by rw [start_len]; exact ht)
    rw [start_own ht] at this; exact this
  have H : ∀ s z, Conn l f x s z → z ≤ nth (lateL l t m) s → x ≤ nth (lateL l t m) f := fun s z hc => by
    induction hc with
    | here => exact id
    | ride i _ hi hs' hx ih =>
      intro hz
      have := hs i hi
      simp only [lateNet] at this
      have := this (by omega)
      rw [hs'] at this
      exact ih (by omega)
  exact H t y h (by omega)
theorem lateL_conn (hg : ∀ i, i < l.length → okR (nth l i) = true) {f t : Nat} {m : Int} (hf : f < 6) (h : 0 ≤ nth (lateL l t m) f) : ∃ y, y ≤ m ∧ Conn l f (nth (lateL l t m) f) t y :=
  (sweeps_conn hg 6 f hf).resolve_left (by unfold lateL at h; omega)
end

/-! What the statements ask. -/
section
variable {l : List Rid}
theorem okT_make {f t m : Int} (h : goodR l = true) (hf : 0 ≤ f ∧ f ≤ 5) (ht : 0 ≤ t ∧ t ≤ 5) (hm : 0 ≤ m ∧ m ≤ 1439) : okT l f t m = true := by
  simp only [okT, Bool.and_eq_true, inR_true]; exact ⟨⟨⟨h, hf⟩, ht⟩, hm⟩
theorem earD_true {f t m : Int} (h : (earD l f t m).2 = true) : okT l f t m = true ∧ nth (earL l f.toNat m) t.toNat ≠ 1440 ∧ (earD l f t m).1 = nth (earL l f.toNat m) t.toNat := by
  unfold earD at h ⊢
  by_cases h1 : okT l f t m = true
  · rw [if_pos h1] at h ⊢
    by_cases h2 : nth (earL l f.toNat m) t.toNat = 1440
    · rw [if_pos h2] at h; cases h
    · rw [if_neg h2]; exact ⟨h1, h2, rfl⟩
  · rw [if_neg h1] at h; cases h
theorem earD_conn {f t m : Int} (h : (earD l f t m).2 = true) : Conn l f.toNat m t.toNat (earD l f t m).1 := by
  obtain ⟨h1, h2, h3⟩ := earD_true h
  obtain ⟨hgood, ⟨f1, f2⟩, ⟨t1, t2⟩, m1, m2⟩ := okT_true h1
  rw [h3]; exact earL_conn (goodR_true hgood).2 (by omega) h2
theorem earD_of {f t m y : Int} (h1 : okT l f t m = true) (h : Conn l f.toNat m t.toNat y) (hy : y ≤ 1439) : (earD l f t m).2 = true ∧ (earD l f t m).1 ≤ y := by
  obtain ⟨hgood, ⟨f1, f2⟩, ⟨t1, t2⟩, m1, m2⟩ := okT_true h1
  have := earL_le (goodR_true hgood).2 (by omega) m1 m2 h
  unfold earD
  rw [if_pos h1, if_neg (by omega)]
  exact ⟨rfl, this⟩
theorem earD_ge {f t m : Int} (h : (earD l f t m).2 = true) : m ≤ (earD l f t m).1 := by
  obtain ⟨h1, h2, h3⟩ := earD_true h
  exact (earD_conn h).ge (goodR_true (okT_true h1).1).2
theorem earD_top {f t m : Int} (h : (earD l f t m).2 = true) : (earD l f t m).1 ≤ 1439 := by
  obtain ⟨h1, h2, h3⟩ := earD_true h
  obtain ⟨hgood, ⟨f1, f2⟩, ⟨t1, t2⟩, m1, m2⟩ := okT_true h1
  have := (earL_mins (goodR_true hgood).2 (fr := f.toNat) m1 m2).2 t.toNat (by omega)
  omega
theorem lateD_true {f t m : Int} (h : (lateD l f t m).2 = true) : okT l f t m = true ∧ 0 ≤ nth (lateL l t.toNat m) f.toNat ∧ (lateD l f t m).1 = nth (lateL l t.toNat m) f.toNat := by
  unfold lateD at h ⊢
  by_cases h1 : okT l f t m = true
  · rw [if_pos h1] at h ⊢
    by_cases h2 : nth (lateL l t.toNat m) f.toNat < 0
    · rw [if_pos h2] at h; cases h
    · rw [if_neg h2]; exact ⟨h1, by omega, rfl⟩
  · rw [if_neg h1] at h; cases h
theorem lateD_bd {f t m : Int} (h : (lateD l f t m).2 = true) : 0 ≤ (lateD l f t m).1 ∧ (lateD l f t m).1 ≤ 1439 := by
  obtain ⟨h1, h2, h3⟩ := lateD_true h
  obtain ⟨hgood, ⟨f1, f2⟩, ⟨t1, t2⟩, m1, m2⟩ := okT_true h1
  have := lateL_top (goodR_true hgood).2 m2 (t := t.toNat) (s := f.toNat) (by omega)
  rw [h3]; exact ⟨h2, this⟩
/-- Who leaves at the latest departure arrives in time. -/
theorem late_in_time {f t m : Int} (h : (lateD l f t m).2 = true) : (earD l f t (lateD l f t m).1).2 = true ∧ (earD l f t (lateD l f t m).1).1 ≤ m := by
  obtain ⟨h1, h2, h3⟩ := lateD_true h
  obtain ⟨hgood, ⟨f1, f2⟩, ⟨t1, t2⟩, m1, m2⟩ := okT_true h1
  have hg := (goodR_true hgood).2
  obtain ⟨y, hy, hc⟩ := lateL_conn hg (by omega) h2
  have htop := lateL_top hg m2 (t := t.toNat) (s := f.toNat) (by omega)
  rw [h3]
  have := earD_of (okT_make hgood ⟨f1, f2⟩ ⟨t1, t2⟩ ⟨h2, htop⟩) hc (by omega)
  exact ⟨this.1, by omega⟩
/-- A minute later than the latest departure is too late. -/
theorem later_too_late {f t m : Int} (h : (lateD l f t m).2 = true) (h2 : (earD l f t ((lateD l f t m).1 + 1)).2 = true) : m < (earD l f t ((lateD l f t m).1 + 1)).1 := by
  obtain ⟨h1, h0, h3⟩ := lateD_true h
  obtain ⟨hgood, ⟨f1, f2⟩, ⟨t1, t2⟩, m1, m2⟩ := okT_true h1
  have hg := (goodR_true hgood).2
  have hc := earD_conn h2
  by_cases hle : (earD l f t ((lateD l f t m).1 + 1)).1 ≤ m
  · have := lateL_ge hg (by omega) m2 hc hle
    rw [h3] at this; omega
  · omega
theorem jacs_down (o : List Int) (k d : Nat) : ∀ s, s < o.length → nth (jacs l o (k + d)) s ≤ nth (jacs l o k) s := by
  have one : ∀ k s, s < o.length → nth (jacs l o (k + 1)) s ≤ nth (jacs l o k) s := fun k s hs => by
    have hk : ∀ n, nth (jsweep l (jacs l o k) n) s ≤ nth (jacs l o k) s := fun n => by
      induction n with
      | zero => exact Int.le_refl _
      | succ n ih =>
        rw [jsweep, jacR_nth (by rw [jsweep_len, jacs_len]; exact hs)]
        split <;> omega
    exact hk _
  induction d with
  | zero => intro s _; exact Int.le_refl _
  | succ d ih => intro s hs; have := ih s hs; have := one (k + d) s hs; rw [← Nat.add_assoc]; omega
theorem find_first {n : Nat} {p : Nat → Bool} : firstTo n p = none → ∀ j, j < n → p j = false := fun h j hj => by
  simp only [firstTo, List.find?_eq_none, List.mem_range] at h
  simpa using h j hj
theorem find_yes {n k : Nat} {p : Nat → Bool} (h : firstTo n p = some k) : k < n ∧ p k = true ∧ ∀ j, j < k → p j = false := by
  unfold firstTo at h
  rw [List.find?_range_eq_some] at h
  exact ⟨by simpa using h.2.1, h.1, fun j hj => by simpa using h.2.2 j hj⟩
/-- Fewest rides are told where there is an earliest arrival, and none are needed at the stop itself alone. -/
theorem few_told {f t m : Int} : (few l f t m).2 = (earD l f t m).2 ∧ ((few l f t m).2 = true → (((few l f t m).1 == 0) = (f == t))) := by
  unfold few earD
  by_cases h1 : okT l f t m = true
  · rw [if_pos h1, if_pos h1]
    obtain ⟨hgood, ⟨f1, f2⟩, ⟨t1, t2⟩, m1, m2⟩ := okT_true h1
    obtain ⟨hn, hg⟩ := goodR_true hgood
    have e12 : jacs l (start 1440 f.toNat m) 12 = earL l f.toNat m := by
      have a := jacs_end hg (mins_start (fr := f.toNat) m1 m2) (k := 12) hn
      refine list_eq ((jacs_len _ _ _).trans (start_len _ _ _)) (earL_len _ _ _) fun s hs => ?_
      obtain ⟨st, sb⟩ := earL_stable hg (f := f.toNat) m1 m2
      have d := jacs_down (l := l) (start 1440 f.toNat m) 6 6 s (by rw [start_len]; exact hs)
      have lo := lower (N := earNet l) (o := fun k s => nth (jacs l (start 1440 f.toNat m) k) s) st sb (fun k => (jac_pass hg ((jacs_len l _ k).trans (start_len _ _ _))).1) 12 s hs
      simp only [earL] at lo ⊢
      simp only [Nat.reduceAdd] at d
      omega
    have hm6 := (earL_mins hg (fr := f.toNat) m1 m2).2 t.toNat (by omega)
    rcases hf : firstTo 13 (thereIn l f.toNat t.toNat m) with _ | k
    · have := find_first hf 12 (by omega)
      rw [thereIn, e12, decide_eq_false_iff_not] at this
      rw [if_pos (by omega)]
      exact ⟨rfl, fun h => by cases h⟩
    · obtain ⟨hk, hp, hno⟩ := find_yes hf
      rw [thereIn, decide_eq_true_eq] at hp
      have d := jacs_down (l := l) (start 1440 f.toNat m) k (12 - k) t.toNat (by rw [start_len]; omega)
      rw [show k + (12 - k) = 12 by omega, e12] at d
      rw [if_neg (by omega)]
      refine ⟨rfl, fun _ => ?_⟩
      have h0 : ∀ x : Nat, (thereIn l f.toNat t.toNat m 0 = true) ↔ f = t := fun _ => by
        rw [thereIn, decide_eq_true_eq]
        simp only [jacs]
        by_cases e : f = t
        · subst e; rw [start_own (by omega)]; exact ⟨fun _ => rfl, fun _ => by omega⟩
        · rw [start_other (by omega) (by omega)]; exact ⟨fun h => by omega, fun h => absurd h e⟩
      rw [Bool.eq_iff_iff]
      simp only [beq_iff_eq]
      rw [← h0 0]
      constructor
      · intro hk0
        have : k = 0 := by omega
        subst this
        rw [thereIn, decide_eq_true_eq]; exact hp
      · intro h
        rcases Nat.eq_zero_or_pos k with e | e
        · rw [e]; rfl
        · rw [hno 0 e] at h; cases h
  · rw [if_neg h1, if_neg h1]; exact ⟨rfl, fun h => by cases h⟩

theorem mem_reachTo {o : List Int} {u : Int} : ∀ {k s : Nat}, ((s : Int) ∈ reachTo o u k ↔ s < k ∧ nth o s ≤ u)
  | 0, s => by simp [reachTo]
  | k + 1, s => by
    have ih := mem_reachTo (o := o) (u := u) (k := k) (s := s)
    by_cases h : nth o k ≤ u
    · rw [reachTo_yes h, List.mem_append, ih, List.mem_singleton]
      constructor
      · rintro (⟨a, b⟩ | e)
        · exact ⟨by omega, b⟩
        · obtain rfl : s = k := by omega
          exact ⟨by omega, h⟩
      · rintro ⟨a, b⟩
        by_cases e : s = k
        · right; omega
        · left; exact ⟨by omega, b⟩
    · rw [reachTo_no h, ih]
      constructor
      · rintro ⟨a, b⟩; exact ⟨by omega, b⟩
      · rintro ⟨a, b⟩
        by_cases e : s = k
        · subst e; exact absurd b h
        · exact ⟨by omega, b⟩
/-- Who is reached by a minute is who has an earliest arrival by it. -/
theorem reached_has {f m u : Int} (h : (reached l f m u).2 = true) {s : Nat} (hs : s < 6) : decide ((s : Int) ∈ (reached l f m u).1) = ((earD l f s m).2 && decide ((earD l f s m).1 ≤ u)) := by
  unfold reached at h ⊢
  by_cases h1 : (okT l f f m && inR u 0 1439) = true
  · rw [if_pos h1]
    simp only [Bool.and_eq_true, inR_true] at h1
    obtain ⟨hgood, hf, _, hm⟩ := okT_true h1.1
    have hm2 := mem_reachTo (o := earL l f.toNat m) (u := u) (k := 6) (s := s)
    unfold earD
    rw [if_pos (okT_make hgood hf ⟨by omega, by omega⟩ hm), Bool.eq_iff_iff]
    simp only [Int.toNat_natCast, decide_eq_true_eq, Bool.and_eq_true]
    rw [hm2]
    by_cases h2 : nth (earL l f.toNat m) s = 1440
    · rw [if_pos h2]; simp; omega
    · rw [if_neg h2]; simp [hs]
  · rw [if_neg h1] at h; cases h
theorem reached_len {f m u : Int} : (reached l f m u).1.length ≤ 6 := by
  unfold reached; split
  · exact reachTo_len 6
  · simp
/-- Who leaves at the last descent comes down. -/
theorem descent_down {s : Nat} (hs : s < 6) (h : (descents l).2 = true) (h0 : 0 ≤ nth (descents l).1 s) : (earD l s 0 (nth (descents l).1 s)).2 = true ∧ (earD l s 0 (nth (descents l).1 s)).1 ≤ 1439 := by
  unfold descents at h h0 ⊢
  by_cases h1 : goodR l = true
  · rw [if_pos h1] at h0 ⊢
    have hok := okT_make (f := s) (t := 0) (m := 1439) h1 ⟨by omega, by omega⟩ (by omega) (by omega)
    have e : lateD l s 0 1439 = (nth (lateL l 0 1439) s, true) := by
      unfold lateD
      rw [if_pos hok]
      simp only [Int.toNat_natCast, Int.toNat_zero]
      simp only at h0
      rw [if_neg (by omega)]
    have := late_in_time (l := l) (f := s) (t := 0) (m := 1439) (by rw [e])
    rw [e] at this
    exact this
  · rw [if_neg h1] at h; cases h
theorem descents_six (h : (descents l).2 = true) : (descents l).1.length = 6 := by
  unfold descents at h ⊢
  by_cases h1 : goodR l = true
  · rw [if_pos h1]; exact lateL_len _ _ _
  · rw [if_neg h1] at h; cases h
theorem descents_none (h : (descents l).2 = false) : (descents l).1 = [] := by
  unfold descents at h ⊢
  by_cases h1 : goodR l = true
  · rw [if_pos h1] at h; cases h
  · rw [if_neg h1]
theorem mem_strTo {o : List Int} : ∀ {k s : Nat}, ((s : Int) ∈ strTo l o k ↔ s < k ∧ nth o (nth l s).t.toNat < (nth l s).a)
  | 0, s => by simp [strTo]
  | k + 1, s => by
    have ih := mem_strTo (o := o) (k := k) (s := s)
    rw [strTo]
    by_cases h : nth o (nth l k).t.toNat < (nth l k).a
    · rw [if_pos h, List.mem_append, ih, List.mem_singleton]
      constructor
      · rintro (⟨a, b⟩ | e)
        · exact ⟨by omega, b⟩
        · obtain rfl : s = k := by omega
          exact ⟨by omega, h⟩
      · rintro ⟨a, b⟩
        by_cases e : s = k
        · right; omega
        · left; exact ⟨by omega, b⟩
    · rw [if_neg h, ih]
      constructor
      · rintro ⟨a, b⟩; exact ⟨by omega, b⟩
      · rintro ⟨a, b⟩
        by_cases e : s = k
        · subst e; exact absurd b h
        · exact ⟨by omega, b⟩
/-- After a stranded ride nobody comes down, after another one somebody does. -/
theorem stranded_down (h : goodR l = true) {i : Nat} (hi : i < l.length) : decide ((i : Int) ∈ (stranded l).1) = !(earD l (nth l i).t 0 (nth l i).a).2 := by
  unfold stranded
  rw [if_pos h]
  have hg := (goodR_true h).2
  obtain ⟨⟨e1, e2⟩, ⟨e3, e4⟩, _, ⟨e5, e6⟩, ⟨e7, e8⟩, _⟩ := okR_true.1 (hg i hi)
  have hm2 := mem_strTo (l := l) (o := lateL l 0 1439) (k := l.length) (s := i)
  have hok := okT_make (f := (nth l i).t) (t := 0) (m := (nth l i).a) h ⟨e3, e4⟩ (by omega) (by omega)
  rcases hd : (earD l (nth l i).t 0 (nth l i).a).2 with _ | _
  · simp only [Bool.not_false, decide_eq_true_eq]
    rw [hm2]
    refine ⟨hi, ?_⟩
    by_cases hlt : nth (lateL l 0 1439) (nth l i).t.toNat < (nth l i).a
    · exact hlt
    · obtain ⟨y, hy, hc⟩ := lateL_conn hg (t := 0) (m := 1439) (f := (nth l i).t.toNat) (by omega) (by omega)
      obtain ⟨z, hz, hc⟩ := hc.sooner (m' := (nth l i).a) (by omega)
      have := (earD_of hok hc (by omega)).1
      rw [hd] at this; cases this
  · simp only [Bool.not_true, decide_eq_false_iff_not]
    rw [hm2]
    rintro ⟨_, hlt⟩
    have hc := earD_conn hd
    have ht := earD_top hd
    have := lateL_ge hg (t := 0) (m := 1439) (by omega) (by omega) hc ht
    omega
theorem stranded_told : (stranded l).2 = (descents l).2 := by
  unfold stranded descents; split <;> rfl
theorem descents_good (h : (descents l).2 = true) : goodR l = true := by
  unfold descents at h
  by_cases h1 : goodR l = true
  · exact h1
  · rw [if_neg h1] at h; cases h
theorem stranded_len : (stranded l).1.length ≤ l.length := by
  unfold stranded; split
  · exact strTo_len _
  · simp
theorem takeR_some {k at_ mi a t : Int} (h : takeR l k at_ mi = some (a, t)) : ∃ q : Nat, k = q ∧ q < l.length ∧ (nth l q).f = at_ ∧ mi ≤ (nth l q).d ∧ a = (nth l q).t ∧ t = (nth l q).a := by
  unfold takeR at h
  by_cases hc : (inR k 0 ((l.length : Int) - 1) && (nth l k.toNat).f == at_ && decide (mi ≤ (nth l k.toNat).d)) = true
  · rw [if_pos hc] at h
    simp only [Bool.and_eq_true, inR_true, beq_iff_eq, decide_eq_true_eq] at hc
    simp only [Option.some.injEq, Prod.mk.injEq] at h
    exact ⟨k.toNat, by omega, by omega, hc.1.2, hc.2, h.1.symm, h.2.symm⟩
  · rw [if_neg hc] at h; cases h
theorem jrTo_conn (hg : ∀ i, i < l.length → okR (nth l i) = true) {js : List Int} {f : Int} (hf : 0 ≤ f ∧ f ≤ 5) : ∀ {k : Nat} {a t : Int}, jrTo l js f k = some (a, t) → Conn l f.toNat 0 a.toNat t ∧ (0 ≤ a ∧ a ≤ 5) ∧ t ≤ 1439 ∧ (0 < k → ∃ q : Nat, nth js (k - 1) = q ∧ q < l.length ∧ t = (nth l q).a)
  | 0, a, t, h => by
    simp only [jrTo, Option.some.injEq, Prod.mk.injEq] at h
    obtain ⟨rfl, rfl⟩ := h
    exact ⟨.here, hf, by omega, fun h => by omega⟩
  | k + 1, a, t, h => by
    rw [jrTo] at h
    rcases hk : jrTo l js f k with _ | ⟨a', t'⟩
    · rw [hk] at h; cases h
    · rw [hk] at h
      obtain ⟨hc, ha, ht, _⟩ := jrTo_conn hg hf hk
      obtain ⟨q, e, hq, h1, h2, rfl, rfl⟩ := takeR_some h
      obtain ⟨⟨e1, e2⟩, ⟨e3, e4⟩, _, ⟨e5, e6⟩, ⟨e7, e8⟩, _⟩ := okR_true.1 (hg q hq)
      exact ⟨.ride q hc hq (by rw [h1]) h2, ⟨e3, e4⟩, e8, fun _ => ⟨q, e, hq, rfl⟩⟩
/-- A journey comes no earlier than the earliest arrival. -/
theorem journey_ear {js : List Int} {f t : Int} (h : (jour l js f t).1 = true) (hn : 0 < js.length) : ∃ q : Nat, nth js (js.length - 1) = q ∧ q < l.length ∧ (earD l f t 0).2 = true ∧ (earD l f t 0).1 ≤ (nth l q).a := by
  unfold jour at h
  by_cases h1 : (goodR l && inR f 0 5 && inR t 0 5) = true
  · rw [if_pos h1] at h
    simp only [Bool.and_eq_true, inR_true] at h1
    rcases hj : jrTo l js f js.length with _ | ⟨a, b⟩
    · rw [hj] at h; cases h
    · rw [hj] at h
      simp only [beq_iff_eq] at h
      subst h
      obtain ⟨hc, ha, hb, hlast⟩ := jrTo_conn (goodR_true h1.1.1).2 h1.1.2 hj
      obtain ⟨q, e, hq, rfl⟩ := hlast hn
      have := earD_of (okT_make h1.1.1 h1.1.2 h1.2 ⟨Int.le_refl _, by omega⟩) hc hb
      exact ⟨q, e, hq, this.1, this.2⟩
  · rw [if_neg h1] at h; cases h
end
end Go.Proofs.Ytddnemmdlijgiaa
