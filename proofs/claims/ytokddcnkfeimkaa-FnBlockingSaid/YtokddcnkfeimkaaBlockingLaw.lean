/- FnBlocking returns true for all codes: without a task that blocks there is a plan, and tasks with an added one have a plan; no conditions. -/
import Derived.Test.YtokddcnkfeimkaaTasksDraw
import Derived.Test.YtokddcnkfeimkaaBlockWays
import Derived.Test.YtokddcnkfeimkaaVTasks
import Derived.Test.YtokddcnkfeimkaaSlack
import Derived.Test.YtokddcnkfeimkaaAddImpl
import Derived.Test.YtokddcnkfeimkaaAddSpec
import Derived.Deep.DeepCutAuto
import Derived.Deep.CutBlock
import Derived.Deep.RegionLaw
namespace Go.Proofs.Ytokddcnkfeimkaa
open Go.RowKit Go.Joins Go.ChangeShapes Go.WideShapes Go.ChangeAt

section
variable {f : FuncId} {args : Array Value} {W : World}
theorem lp_of {p : List Int × Bool} {L : List Int} {b : Bool} (h : Calls Try.prog f args W (ListPost p W)) (hp : p = (L, b)) :
    Calls Try.prog f args W fun e w' => ∃ A cap, e = .returned (.tuple #[.slice A L.length cap, .bool b]) ∧ Own w' W.heap.size 3 1 intCells A L ∧ Below W.heap.size W w' := by subst hp; exact h
theorem tp_of {p : List Tsk × Bool} {L : List Tsk} {b : Bool} (h : Calls Try.prog f args W (ListPostT p W)) (hp : p = (L, b)) :
    Calls Try.prog f args W fun e w' => ∃ A cap, e = .returned (.tuple #[.slice A L.length cap, .bool b]) ∧ Own w' W.heap.size 50 4 Tsk.cells A L ∧ Below W.heap.size W w' := by subst hp; exact h
end
theorem hasP_mk {l : List Tsk} (h : goodK l = true) : hasP l = (has l, true) := by rw [hasP, if_pos h]
set_option maxRecDepth 100000 in
set_option maxHeartbeats 16000000 in
theorem lawBlocking (code : List Int) (A : Option Addr) (n cap : Nat) (w : World) (hin : InBytes w A n code) :
    Calls Try.prog 13 #[.slice A n cap] w fun e w' => e = .returned (.bool true) ∧ Below w.heap.size w w' := by
  have kc0 : Codes w A n := ⟨code, hin⟩
  clear hin
  by_cases hn : 65536 < (n : Int)
  · go_enter Try.func13, Try.ntmps13
    go_wp2_with fail
    refine (vBig_c _ _ _ _).mono ?_
    rintro e w' ⟨rfl, rfl⟩
    go_wp2_with fail
    go_ret
    exact ⟨rfl, Below.refl _ _⟩
  go_enter Try.func13, Try.ntmps13
  go_wp2_with fail
  refine (vBig_c _ _ _ _).mono ?_
  rintro e w' ⟨rfl, rfl⟩
  go_wp2_with fail
  refine (drawBlockingTasks_c _ _ _ _ kc0).mono ?_
  rintro e w1 ⟨g1, c1, l, rfl, hc1, hl, o1, hb1⟩
  have hz1 := hb1.size
  try simp only [World.size_alloc] at g1
  try simp only [World.size_alloc] at c1
  try simp only [World.size_alloc] at l
  try simp only [World.size_alloc] at hc1
  try simp only [World.size_alloc] at hl
  try simp only [World.size_alloc] at o1
  have hB1 : Below w.heap.size w w1 := (by repeat (first | (with_reducible exact Below.refl _ _) | ((with_reducible refine alloc_ ?_ ?_); (focus (first | exact Nat.le_refl _ | (simp; done) | (simp; omega) | omega))) | ((with_reducible refine set_ ?_ ?_); (focus (first | exact Nat.le_refl _ | (simp; done) | (simp; omega) | omega))) | (with_reducible refine Below.drew ?_) | ((with_reducible refine after_ ?_ (by assumption) ?_); (rotate_left; (focus (first | exact Nat.le_refl _ | (simp; done) | (simp; omega) | omega))))))
  have hs1 := hB1.size
  have kc1 := kc0.carry hB1
  generalize hA1 : some (⟨g1, 0, none⟩ : Addr) = A1 at o1 ⊢
  clear hA1
  have hl1 : l.length ≤ 1048576 := by omega
  have hbl := blockP_len (l := l)
  have hbh := fun h i (hi : i < l.length) => block_has (l := l) h hi
  obtain ⟨⟨L, ok⟩, hv⟩ : ∃ p, blockP l = p := ⟨_, rfl⟩
  rw [hv] at hbl hbh
  have hL1 : L.length ≤ 1048576 := by simp only at hbl; omega
  have HV := Lib.hid hv
  have HBH := Lib.hid (show ok = true → ∀ i : Nat, i < l.length → decide ((nth l i).i ∈ L) = has (less l i) ∧ goodK l = true from hbh)
  clear hv hbl hbh
  go_wp2_with fail
  refine (lp_of (implBlockingTasks_c l _ _ _ hl1 hc1 (o1.rd fun _ => rfl)) HV.out).mono ?_
  rintro e w2 ⟨B1, e1, rfl, r2, hb2⟩
  have hz2 := hb2.size
  try simp only [World.size_alloc] at e1
  try simp only [World.size_alloc] at r2
  have hB2 : Below w1.heap.size w1 w2 := (by repeat (first | (with_reducible exact Below.refl _ _) | ((with_reducible refine alloc_ ?_ ?_); (focus (first | exact Nat.le_refl _ | (simp; done) | (simp; omega) | omega))) | ((with_reducible refine set_ ?_ ?_); (focus (first | exact Nat.le_refl _ | (simp; done) | (simp; omega) | omega))) | (with_reducible refine Below.drew ?_) | ((with_reducible refine after_ ?_ (by assumption) ?_); (rotate_left; (focus (first | exact Nat.le_refl _ | (simp; done) | (simp; omega) | omega))))))
  have hs2 := hB2.size
  have kc2 := kc1.carry hB2
  have o2 := o1.carry hB2
  go_wp2_with fail
  refine (lp_of (specBlockingTasks_c l _ _ _ hl1 hc1 (o2.rd fun _ => rfl)) HV.out).mono ?_
  rintro e w3 ⟨B2, e2, rfl, s3, hb3⟩
  have hz3 := hb3.size
  try simp only [World.size_alloc] at e2
  try simp only [World.size_alloc] at s3
  have hB3 : Below w2.heap.size w2 w3 := (by repeat (first | (with_reducible exact Below.refl _ _) | ((with_reducible refine alloc_ ?_ ?_); (focus (first | exact Nat.le_refl _ | (simp; done) | (simp; omega) | omega))) | ((with_reducible refine set_ ?_ ?_); (focus (first | exact Nat.le_refl _ | (simp; done) | (simp; omega) | omega))) | (with_reducible refine Below.drew ?_) | ((with_reducible refine after_ ?_ (by assumption) ?_); (rotate_left; (focus (first | exact Nat.le_refl _ | (simp; done) | (simp; omega) | omega))))))
  have hs3 := hB3.size
  have kc3 := kc2.carry hB3
  have o3 := o2.carry hB3
  have r3 := r2.carry hB3
  go_wp2_with fail
  refine (vInts_same L _ _ _ _ _ hL1 (r3.rd fun _ => rfl) (s3.rd fun _ => rfl)).mono ?_
  rintro e w4 ⟨rfl, hb4⟩
  have hz4 := hb4.size
  have hB4 : Below w3.heap.size w3 w4 := (by repeat (first | (with_reducible exact Below.refl _ _) | ((with_reducible refine alloc_ ?_ ?_); (focus (first | exact Nat.le_refl _ | (simp; done) | (simp; omega) | omega))) | ((with_reducible refine set_ ?_ ?_); (focus (first | exact Nat.le_refl _ | (simp; done) | (simp; omega) | omega))) | (with_reducible refine Below.drew ?_) | ((with_reducible refine after_ ?_ (by assumption) ?_); (rotate_left; (focus (first | exact Nat.le_refl _ | (simp; done) | (simp; omega) | omega))))))
  have hs4 := hB4.size
  have kc4 := kc3.carry hB4
  have o4 := o3.carry hB4
  have r4 := r3.carry hB4
  have s4 := s3.carry hB4
  have HBA := Lib.hid (show Below w.heap.size w w4 from (by repeat (first | (with_reducible exact Below.refl _ _) | ((with_reducible refine alloc_ ?_ ?_); (focus (first | exact Nat.le_refl _ | (simp; done) | (simp; omega) | omega))) | ((with_reducible refine set_ ?_ ?_); (focus (first | exact Nat.le_refl _ | (simp; done) | (simp; omega) | omega))) | (with_reducible refine Below.drew ?_) | ((with_reducible refine after_ ?_ (by assumption) ?_); (rotate_left; (focus (first | exact Nat.le_refl _ | (simp; done) | (simp; omega) | omega)))))))
  have OS := Lib.hid (o4.rd fun _ => rfl)
  have RS := Lib.hid r4
  have KS := Lib.hid kc4
  clear hb1 hb2 hb3 hb4 hB1 hB2 hB3 hB4 o1 o2 o3 o4 r2 r3 r4 s3 s4 kc0 kc1 kc2 kc3 kc4 HV
  go_upto_block 0 with fail
  go_cut [2] (fun s wx => s = .bool false ∧ Below w4.heap.size w4 wx)
  case first => as_aux_lemma =>
    clear KS
    go_wp2_with fail
    go_loopw [2, 8] (fun s i wr => ∃ k : Nat, k ≤ l.length ∧ s = .bool false ∧ i = .int .i64 k ∧ Below w4.heap.size w4 wr) (fun _ i _ => l.length - (intOf i).toNat)
    case atStart => exact ⟨0, Nat.zero_le _, rfl, rfl, Below.refl _ _⟩
    case round =>
      obtain ⟨k, hk, rfl, rfl, hbel⟩ := hrel
      have HB := Lib.hid hbel
      have z1 := hbel.size
      by_cases hlt : k < l.length
      · rcases ok with _ | _
        · clear hbel
          go_wp2_with fail
          go_meet
          exact ⟨rfl, HB.out⟩
        · obtain ⟨hdec, hgood⟩ := HBH.out rfl k hlt
          obtain ⟨h, hh⟩ : ∃ h, has (less l k) = h := ⟨_, rfl⟩
          have HHP := Lib.hid (show hasP (less l k) = (h, true) by rw [hasP_mk (less_good hgood hlt), hh])
          have HHI := Lib.hid (show hasI L (nth l k).i = h from hdec.trans hh)
          have HR := Lib.hid (OS.out.below hbel (Nat.le_refl _))
          obtain ⟨b, off, rfl, hb, hcs⟩ := Tsk.rd (OS.out.below hbel (Nat.le_refl _)) hlt
          have l1 : b < wr.heap.size := by omega
          have hkc : k ≤ c1 := by omega
          clear hbel hcs hdec hgood hh
          by_cases hcj : c1 = k + 1
          case pos =>
            subst hcj
            go_wp2_with fail
            have s1 : IntKind.i64.wrap ((k : Int) + 1) = (k : Int) + 1 := IntWalk.i64_in _ (by omega)
            have s2 : ((k : Int) + 1).toNat = k + 1 := by omega
            have s3 : (0 : Int) ≤ (k : Int) + 1 := by omega
            have s4 : (k : Int) + 1 ≤ l.length := by omega
            have s5 : (k : Int) ≤ (k : Int) + 1 := by omega
            go_region_law (first
              | (refine step_extend rfl (.tmp 65) (.tmp 68) 25 rfl wr.heap.size 50 _ 4 32 Try.underlying25 info_Task rfl (by decide) (by decide) _ 0 [] rfl ?_ b off k _ (flat Tsk.cells (l.take k)) rfl ?_ ((HR.out.take k).news (by repeat (first | (with_reducible exact Below.refl _ _) | ((with_reducible refine alloc_ ?_ ?_); (focus (first | exact Nat.le_refl _ | (simp; done) | (simp; omega) | omega))) | ((with_reducible refine set_ ?_ ?_); (focus (first | exact Nat.le_refl _ | (simp; done) | (simp; omega) | omega))) | (with_reducible refine Below.drew ?_) | ((with_reducible refine after_ ?_ (by assumption) ?_); (rotate_left; (focus (first | exact Nat.le_refl _ | (simp; done) | (simp; omega) | omega)))))) Tsk.four (by decide)) (flat_cells Tsk.ones _) ?_ ?_ ?_; (focus (exact own_empty (heap_drawn _ _ rfl) (Nat.le_refl _))); (focus (rw [flat_len Tsk.four, List.length_take]; omega)); (focus omega); (focus (first | omega | (simp; done) | (simp; omega))); intro v1 w1 hown1 hb1 hk1; have hz1 := hb1.size; (try simp at hz1))
              | (refine step_extend rfl (.tmp 69) (.tmp 73) 25 rfl wr.heap.size 50 _ 4 32 Try.underlying25 info_Task rfl (by decide) (by decide) _ _ _ rfl hown1 b (off) (0) _ (flat Tsk.cells (l.drop (k + 1))) rfl ?_ (no_news (by omega)) (flat_cells Tsk.ones _) ?_ ?_ ?_; (focus (rw [flat_len Tsk.four, List.length_drop] <;> omega)); (focus omega); (focus (first | omega | (simp; omega))); intro v3 w3 hown3 hb3 hk3; have hz3 := hb3.size))
            all_goals
              clear s1 s2 s3 s4 s5
              obtain ⟨A3, cap3, rfl⟩ := ownsRow_shape hown3
              have HW := Lib.hid (own_flat (l := less l k) hown3 (by rw [less_len hlt]; omega) (by rw [List.nil_append, flat_app]; rfl) Tsk.four)
              have HB3 := Lib.hid (show Below wr.heap.size wr w3 from (by repeat (first | (with_reducible exact Below.refl _ _) | ((with_reducible refine alloc_ ?_ ?_); (focus (first | exact Nat.le_refl _ | (simp; done) | (simp; omega) | omega))) | ((with_reducible refine set_ ?_ ?_); (focus (first | exact Nat.le_refl _ | (simp; done) | (simp; omega) | omega))) | (with_reducible refine Below.drew ?_) | ((with_reducible refine after_ ?_ (by assumption) ?_); (rotate_left; (focus (first | exact Nat.le_refl _ | (simp; done) | (simp; omega) | omega)))))))
              have hcl := bb_of (implHasTaskPlan_c (less l k) A3 cap3 w3 (by rw [less_len hlt]; omega) (HW.out.rd Tsk.four)) HHP.out
              rw [less_len hlt, show l.length - 1 = k by omega] at hcl
              have HCL := Lib.hid hcl
              clear hown3 hown1 hb1 hb3 hk1 hk3 hcl
              go_wp2_with fail
              refine HCL.out.mono ?_
              rintro e w2 ⟨rfl, hb2⟩
              have HQ := Lib.hid (HB3.out.trans (hb2.mono HB3.out.size))
              have HBq := Lib.hid (HB.out.trans (HQ.out.mono z1))
              have hcq := (HR.out.below HQ.out z1)
              have HVH := Lib.hid (by have := vHas_c L B1 e1 (nth l k).i w2 hL1 ((RS.out.carry HBq.out).rd fun _ => rfl); rw [show hasI L (nth l k).i = h from HHI.out] at this; exact this : Calls Try.prog 48 #[.slice B1 L.length e1, .int .i64 (nth l k).i] w2 fun e w' => e = .returned (.bool h) ∧ w2 = w')
              obtain ⟨b', off', he, hb', t0, t1, t2, t3⟩ := Tsk.rd hcq hlt
              simp only [Option.some.injEq, Addr.mk.injEq, and_true] at he
              obtain ⟨rfl, rfl⟩ := he
              have zq := HQ.out.size
              have l1 : b < w2.heap.size := by omega
              clear hb2 HCL hcq t1 t2 t3
              go_wp2_with fail
              refine HVH.out.mono ?_
              rintro e w' ⟨rfl, rfl⟩
              rcases h with _ | _
              all_goals
                go_wp2_with fail
                go_roundw
                case rel => exact ⟨k + 1, by omega, rfl, by go_num, HBq.out⟩
                case measure => simp [intOf]; omega
          case neg =>
            go_wp2_with fail
            have s1 : IntKind.i64.wrap ((k : Int) + 1) = (k : Int) + 1 := IntWalk.i64_in _ (by omega)
            have s2 : ((k : Int) + 1).toNat = k + 1 := by omega
            have s3 : (0 : Int) ≤ (k : Int) + 1 := by omega
            have s4 : (k : Int) + 1 ≤ l.length := by omega
            have s5 : (k : Int) ≤ (k : Int) + 1 := by omega
            go_region_law (first
              | (refine step_extend rfl (.tmp 65) (.tmp 68) 25 rfl wr.heap.size 50 _ 4 32 Try.underlying25 info_Task rfl (by decide) (by decide) _ 0 [] rfl ?_ b off k _ (flat Tsk.cells (l.take k)) rfl ?_ ((HR.out.take k).news (by repeat (first | (with_reducible exact Below.refl _ _) | ((with_reducible refine alloc_ ?_ ?_); (focus (first | exact Nat.le_refl _ | (simp; done) | (simp; omega) | omega))) | ((with_reducible refine set_ ?_ ?_); (focus (first | exact Nat.le_refl _ | (simp; done) | (simp; omega) | omega))) | (with_reducible refine Below.drew ?_) | ((with_reducible refine after_ ?_ (by assumption) ?_); (rotate_left; (focus (first | exact Nat.le_refl _ | (simp; done) | (simp; omega) | omega)))))) Tsk.four (by decide)) (flat_cells Tsk.ones _) ?_ ?_ ?_; (focus (exact own_empty (heap_drawn _ _ rfl) (Nat.le_refl _))); (focus (rw [flat_len Tsk.four, List.length_take]; omega)); (focus omega); (focus (first | omega | (simp; done) | (simp; omega))); intro v1 w1 hown1 hb1 hk1; have hz1 := hb1.size; (try simp at hz1))
              | (refine step_extend rfl (.tmp 69) (.tmp 73) 25 rfl wr.heap.size 50 _ 4 32 Try.underlying25 info_Task rfl (by decide) (by decide) _ _ _ rfl hown1 b (off + (k + 1) * 4) (l.length - (k + 1)) _ (flat Tsk.cells (l.drop (k + 1))) rfl ?_ ((HR.out.drop (k + 1)).news (by repeat (first | (with_reducible exact Below.refl _ _) | ((with_reducible refine alloc_ ?_ ?_); (focus (first | exact Nat.le_refl _ | (simp; done) | (simp; omega) | omega))) | ((with_reducible refine set_ ?_ ?_); (focus (first | exact Nat.le_refl _ | (simp; done) | (simp; omega) | omega))) | (with_reducible refine Below.drew ?_) | ((with_reducible refine after_ ?_ (by assumption) ?_); (rotate_left; (focus (first | exact Nat.le_refl _ | (simp; done) | (simp; omega) | omega)))))) Tsk.four (by decide)) (flat_cells Tsk.ones _) ?_ ?_ ?_; (focus (rw [flat_len Tsk.four, List.length_drop] <;> omega)); (focus omega); (focus (first | omega | (simp; omega))); intro v3 w3 hown3 hb3 hk3; have hz3 := hb3.size))
            all_goals
              clear s1 s2 s3 s4 s5
              obtain ⟨A3, cap3, rfl⟩ := ownsRow_shape hown3
              have HW := Lib.hid (own_flat (l := less l k) hown3 (by rw [less_len hlt]; omega) (by rw [List.nil_append, flat_app]; rfl) Tsk.four)
              have HB3 := Lib.hid (show Below wr.heap.size wr w3 from (by repeat (first | (with_reducible exact Below.refl _ _) | ((with_reducible refine alloc_ ?_ ?_); (focus (first | exact Nat.le_refl _ | (simp; done) | (simp; omega) | omega))) | ((with_reducible refine set_ ?_ ?_); (focus (first | exact Nat.le_refl _ | (simp; done) | (simp; omega) | omega))) | (with_reducible refine Below.drew ?_) | ((with_reducible refine after_ ?_ (by assumption) ?_); (rotate_left; (focus (first | exact Nat.le_refl _ | (simp; done) | (simp; omega) | omega)))))))
              have hcl := bb_of (implHasTaskPlan_c (less l k) A3 cap3 w3 (by rw [less_len hlt]; omega) (HW.out.rd Tsk.four)) HHP.out
              rw [less_len hlt, show l.length - 1 = k + (l.length - (k + 1)) by omega] at hcl
              have HCL := Lib.hid hcl
              clear hown3 hown1 hb1 hb3 hk1 hk3 hcl
              go_wp2_with fail
              refine HCL.out.mono ?_
              rintro e w2 ⟨rfl, hb2⟩
              have HQ := Lib.hid (HB3.out.trans (hb2.mono HB3.out.size))
              have HBq := Lib.hid (HB.out.trans (HQ.out.mono z1))
              have hcq := (HR.out.below HQ.out z1)
              have HVH := Lib.hid (by have := vHas_c L B1 e1 (nth l k).i w2 hL1 ((RS.out.carry HBq.out).rd fun _ => rfl); rw [show hasI L (nth l k).i = h from HHI.out] at this; exact this : Calls Try.prog 48 #[.slice B1 L.length e1, .int .i64 (nth l k).i] w2 fun e w' => e = .returned (.bool h) ∧ w2 = w')
              obtain ⟨b', off', he, hb', t0, t1, t2, t3⟩ := Tsk.rd hcq hlt
              simp only [Option.some.injEq, Addr.mk.injEq, and_true] at he
              obtain ⟨rfl, rfl⟩ := he
              have zq := HQ.out.size
              have l1 : b < w2.heap.size := by omega
              clear hb2 HCL hcq t1 t2 t3
              go_wp2_with fail
              refine HVH.out.mono ?_
              rintro e w' ⟨rfl, rfl⟩
              rcases h with _ | _
              all_goals
                go_wp2_with fail
                go_roundw
                case rel => exact ⟨k + 1, by omega, rfl, by go_num, HBq.out⟩
                case measure => simp [intOf]; omega
      · clear hbel
        go_wp2_with fail
        go_meet
        exact ⟨rfl, HB.out⟩
  case rest => as_aux_lemma =>
    obtain ⟨rfl, hbc⟩ := hcut
    have kd0 := KS.out.carry hbc
    have HBC := Lib.hid (HBA.out.trans (hbc.mono HBA.out.size))
    clear hbc HBH HBA OS RS KS
    obtain ⟨w0, hw0⟩ : ∃ w0, w0 = wc := ⟨_, rfl⟩
    subst hw0
    go_wp2_with fail
    refine (drawAddTask_c _ _ _ _ kd0).mono ?_
    rintro e wa ⟨g2, c2, l, x, rfl, hc2, hl2, oa, hba⟩
    have hl1 : l.length ≤ 1048576 := by omega
    have HX := Lib.hid (Box.new wa [.int .i64 x.i, .int .i64 x.f, .int .i64 x.u, .int .i64 x.d] 50)
    have kda := kd0.carry hba
    have hB1 : Below wa.heap.size wa (wa.alloc (.cells #[.int .i64 x.i, .int .i64 x.f, .int .i64 x.u, .int .i64 x.d] 50)) := (Below.refl _ _).alloc (Nat.le_refl _) _
    have o1 := oa.carry hB1
    have kd1 := kda.carry hB1
    have HB1 := Lib.hid ((HBC.out.trans (hba.mono HBC.out.size)).trans (hB1.mono (Nat.le_trans HBC.out.size hba.size)))
    have hadd := add_plan (l := l) (x := x)
    have hnone := addP_none (l := l) (x := x)
    have hil := ins_len l x
    obtain ⟨⟨M, told⟩, hv⟩ : ∃ p, addP l x = p := ⟨_, rfl⟩
    rw [hv] at hadd hnone
    have HV := Lib.hid hv
    have HADD := Lib.hid (show told = true → M = ins l x ∧ hasP (ins l x) = (true, true) ∧ ∃ s, slack (ins l x) x.i = (s, true) ∧ 0 ≤ s from hadd)
    have hM : M.length ≤ 8 := by
      rcases told with _ | _
      · rw [show M = [] from hnone rfl]; simp
      · rw [(HADD.out rfl).1, hil]; omega
    have hM1 : M.length ≤ 1048576 := by omega
    have HIL := Lib.hid hil
    clear hv hadd hnone hil hba oa kda hB1
    go_wp2_with fail
    refine (tp_of (implAddTask_c l x g2 0 c2 _ hl1 (o1.rd fun _ => rfl)) HV.out).mono ?_
    rintro e wb ⟨B3, e3, rfl, pb, hbb⟩
    have ob := o1.carry hbb
    have kdb := kd1.carry hbb
    have HXb := Lib.hid (HX.out.carry hbb)
    have k0 := HXb.out.cell (j := 0) rfl
    have k1 := HXb.out.cell (j := 1) rfl
    have k2 := HXb.out.cell (j := 2) rfl
    have k3 := HXb.out.cell (j := 3) rfl
    have HBb := Lib.hid (HB1.out.trans (hbb.mono HB1.out.size))
    clear hbb o1 kd1
    go_wp2_with fail
    refine (tp_of (specAddTask_c l x g2 0 c2 _ hl1 hc2 (ob.rd fun _ => rfl)) HV.out).mono ?_
    rintro e wd ⟨B4, e4, rfl, qd, hbd⟩
    have pd := pb.carry hbd
    have kdd := kdb.carry hbd
    have HXd := Lib.hid (HXb.out.carry hbd)
    have HBd := Lib.hid (HBb.out.trans (hbd.mono HBb.out.size))
    clear hbd k0 k1 k2 k3 ob pb kdb
    go_wp2_with fail
    refine (vTasks_same M _ _ _ _ _ hM1 (pd.rd fun _ => rfl) (qd.rd fun _ => rfl)).mono ?_
    rintro e we ⟨rfl, hbe⟩
    have pe := pd.carry hbe
    have kde := kdd.carry hbe
    have HXe := Lib.hid (HXd.out.carry hbe)
    have HBe := Lib.hid (HBd.out.trans (hbe.mono HBd.out.size))
    clear hbe pd kdd qd HX HXb HXd HBb HBd HB1
    go_upto_if 119 with fail
    go_cut [2] (fun s wx => s = .bool false ∧ Codes wx A n ∧ Below w.heap.size w wx)
    case first => as_aux_lemma =>
      rcases told with _ | _
      · go_wp2_with fail
        go_meet
        exact ⟨rfl, kde, HBe.out⟩
      · obtain ⟨m1, m2, sl, m3, m4⟩ := HADD.out rfl
        rw [← m1] at m2 m3
        have M2 := Lib.hid m2
        have M3 := Lib.hid m3
        have hml : M.length = l.length + 1 := by rw [m1]; exact HIL.out
        have HML := Lib.hid hml
        have k0 := HXe.out.cell (j := 0) rfl
        have HC0 := Lib.hid k0
        clear m1 m2 m3 hml
        go_wp2_with fail
        refine (bb_of (implHasTaskPlan_c M _ _ _ hM1 (pe.rd fun _ => rfl)) M2.out).mono ?_
        rintro e wf ⟨rfl, hbf⟩
        have pf := pe.carry hbf
        have kdf := kde.carry hbf
        have k0 := (HXe.out.carry hbf).cell (j := 0) rfl
        have HBf := Lib.hid (HBe.out.trans (hbf.mono HBe.out.size))
        clear hbf pe kde
        go_wp2_with fail
        refine (nb_of (implSlackOf_c M _ _ x.i _ hM1 (pf.rd fun _ => rfl)) M3.out).mono ?_
        rintro e wg ⟨rfl, hbg⟩
        have kdg := kdf.carry hbg
        have HBg := Lib.hid (HBf.out.trans (hbg.mono HBf.out.size))
        have e1 : ((M.length : Int) != (l.length : Int) + 1) = false := by rw [HML.out]; simp
        clear hbg pf kdf
        go_wp2_with fail
        go_meet
        exact ⟨rfl, kdg, HBg.out⟩
    case rest => as_aux_lemma =>
      obtain ⟨rfl, kf0, hbc⟩ := hcut
      have HBC2 := Lib.hid hbc
      clear hbc HBC HV HADD HIL HXe HBe pe kde
      obtain ⟨w0, hw0⟩ : ∃ w0, w0 = wc := ⟨_, rfl⟩
      subst hw0
      go_wp2_with fail
      refine (drawSlackOf_c _ _ _ _ kf0).mono ?_
      rintro e w1 ⟨g1, c1, l, i, rfl, hl, o1, hb1⟩
      have hz1 := hb1.size
      try simp only [World.size_alloc] at g1
      try simp only [World.size_alloc] at c1
      try simp only [World.size_alloc] at l
      try simp only [World.size_alloc] at i
      try simp only [World.size_alloc] at hl
      try simp only [World.size_alloc] at o1
      have hB1 : Below w0.heap.size w0 w1 := (by repeat (first | (with_reducible exact Below.refl _ _) | ((with_reducible refine alloc_ ?_ ?_); (focus (first | exact Nat.le_refl _ | (simp; done) | (simp; omega) | omega))) | ((with_reducible refine set_ ?_ ?_); (focus (first | exact Nat.le_refl _ | (simp; done) | (simp; omega) | omega))) | (with_reducible refine Below.drew ?_) | ((with_reducible refine after_ ?_ (by assumption) ?_); (rotate_left; (focus (first | exact Nat.le_refl _ | (simp; done) | (simp; omega) | omega))))))
      have hs1 := hB1.size
      have kf1 := kf0.carry hB1
      have hl1 : l.length ≤ 1048576 := by omega
      obtain ⟨⟨v, b⟩, hv⟩ : ∃ p, slack l i = p := ⟨_, rfl⟩
      have HV := Lib.hid hv
      clear hv hl
      go_wp2_with fail
      refine (nb_of (implSlackOf_c l _ _ i _ hl1 (o1.rd fun _ => rfl)) HV.out).mono ?_
      rintro e w2 ⟨rfl, hb2⟩
      have hz2 := hb2.size
      have hB2 : Below w1.heap.size w1 w2 := (by repeat (first | (with_reducible exact Below.refl _ _) | ((with_reducible refine alloc_ ?_ ?_); (focus (first | exact Nat.le_refl _ | (simp; done) | (simp; omega) | omega))) | ((with_reducible refine set_ ?_ ?_); (focus (first | exact Nat.le_refl _ | (simp; done) | (simp; omega) | omega))) | (with_reducible refine Below.drew ?_) | ((with_reducible refine after_ ?_ (by assumption) ?_); (rotate_left; (focus (first | exact Nat.le_refl _ | (simp; done) | (simp; omega) | omega))))))
      have hs2 := hB2.size
      have kf2 := kf1.carry hB2
      have o2 := o1.carry hB2
      go_wp2_with fail
      refine (nb_of (specSlackOf_c l _ _ i _ hl1 (o2.rd fun _ => rfl)) HV.out).mono ?_
      rintro e w3 ⟨rfl, hb3⟩
      have hz3 := hb3.size
      have hB3 : Below w2.heap.size w2 w3 := (by repeat (first | (with_reducible exact Below.refl _ _) | ((with_reducible refine alloc_ ?_ ?_); (focus (first | exact Nat.le_refl _ | (simp; done) | (simp; omega) | omega))) | ((with_reducible refine set_ ?_ ?_); (focus (first | exact Nat.le_refl _ | (simp; done) | (simp; omega) | omega))) | (with_reducible refine Below.drew ?_) | ((with_reducible refine after_ ?_ (by assumption) ?_); (rotate_left; (focus (first | exact Nat.le_refl _ | (simp; done) | (simp; omega) | omega))))))
      have hs3 := hB3.size
      have kf3 := kf2.carry hB3
      have o3 := o2.carry hB3
      go_wp2_with fail
      refine (drawEarliestEnd_c _ _ _ _ kf3).mono ?_
      rintro e w4 ⟨g2, c2, l2, rfl, hc2, hl2, p4, hb4⟩
      have hz4 := hb4.size
      try simp only [World.size_alloc] at g2
      try simp only [World.size_alloc] at c2
      try simp only [World.size_alloc] at l2
      try simp only [World.size_alloc] at hc2
      try simp only [World.size_alloc] at hl2
      try simp only [World.size_alloc] at p4
      have hB4 : Below w3.heap.size w3 w4 := (by repeat (first | (with_reducible exact Below.refl _ _) | ((with_reducible refine alloc_ ?_ ?_); (focus (first | exact Nat.le_refl _ | (simp; done) | (simp; omega) | omega))) | ((with_reducible refine set_ ?_ ?_); (focus (first | exact Nat.le_refl _ | (simp; done) | (simp; omega) | omega))) | (with_reducible refine Below.drew ?_) | ((with_reducible refine after_ ?_ (by assumption) ?_); (rotate_left; (focus (first | exact Nat.le_refl _ | (simp; done) | (simp; omega) | omega))))))
      have hs4 := hB4.size
      have kf4 := kf3.carry hB4
      have o4 := o3.carry hB4
      have hl3 : l2.length ≤ 1048576 := by omega
      obtain ⟨⟨v2, b2⟩, hv2⟩ : ∃ p, endP l2 = p := ⟨_, rfl⟩
      have HV2 := Lib.hid hv2
      clear hv2 hl2 hc2
      go_wp2_with fail
      refine (nb_of (implEarliestEnd_c l2 _ _ _ hl3 (p4.rd fun _ => rfl)) HV2.out).mono ?_
      rintro e w5 ⟨rfl, hb5⟩
      have hz5 := hb5.size
      have hB5 : Below w4.heap.size w4 w5 := (by repeat (first | (with_reducible exact Below.refl _ _) | ((with_reducible refine alloc_ ?_ ?_); (focus (first | exact Nat.le_refl _ | (simp; done) | (simp; omega) | omega))) | ((with_reducible refine set_ ?_ ?_); (focus (first | exact Nat.le_refl _ | (simp; done) | (simp; omega) | omega))) | (with_reducible refine Below.drew ?_) | ((with_reducible refine after_ ?_ (by assumption) ?_); (rotate_left; (focus (first | exact Nat.le_refl _ | (simp; done) | (simp; omega) | omega))))))
      have hs5 := hB5.size
      have kf5 := kf4.carry hB5
      have o5 := o4.carry hB5
      have p5 := p4.carry hB5
      go_wp2_with fail
      refine (nb_of (specEarliestEnd_c l2 _ _ _ hl3 (p5.rd fun _ => rfl)) HV2.out).mono ?_
      rintro e w6 ⟨rfl, hb6⟩
      have hz6 := hb6.size
      have hB6 : Below w5.heap.size w5 w6 := (by repeat (first | (with_reducible exact Below.refl _ _) | ((with_reducible refine alloc_ ?_ ?_); (focus (first | exact Nat.le_refl _ | (simp; done) | (simp; omega) | omega))) | ((with_reducible refine set_ ?_ ?_); (focus (first | exact Nat.le_refl _ | (simp; done) | (simp; omega) | omega))) | (with_reducible refine Below.drew ?_) | ((with_reducible refine after_ ?_ (by assumption) ?_); (rotate_left; (focus (first | exact Nat.le_refl _ | (simp; done) | (simp; omega) | omega))))))
      have hs6 := hB6.size
      have kf6 := kf5.carry hB6
      have o6 := o5.carry hB6
      have p6 := p5.carry hB6
      have HE := Lib.hid (HBC2.out.trans (Below.mono (B := w0.heap.size) (show Below w0.heap.size w0 w6 from (by repeat (first | (with_reducible exact Below.refl _ _) | ((with_reducible refine alloc_ ?_ ?_); (focus (first | exact Nat.le_refl _ | (simp; done) | (simp; omega) | omega))) | ((with_reducible refine set_ ?_ ?_); (focus (first | exact Nat.le_refl _ | (simp; done) | (simp; omega) | omega))) | (with_reducible refine Below.drew ?_) | ((with_reducible refine after_ ?_ (by assumption) ?_); (rotate_left; (focus (first | exact Nat.le_refl _ | (simp; done) | (simp; omega) | omega))))))) HBC2.out.size))
      rcases b2 with _ | _
      all_goals
        go_wp2_with fail
        go_ret
        exact ⟨rfl, HE.out⟩
namespace fnBlocking
set_option linter.unusedVariables false
theorem own : ownKnob Try.prog.godebug = none := by kernel_rfl
theorem laidOut : laidOutB Try.prog = true := by kernel_rfl
set_option maxRecDepth 100000 in
theorem lifted (os : Os) (started : os.Started) (H : Type) (enc : TypeId × Value → H) :
    ReturnsInHanded {} Try.checked os 13 .any (Rows.fnBlockingSpec.pre6 enc Try.prog Try.f13 Rows.fnBlockingRow.domain false) (Rows.fnBlockingSpec.post enc Try.prog Try.f13 false true false false) := by
  refine returnsInHanded_of_change (C := Try.checked) own started (by kernel_rfl) Try.func13
    (ChangeSpec.witness6 (enc := enc) (C := Try.checked) false ⟨#[], #[.slice none 0 0], []⟩ 8 (by kernel_rfl) (by kernel_rfl) (by kernel_rfl) (by kernel_rfl)) ?_
  intro W base args ds gs before hval0 hW hcnd _
  have hval : ∀ (j : Nat) t v, Try.f13.params[j]? = some t → args[j]? = some v → Value.okWide Try.prog W .any base t v := hval0
  have hW' := hW
  obtain ⟨p, q, hA0, hV, rfl, hfz, hnd⟩ := hW
  have hA : DataW.TrodAll enc Try.prog W 0 (fun _ => true) true Try.f13.params.toList args.toList ds p := hA0
  rw [Try.params13] at hA hval
  obtain ⟨v0, vs0, d0, ds0, p0, q0, hargs, rfl, rfl, h0, r0⟩ := trodAll_cons hA
  obtain ⟨rfl, rfl, rfl⟩ := trodAll_nil r0
  obtain rfl : args = #[v0] := by cases args; simp_all
  obtain ⟨rfl, rfl⟩ := trodVars_none hV
  have k0 := h0
  have lt0 : ∀ x ∈ p0, x.block < W.heap.size := by obtain ⟨m, hm⟩ := k0; exact DataW.trod_lt m _ _ _ hm
  obtain ⟨a0, len0, cap0, rfl⟩ := okWide_slice Try.underlying53 (hval 0 53 v0 rfl rfl)
  obtain ⟨code, w0⟩ := open_byteS Try.underlying53 Try.underlying5 (by kernel_rfl) h0
  clear hA0 hval0
  refine (lawBlocking code a0 len0 cap0 W w0).mono fun e W' ⟨he, bel⟩ => ?_
  subst he
  exact ⟨_, rfl, _, _, _, [], _, [], hW', trodAll_mk1 (shut_bool Try.underlying4 _), (trodAll_cons_mk (Below.trod laidOut (by kernel_rfl) (of_decide_eq_true (by kernel_rfl)) k0 bel lt0) trodAll_mk0), rfl, bel.frame _, fun h => by cases h⟩
theorem over : Rows.fnBlockingRow.holds Try.pinned (OpenSpec.ofChange Rows.fnBlockingSpec) :=
  OpenClaim.holds_of_wide 13 Try.f13 rfl rfl rfl rfl rfl rfl rfl ⟨rfl, rfl, rfl, rfl, rfl⟩ rfl rfl rfl rfl rfl (by kernel_rfl) Try.func13 (by kernel_rfl)
    (of_decide_eq_true (by kernel_rfl)) (by unfold Func.isWrapper; first | (rw [if_pos (by decide +kernel)]; kernel_rfl) | (rw [if_neg (by decide +kernel)]; exact ⟨rfl, rfl⟩))
    (fun os started H enc _ => lifted os started H enc)
/-- The given statement. -/
theorem proved : Rows.FnBlockingSaid := over
#print axioms proved
end fnBlocking
end Go.Proofs.Ytokddcnkfeimkaa
