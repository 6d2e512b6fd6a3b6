/- MoveCabin of the reference returns the plain answer; no conditions but the length. -/
import Derived.Test.YteoajaichjojdaaDoorCabMore
namespace Go.Proofs.YteoajaichjojdaaDoor
open Go.RowKit Go.Lib
theorem l5Good_n (l : List Cbn) (n : Nat) (A : Option Addr) (cap : Nat) (w : World) (hn : l.length = n) (hl : n ≤ 1048576) (hr : Rd w w.heap.size 5 Cbn.cells A l) :
    Calls Tryd.prog 44 #[.slice A n cap] w fun e w' => e = .returned (.bool (goodC l)) ∧ Below w.heap.size w w' := by
  subst hn
  exact l5Good_c l A cap w hl hr
set_option maxHeartbeats 1600000 in
theorem specMoveCabin_c (l : List Cbn) (b off cap : Nat) (x t : Int) (w : World) (hl : l.length ≤ 1048576) (hr : Rd w w.heap.size 5 Cbn.cells (some ⟨b, off, none⟩) l) :
    Calls Tryd.prog 14 #[.slice (some ⟨b, off, none⟩) l.length cap, .int .i64 x, .int .i64 t] w (CbnPost (moveC l x t) w) := by
  have HR := Lib.hid hr
  clear hr
  rcases hg : goodC l with _ | _
  · have H := Lib.hid (show moveC l x t = ([], false) by simp [moveC, canMove, hg])
    go_enter Tryd.func14, Tryd.ntmps14
    go_wp2_with fail
    refine (l5Good_c l _ _ _ hl HR.out).mono ?_
    rintro e w1 ⟨rfl, hb1⟩
    have z1 := hb1.size
    rw [hg]
    clear hg
    go_wp2_with fail
    go_ret2
    exact ⟨_, 0, retlC H.out, by rw [H.out]; exact Own.nil, (by repeat (first | (with_reducible exact Below.refl _ _) | ((with_reducible refine alloc_ ?_ ?_); (focus (first | exact Nat.le_refl _ | (simp; done) | (simp; omega) | omega))) | ((with_reducible refine set_ ?_ ?_); (focus (first | exact Nat.le_refl _ | (simp; done) | (simp; omega) | omega))) | (with_reducible refine Below.drew ?_) | ((with_reducible refine after_ ?_ (by assumption) ?_); (rotate_left; (focus (first | exact Nat.le_refl _ | (simp; done) | (simp; omega) | omega))))))⟩
  have HG := Lib.hid hg
  have hl12 := (goodC_true hg).1
  rcases h1 : inR t 0 3 with _ | _
  · have H := Lib.hid (show moveC l x t = ([], false) by
      have h := moveC_no (l := l) (x := x) (t := t) hg fun j hj q => by
        have h3 := q.2
        unfold mayC at h3
        simp only [inR, Bool.and_eq_false_iff, decide_eq_false_iff_not] at h1
        split at h3 <;> try omega
        split at h3 <;> try omega
        split at h3 <;> try omega
        split at h3 <;> try omega
        cases h3
      exact h)
    go_enter Tryd.func14, Tryd.ntmps14
    go_wp2_with fail
    refine (l5Good_c l _ _ _ hl HR.out).mono ?_
    rintro e w1 ⟨rfl, hb1⟩
    have z1 := hb1.size
    rw [hg]
    clear hg
    go_wp2_with (go_at_call 45; refine (l5State_c _ _).mono ?_; rintro e w' ⟨rfl, rfl⟩)
    go_ret2
    exact ⟨_, 0, retlC H.out, by rw [H.out]; exact Own.nil, (by repeat (first | (with_reducible exact Below.refl _ _) | ((with_reducible refine alloc_ ?_ ?_); (focus (first | exact Nat.le_refl _ | (simp; done) | (simp; omega) | omega))) | ((with_reducible refine set_ ?_ ?_); (focus (first | exact Nat.le_refl _ | (simp; done) | (simp; omega) | omega))) | (with_reducible refine Below.drew ?_) | ((with_reducible refine after_ ?_ (by assumption) ?_); (rotate_left; (focus (first | exact Nat.le_refl _ | (simp; done) | (simp; omega) | omega))))))⟩
  have HT := Lib.hid h1
  have HL := Lib.hid (flat_len (k := 5) (cells := Cbn.cells) (fun _ => rfl) l)
  go_enter Tryd.func14, Tryd.ntmps14
  go_wp2_with fail
  refine (l5Good_c l _ _ _ hl HR.out).mono ?_
  rintro e w1 ⟨rfl, hb1⟩
  rw [hg]
  have HR1 := Lib.hid (HR.out.carry hb1)
  have HB1 := Lib.hid hb1
  have z1 := hb1.size
  clear hg hb1
  go_wp2_with (first | (go_at_call 45; refine (l5State_c _ _).mono ?_; rintro e w' ⟨rfl, rfl⟩) | (refine wpList_extendS _ rfl (.tmp 20) (.tmp 21) 33 rfl w1.heap.size 25 _ 5 40 Tryd.underlying33 info_cbn rfl (by decide) (by decide) (.slice (some ⟨w1.heap.size, 0, none⟩) 0 0) 0 [] rfl (ownsRow_empty w1 25 5) (by simp [Value.ownBlock]) b off l.length cap (flat Cbn.cells l) rfl HL.out (HR1.out.news (by repeat (first | (with_reducible exact Below.refl _ _) | ((with_reducible refine alloc_ ?_ ?_); (focus (first | exact Nat.le_refl _ | (simp; done) | (simp; omega) | omega))) | ((with_reducible refine set_ ?_ ?_); (focus (first | exact Nat.le_refl _ | (simp; done) | (simp; omega) | omega))) | (with_reducible refine Below.drew ?_) | ((with_reducible refine after_ ?_ (by assumption) ?_); (rotate_left; (focus (first | exact Nat.le_refl _ | (simp; done) | (simp; omega) | omega)))))) (fun _ => rfl) (by decide)) (flat_cells (fun x u hu => by simp [Cbn.cells] at hu; rcases hu with rfl | rfl | rfl | rfl | rfl <;> rfl) l) (by omega) (by simp) ?_; intro v w2 hown hb2 hk2))
  rw [List.nil_append] at hown
  obtain ⟨g, gc, rfl, hgc, hcp, harr⟩ := ArrC.of_some hown (by omega) rfl hk2
  have HA := Lib.hid harr
  have HB := Lib.hid (show Below w.heap.size w w2 from HB1.out.trans (((Below.refl w.heap.size w1).alloc z1 _).trans (hb2.mono z1)))
  have hgw : w.heap.size ≤ g := by omega
  clear hown hb2 hk2 harr h1
  go_loopw [9] (fun i wr => ∃ k : Nat, k ≤ l.length ∧ i = .int .i64 k ∧ ∃ cur : List Cbn, cur.length = l.length ∧ ArrC wr g cur ∧ Below w.heap.size w wr ∧ ((cur = l ∧ ∀ j, j < k → ¬ ((nth l j).n = x ∧ mayC (nth l j).t t = true)) ∨ (moveC l x t = ([], false) ∧ ∀ j, k ≤ j → j < l.length → (nth cur j).n ≠ x))) (fun i _ => l.length - (intOf i).toNat)
  case atStart => exact ⟨0, Nat.zero_le _, rfl, l, rfl, HA.out, HB.out, .inl ⟨rfl, fun j hj => absurd hj (by omega)⟩⟩
  case round =>
    obtain ⟨k, hk, rfl, cur, hcl, harr, hbel, hph⟩ := hrel
    have HCL := Lib.hid hcl
    have HAr := Lib.hid harr
    have HBr := Lib.hid hbel
    have HP := Lib.hid hph
    have zr := hbel.size
    have glt := harr.lt
    by_cases hlt : k < l.length
    · obtain ⟨c0, c1, c2, c3, c4⟩ := harr.cell (show k < cur.length by omega)
      have hz := harr.frozen
      clear hbel harr hcl hph
      by_cases hn : (nth cur k).n = x
      · rcases HP.out with ⟨hcu, hno⟩ | ⟨_, hno⟩
        case inr => exact absurd hn (hno k (Nat.le_refl _) hlt)
        subst hcu
        have HNO := Lib.hid hno
        clear hno
        have hok := okC_true.1 ((goodC_true HG.out).2.1 k hlt)
        obtain ⟨r1, r2⟩ := hok.2.2.2.2
        have HS := Lib.hid (show inR (nth cur k).t 0 3 = true from inR_true.2 hok.2.2.2.1)
        have HN0 := Lib.hid hn
        obtain ⟨y, hy⟩ : ∃ y, nth cur k = y := ⟨_, rfl⟩
        have HY := Lib.hid hy
        rw [hy] at c0 c1 c2 c3 c4 hn HS r1 r2 HN0
        clear hok
        have hne : (!(y.n == x)) = false := by simp [hn]
        rcases hm : mayC y.t t with _ | _
        · have HM := Lib.hid hm
          clear hm hy
          go_wp2_with (go_at_call 46; refine (l5May_c y.t t _ HS.out HT.out).mono ?_; rintro e w' ⟨rfl, rfl⟩; rw [HM.out])
          go_roundw
          case rel => exact ⟨k + 1, by omega, by go_num, cur, rfl, HAr.out.carry (by repeat (first | (with_reducible exact Below.refl _ _) | ((with_reducible refine alloc_ ?_ ?_); (focus (first | exact Nat.le_refl _ | (simp; done) | (simp; omega) | omega))) | ((with_reducible refine set_ ?_ ?_); (focus (first | exact Nat.le_refl _ | (simp; done) | (simp; omega) | omega))) | (with_reducible refine Below.drew ?_) | ((with_reducible refine after_ ?_ (by assumption) ?_); (rotate_left; (focus (first | exact Nat.le_refl _ | (simp; done) | (simp; omega) | omega)))))), HBr.out.trans (Below.mono (B := wr.heap.size) (by repeat (first | (with_reducible exact Below.refl _ _) | ((with_reducible refine alloc_ ?_ ?_); (focus (first | exact Nat.le_refl _ | (simp; done) | (simp; omega) | omega))) | ((with_reducible refine set_ ?_ ?_); (focus (first | exact Nat.le_refl _ | (simp; done) | (simp; omega) | omega))) | (with_reducible refine Below.drew ?_) | ((with_reducible refine after_ ?_ (by assumption) ?_); (rotate_left; (focus (first | exact Nat.le_refl _ | (simp; done) | (simp; omega) | omega)))))) zr), .inl ⟨rfl, below_add HNO.out (by rw [HY.out, HM.out]; intro q; cases q.2)⟩⟩
          case measure => simp [intOf]; omega
        · have HM := Lib.hid hm
          obtain ⟨hm1, hm2⟩ := moveC_at (l := cur) (x := x) (t := t) (k := k) HG.out hlt (by rw [HY.out]; exact HN0.out) (by rw [HY.out]; exact hm)
          rw [hy] at hm1 hm2
          have HM1 := Lib.hid hm1
          have HM2 := Lib.hid hm2
          clear hm hy hm1 hm2
          by_cases hcase : y.t = 1 ∧ t = 0
          · obtain ⟨e1, e2⟩ := hcase
            have e1' : (y.t == 1) = true := by simp [e1]
            have e2' : (t == 0) = true := by simp [e2]
            have hv : movedC y t = ⟨x, y.s, y.e, t, y.r + 1⟩ := by simp [movedC, e1, e2, HN0.out]
            have HV := Lib.hid hv
            clear e1 e2 hn hv
            go_wp2_with (go_at_call 46; refine (l5May_c y.t t _ HS.out HT.out).mono ?_; rintro e w' ⟨rfl, rfl⟩; rw [HM.out])
            have HN := Lib.hid (show ArrC ((puts wr g (k * 5) [.int .i64 x, .int .i64 y.s, .int .i64 y.e, .int .i64 t, .int .i64 (y.r + 1)]).alloc (.cells #[.int .i64 x, .int .i64 y.s, .int .i64 y.e, .int .i64 t, .int .i64 (y.r + 1)] 25)) g (cur.set k (movedC y t)) by
              rw [HV.out]
              exact (HAr.out.put k ⟨x, y.s, y.e, t, y.r + 1⟩).carry (Below.alloc (Below.refl _ _) (Nat.le_refl _) _))
            have HGR := Lib.hid (show Below w.heap.size w ((puts wr g (k * 5) [.int .i64 x, .int .i64 y.s, .int .i64 y.e, .int .i64 t, .int .i64 (y.r + 1)]).alloc (.cells #[.int .i64 x, .int .i64 y.s, .int .i64 y.e, .int .i64 t, .int .i64 (y.r + 1)] 25)) from (fun h => Below.alloc h h.size _) (puts_below hgw _ _ _ HBr.out))
            simp only [puts] at HN HGR
            generalize (World.alloc (World.setCell _ _ _) _) = w4 at HN HGR ⊢
            clear c0 c1 c2 c3 c4 hz
            refine (l5Good_n (cur.set k (movedC y t)) cur.length _ _ _ (List.length_set ..) hl HN.out.rd).mono ?_
            rintro e w5 ⟨rfl, hb5⟩
            have HN5 := Lib.hid (HN.out.carry hb5)
            have HG5 := Lib.hid (HGR.out.trans (hb5.mono HGR.out.size))
            clear hb5
            rcases hgd : goodC (cur.set k (movedC y t)) with _ | _
            · have H := Lib.hid (show moveC cur x t = ([], false) by rw [HM1.out, hgd]; rfl)
              clear hgd
              go_wp2_with fail
              go_roundw
              case rel => exact ⟨k + 1, by omega, by go_num, cur.set k (movedC y t), List.length_set .., HN5.out, HG5.out, .inr ⟨H.out, fun j h1 h2 => HM2.out j (by omega) h2⟩⟩
              case measure => simp [intOf]; omega
            · have H := Lib.hid (show moveC cur x t = (cur.set k (movedC y t), true) by rw [HM1.out, hgd]; rfl)
              clear hgd
              go_wp2_with fail
              go_ret2
              exact ⟨some ⟨g, 0, none⟩, gc, by rw [H.out]; simp, by rw [H.out]; exact HN5.out.own hgw, HG5.out⟩
          · have hv : movedC y t = ⟨x, y.s, y.e, t, y.r⟩ := by simp [movedC, hcase, HN0.out]
            have HV := Lib.hid hv
            by_cases e1 : y.t = 1
            · have e1' : (y.t == 1) = true := by simp [e1]
              have e2' : (t == 0) = false := by rw [beq_eq_false_iff_ne]; exact fun q => hcase ⟨e1, q⟩
              clear hcase e1 hn hv
              go_wp2_with (go_at_call 46; refine (l5May_c y.t t _ HS.out HT.out).mono ?_; rintro e w' ⟨rfl, rfl⟩; rw [HM.out])
              have HN := Lib.hid (show ArrC ((puts wr g (k * 5) [.int .i64 x, .int .i64 y.s, .int .i64 y.e, .int .i64 t, .int .i64 (y.r)]).alloc (.cells #[.int .i64 x, .int .i64 y.s, .int .i64 y.e, .int .i64 t, .int .i64 (y.r)] 25)) g (cur.set k (movedC y t)) by
                rw [HV.out]
                exact (HAr.out.put k ⟨x, y.s, y.e, t, y.r⟩).carry (Below.alloc (Below.refl _ _) (Nat.le_refl _) _))
              have HGR := Lib.hid (show Below w.heap.size w ((puts wr g (k * 5) [.int .i64 x, .int .i64 y.s, .int .i64 y.e, .int .i64 t, .int .i64 (y.r)]).alloc (.cells #[.int .i64 x, .int .i64 y.s, .int .i64 y.e, .int .i64 t, .int .i64 (y.r)] 25)) from (fun h => Below.alloc h h.size _) (puts_below hgw _ _ _ HBr.out))
              simp only [puts] at HN HGR
              generalize (World.alloc (World.setCell _ _ _) _) = w4 at HN HGR ⊢
              clear c0 c1 c2 c3 c4 hz
              refine (l5Good_n (cur.set k (movedC y t)) cur.length _ _ _ (List.length_set ..) hl HN.out.rd).mono ?_
              rintro e w5 ⟨rfl, hb5⟩
              have HN5 := Lib.hid (HN.out.carry hb5)
              have HG5 := Lib.hid (HGR.out.trans (hb5.mono HGR.out.size))
              clear hb5
              rcases hgd : goodC (cur.set k (movedC y t)) with _ | _
              · have H := Lib.hid (show moveC cur x t = ([], false) by rw [HM1.out, hgd]; rfl)
                clear hgd
                go_wp2_with fail
                go_roundw
                case rel => exact ⟨k + 1, by omega, by go_num, cur.set k (movedC y t), List.length_set .., HN5.out, HG5.out, .inr ⟨H.out, fun j h1 h2 => HM2.out j (by omega) h2⟩⟩
                case measure => simp [intOf]; omega
              · have H := Lib.hid (show moveC cur x t = (cur.set k (movedC y t), true) by rw [HM1.out, hgd]; rfl)
                clear hgd
                go_wp2_with fail
                go_ret2
                exact ⟨some ⟨g, 0, none⟩, gc, by rw [H.out]; simp, by rw [H.out]; exact HN5.out.own hgw, HG5.out⟩
            · have e1' : (y.t == 1) = false := by rw [beq_eq_false_iff_ne]; exact e1
              clear hcase e1 hn hv
              go_wp2_with (go_at_call 46; refine (l5May_c y.t t _ HS.out HT.out).mono ?_; rintro e w' ⟨rfl, rfl⟩; rw [HM.out])
              have HN := Lib.hid (show ArrC ((puts wr g (k * 5) [.int .i64 x, .int .i64 y.s, .int .i64 y.e, .int .i64 t, .int .i64 (y.r)]).alloc (.cells #[.int .i64 x, .int .i64 y.s, .int .i64 y.e, .int .i64 t, .int .i64 (y.r)] 25)) g (cur.set k (movedC y t)) by
                rw [HV.out]
                exact (HAr.out.put k ⟨x, y.s, y.e, t, y.r⟩).carry (Below.alloc (Below.refl _ _) (Nat.le_refl _) _))
              have HGR := Lib.hid (show Below w.heap.size w ((puts wr g (k * 5) [.int .i64 x, .int .i64 y.s, .int .i64 y.e, .int .i64 t, .int .i64 (y.r)]).alloc (.cells #[.int .i64 x, .int .i64 y.s, .int .i64 y.e, .int .i64 t, .int .i64 (y.r)] 25)) from (fun h => Below.alloc h h.size _) (puts_below hgw _ _ _ HBr.out))
              simp only [puts] at HN HGR
              generalize (World.alloc (World.setCell _ _ _) _) = w4 at HN HGR ⊢
              clear c0 c1 c2 c3 c4 hz
              refine (l5Good_n (cur.set k (movedC y t)) cur.length _ _ _ (List.length_set ..) hl HN.out.rd).mono ?_
              rintro e w5 ⟨rfl, hb5⟩
              have HN5 := Lib.hid (HN.out.carry hb5)
              have HG5 := Lib.hid (HGR.out.trans (hb5.mono HGR.out.size))
              clear hb5
              rcases hgd : goodC (cur.set k (movedC y t)) with _ | _
              · have H := Lib.hid (show moveC cur x t = ([], false) by rw [HM1.out, hgd]; rfl)
                clear hgd
                go_wp2_with fail
                go_roundw
                case rel => exact ⟨k + 1, by omega, by go_num, cur.set k (movedC y t), List.length_set .., HN5.out, HG5.out, .inr ⟨H.out, fun j h1 h2 => HM2.out j (by omega) h2⟩⟩
                case measure => simp [intOf]; omega
              · have H := Lib.hid (show moveC cur x t = (cur.set k (movedC y t), true) by rw [HM1.out, hgd]; rfl)
                clear hgd
                go_wp2_with fail
                go_ret2
                exact ⟨some ⟨g, 0, none⟩, gc, by rw [H.out]; simp, by rw [H.out]; exact HN5.out.own hgw, HG5.out⟩
      · have hne : (!((nth cur k).n == x)) = true := by simp [hn]
        have HN0 := Lib.hid hn
        clear hn
        go_wp2_with fail
        go_roundw
        case rel => exact ⟨k + 1, by omega, by go_num, cur, HCL.out, HAr.out.carry (by repeat (first | (with_reducible exact Below.refl _ _) | ((with_reducible refine alloc_ ?_ ?_); (focus (first | exact Nat.le_refl _ | (simp; done) | (simp; omega) | omega))) | ((with_reducible refine set_ ?_ ?_); (focus (first | exact Nat.le_refl _ | (simp; done) | (simp; omega) | omega))) | (with_reducible refine Below.drew ?_) | ((with_reducible refine after_ ?_ (by assumption) ?_); (rotate_left; (focus (first | exact Nat.le_refl _ | (simp; done) | (simp; omega) | omega)))))), HBr.out.trans (Below.mono (B := wr.heap.size) (by repeat (first | (with_reducible exact Below.refl _ _) | ((with_reducible refine alloc_ ?_ ?_); (focus (first | exact Nat.le_refl _ | (simp; done) | (simp; omega) | omega))) | ((with_reducible refine set_ ?_ ?_); (focus (first | exact Nat.le_refl _ | (simp; done) | (simp; omega) | omega))) | (with_reducible refine Below.drew ?_) | ((with_reducible refine after_ ?_ (by assumption) ?_); (rotate_left; (focus (first | exact Nat.le_refl _ | (simp; done) | (simp; omega) | omega)))))) zr), by
          rcases HP.out with ⟨rfl, h⟩ | ⟨h, h'⟩
          · exact .inl ⟨rfl, below_add h fun q => HN0.out q.1⟩
          · exact .inr ⟨h, fun j h1 h2 => h' j (by omega) h2⟩⟩
        case measure => simp [intOf]; omega
    · obtain rfl : k = l.length := by omega
      clear hbel harr hcl hph
      have H := Lib.hid (show moveC l x t = ([], false) by
        rcases HP.out with ⟨rfl, h⟩ | ⟨h, _⟩
        · exact moveC_no HG.out h
        · exact h)
      go_wp2_with fail
      go_ret2
      exact ⟨_, 0, retlC H.out, by rw [H.out]; exact Own.nil, HBr.out.trans (Below.mono (B := wr.heap.size) (by repeat (first | (with_reducible exact Below.refl _ _) | ((with_reducible refine alloc_ ?_ ?_); (focus (first | exact Nat.le_refl _ | (simp; done) | (simp; omega) | omega))) | ((with_reducible refine set_ ?_ ?_); (focus (first | exact Nat.le_refl _ | (simp; done) | (simp; omega) | omega))) | (with_reducible refine Below.drew ?_) | ((with_reducible refine after_ ?_ (by assumption) ?_); (rotate_left; (focus (first | exact Nat.le_refl _ | (simp; done) | (simp; omega) | omega)))))) zr)⟩
end Go.Proofs.YteoajaichjojdaaDoor
