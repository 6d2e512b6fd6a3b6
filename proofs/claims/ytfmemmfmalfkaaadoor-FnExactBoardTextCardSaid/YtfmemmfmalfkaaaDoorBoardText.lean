/- The text of a platform: the program's and the reference's BoardText return one Lean function; no conditions but that the powers of ten lie where the library's text lays them. -/
import Derived.Test.YtfmemmfmalfkaaaDoorPlat
import Derived.Test.YtfmemmfmalfkaaaDoorItoa
import Derived.Deep.DeepCutAuto
import Derived.Deep.RegionHeld3
namespace Go.Proofs.YtfmemmfmalfkaaaDoor
open Go.RowKit

def cabL : List UInt8 := [99, 97, 98, 105, 110, 32]
def noL : List UInt8 := [110, 111, 32, 99, 97, 98, 105, 110]
def shutL : List UInt8 := [32, 115, 104, 117, 116]
def openL : List UInt8 := [32, 111, 112, 101, 110]
def waitL : List UInt8 := [32, 119, 97, 105, 116, 105, 110, 103]
def levelL : List UInt8 := [32, 40, 108, 101, 118, 101, 108, 41]
def headL (x : Pla) : List UInt8 := if 0 < x.s then cabL ++ num x.n ++ [47] ++ num x.s ++ (if x.d = 1 then openL else shutL) else noL
def boardL (x : Pla) : List UInt8 := headL x ++ [44, 32] ++ num x.w ++ waitL ++ (if x.l then levelL else [])
def boardP (x : Pla) : ByteArray × Bool := if okP x then (S (boardL x), true) else (⟨#[]⟩, false)
def TextP (p : ByteArray × Bool) (w : World) (e : Ending) (w' : World) : Prop := e = .returned (.tuple #[.string p.1, .bool p.2]) ∧ Below w.heap.size w w'
theorem retT {p : ByteArray × Bool} {v : ByteArray} {b : Bool} (h : p = (v, b)) : Ending.returned (.tuple #[.string v, .bool b]) = .returned (.tuple #[.string p.1, .bool p.2]) := by rw [h]
theorem str_of {f : FuncId} {args : Array Value} {W : World} {l : List UInt8} {a : ByteArray} (h : Calls Tryd.prog f args W fun e w' => e = .returned (.string (S l)) ∧ Below W.heap.size W w') (ha : S l = a) :
    Calls Tryd.prog f args W fun e w' => e = .returned (.string a) ∧ Below W.heap.size W w' := by subst ha; exact h
theorem num_S {n : Int} {a : ByteArray} (h0 : -1000000 ≤ n) (h1 : n ≤ 1000000) (h : S (num n) = a) : a.size ≤ 21 := by rw [← h, S_size]; exact num_len (by omega) (by omega)
theorem head_shut {x : Pla} {a c : ByteArray} (hs : 0 < x.s) (hd : ¬ x.d = 1) (ha : S (num x.n) = a) (hc : S (num x.s) = c) : (⟨#[99, 97, 98, 105, 110, 32]⟩ ++ a ++ ⟨#[47]⟩ ++ c ++ ⟨#[32, 115, 104, 117, 116]⟩ : ByteArray) = S (headL x) := by
  have e : S cabL ++ S (num x.n) ++ S [47] ++ S (num x.s) ++ S shutL = S (headL x) := by rw [headL, if_pos hs, if_neg hd, S_app, S_app, S_app, S_app]
  rw [← e, ha, hc]; rfl
theorem head_open {x : Pla} {a c : ByteArray} (hs : 0 < x.s) (hd : x.d = 1) (ha : S (num x.n) = a) (hc : S (num x.s) = c) : (⟨#[99, 97, 98, 105, 110, 32]⟩ ++ a ++ ⟨#[47]⟩ ++ c ++ ⟨#[32, 111, 112, 101, 110]⟩ : ByteArray) = S (headL x) := by
  have e : S cabL ++ S (num x.n) ++ S [47] ++ S (num x.s) ++ S openL = S (headL x) := by rw [headL, if_pos hs, if_pos hd, S_app, S_app, S_app, S_app]
  rw [← e, ha, hc]; rfl
theorem head_no {x : Pla} (hs : ¬ 0 < x.s) : (⟨#[110, 111, 32, 99, 97, 98, 105, 110]⟩ : ByteArray) = S (headL x) := by rw [headL, if_neg hs]; rfl
theorem head_len {x : Pla} (h : okP x = true) : (S (headL x)).size ≤ 100 := by
  obtain ⟨_, h2, h3, _⟩ := okP_true h
  have e1 := num_len (n := x.n) (by omega) (by omega)
  have e2 := num_len (n := x.s) (by omega) (by omega)
  rw [S_size]
  unfold headL
  split
  · split <;> simp [cabL, openL, shutL] <;> omega
  · simp [noL]
theorem board_impl {x : Pla} {H e : ByteArray} (hH : S (headL x) = H) (he : S (num x.w) = e) : H ++ (⟨#[44, 32]⟩ ++ e ++ ⟨#[32, 119, 97, 105, 116, 105, 110, 103]⟩) ++ (if x.l then ⟨#[32, 40, 108, 101, 118, 101, 108, 41]⟩ else ⟨#[]⟩) = S (boardL x) := by
  have h : S (headL x) ++ (S [44, 32] ++ S (num x.w) ++ S waitL) ++ (if x.l then S levelL else S []) = S (boardL x) := by
    unfold boardL
    split <;> simp [S_app]
  rw [← h, hH, he]; rfl
theorem board_spec {x : Pla} {H e : ByteArray} (hH : S (headL x) = H) (he : S (num x.w) = e) : H ++ ⟨#[44, 32]⟩ ++ e ++ ⟨#[32, 119, 97, 105, 116, 105, 110, 103]⟩ ++ (if x.l then ⟨#[32, 40, 108, 101, 118, 101, 108, 41]⟩ else ⟨#[]⟩) = S (boardL x) := by
  have h : S (headL x) ++ S [44, 32] ++ S (num x.w) ++ S waitL ++ (if x.l then S levelL else S []) = S (boardL x) := by
    unfold boardL
    split <;> simp [S_app]
  rw [← h, hH, he]; rfl
set_option maxHeartbeats 4000000 in
theorem implBoardText_c (x : Pla) (w : World) (hT : Tab w) : Calls Tryd.prog 17 #[.agg #[.int .i64 x.d, .int .i64 x.s, .int .i64 x.n, .int .i64 x.w, .bool x.l, .int .i64 x.g]] w (TextP (boardP x) w) := by
  have HX := Lib.hid (Box.new w x.cells 41)
  have HT := Lib.hid (hT.carry ((Below.refl _ _).alloc (Nat.le_refl _) (.cells x.cells.toArray 41)))
  have HB0 := Lib.hid (show Below w.heap.size w (w.alloc (.cells x.cells.toArray 41)) from (Below.refl _ _).alloc (Nat.le_refl _) _)
  clear hT
  rcases hok : okP x with _ | _
  · have HP := Lib.hid (show boardP x = (⟨#[]⟩, false) by simp [boardP, hok])
    go_enter Tryd.func17, Tryd.ntmps17
    go_wp2_with fail
    refine (IsPlatform_c x _).mono ?_
    rw [hok]
    rintro e w1 ⟨rfl, hb1⟩
    have HB := Lib.hid (HB0.out.trans (hb1.mono HB0.out.size))
    go_wp2_with fail
    exact bodyPost_ret (v := .tuple #[.string ⟨#[]⟩, .bool false]) (by simp [results, Tryd.results17, go_sem]) rfl ⟨retT HP.out, HB.out⟩
  have HP := Lib.hid (show boardP x = (S (boardL x), true) by simp [boardP, hok])
  obtain ⟨hk1, hk2, hk3, hk4⟩ := okP_true hok
  obtain ⟨a, ha⟩ : ∃ a, S (num x.n) = a := ⟨_, rfl⟩
  obtain ⟨c, hc⟩ : ∃ c, S (num x.s) = c := ⟨_, rfl⟩
  obtain ⟨u, hu⟩ : ∃ u, S (num x.w) = u := ⟨_, rfl⟩
  obtain ⟨H, hH⟩ : ∃ H, S (headL x) = H := ⟨_, rfl⟩
  have asz := num_S (by omega) (by omega) ha
  have csz := num_S (by omega) (by omega) hc
  have usz := num_S (by omega) (by omega) hu
  have hsz := head_len hok
  rw [hH] at hsz
  have HA := Lib.hid ha
  have HC := Lib.hid hc
  have HU := Lib.hid hu
  have HH := Lib.hid hH
  clear ha hc hu hH
  have z1 : (9223372036854775807 < 6 + a.size) = False := by simp; omega
  have z2 : (9223372036854775807 < 6 + a.size + 1) = False := by simp; omega
  have z3 : (9223372036854775807 < 6 + a.size + 1 + c.size) = False := by simp; omega
  have z4 : (9223372036854775807 < 6 + a.size + 1 + c.size + 5) = False := by simp; omega
  go_enter Tryd.func17, Tryd.ntmps17
  go_wp2_with fail
  refine (IsPlatform_c x _).mono ?_
  rw [hok]
  rintro e w1 ⟨rfl, hb1⟩
  have HX1 := Lib.hid (HX.out.carry hb1)
  have HT1 := Lib.hid (HT.out.carry hb1)
  have HB1 := Lib.hid (HB0.out.trans (hb1.mono HB0.out.size))
  clear hb1 HX HT HB0
  have x0 := HX1.out.cell (j := 0) rfl
  have x1 := HX1.out.cell (j := 1) rfl
  have x2 := HX1.out.cell (j := 2) rfl
  have xl := HX1.out.lt
  go_upto_if 10 with fail
  go_cut [4] (fun v wx => v = .string H ∧ Below w1.heap.size w1 wx)
  case first => as_aux_lemma =>
    by_cases h0 : 0 < x.s
    · go_wp2_with fail
      refine wp_region_mem (by kernel_rfl) (by kernel_rfl) ?_
      repeat (go_big_quiet_step ((first | (go_at_call 29; exact mem_of (str_of (itoa_c x.n _ (by omega) (by omega) (HT1.out.carry (WIn.ok _))) HA.out)) | (go_at_call 29; exact mem_of (str_of (itoa_c x.s _ (by omega) (by omega) (HT1.out.carry (WIn.ok _))) HC.out)))))
      refine wpQuiet_nil ?_
      intro _ hw'
      obtain ⟨⟨wq, hbq⟩, hw''⟩ := hw'
      obtain rfl := hw''.symm
      obtain ⟨hcq, hfq, hzq⟩ := bcell hbq
      try simp [Nat.add_one_le_iff] at hzq
      have HTq := Lib.hid (HT1.out.carry hbq)
      have HBq := Lib.hid hbq
      have hxq := HX1.out.carry hbq
      have y0 := hxq.cell (j := 0) rfl
      have y1 := hxq.cell (j := 1) rfl
      have y2 := hxq.cell (j := 2) rfl
      have yl := hxq.lt
      clear hcq hfq hxq
      by_cases hd : x.d = 1
      · have HE := Lib.hid ((head_open h0 hd HA.out HC.out).trans HH.out)
        have d1 : (x.d == 1) = true := by simpa using hd
        have d2 : decide (x.d = 1) = true := by simpa using hd
        clear hd
        go_wp2_with fail
        refine wp_region_mem (by kernel_rfl) (by kernel_rfl) ?_
        repeat (go_big_quiet_step ((first | (go_at_call 29; exact mem_of (str_of (itoa_c x.n _ (by omega) (by omega) (HTq.out.carry (WIn.ok _))) HA.out)) | (go_at_call 29; exact mem_of (str_of (itoa_c x.s _ (by omega) (by omega) (HTq.out.carry (WIn.ok _))) HC.out)))))
        refine wpQuiet_nil ?_
        intro _ hw'
        obtain ⟨⟨wr, hbr⟩, hw''⟩ := hw'
        obtain rfl := hw''.symm
        obtain ⟨hcr, hfr, hzr⟩ := bcell hbr
        try simp [Nat.add_one_le_iff] at hzr
        have HBr := Lib.hid (HBq.out.trans (hbr.mono HBq.out.size))
        clear hcr hfr
        go_wp2_with fail
        go_meet
        exact ⟨by rw [← HE.out], HBr.out⟩
      · have HE := Lib.hid ((head_shut h0 hd HA.out HC.out).trans HH.out)
        go_wp2_with fail
        go_meet
        exact ⟨by rw [← HE.out], HBq.out⟩
    · have HE := Lib.hid ((head_no h0).trans HH.out)
      go_wp2_with fail
      go_meet
      exact ⟨by rw [← HE.out], Below.refl _ _⟩
  case rest => as_aux_lemma =>
    obtain ⟨rfl, hb2⟩ := hcut
    have hx2 := HX1.out.carry hb2
    have HX2 := Lib.hid hx2
    have HT2 := Lib.hid (HT1.out.carry hb2)
    have HB2 := Lib.hid (HB1.out.trans (hb2.mono HB1.out.size))
    clear x0 x1 x2 xl z1 z2 z3 z4
    have x3 := hx2.cell (j := 3) rfl
    have xl := hx2.lt
    clear hb2 hx2 HX1 HT1 HB1
    have z5 : (9223372036854775807 < 2 + u.size) = False := by simp; omega
    have z6 : (9223372036854775807 < 2 + u.size + 8) = False := by simp; omega
    have z7 : (9223372036854775807 < H.size + (2 + u.size + 8)) = False := by simp; omega
    have z8 : (9223372036854775807 < H.size + (2 + u.size + 8) + 8) = False := by simp; omega
    go_wp2_with fail
    refine (str_of (itoa_c x.w _ (by omega) (by omega) HT2.out) HU.out).mono ?_
    rintro e w3 ⟨rfl, hb3⟩
    have hx3 := HX2.out.carry hb3
    have HB3 := Lib.hid (HB2.out.trans (hb3.mono HB2.out.size))
    have y4 := hx3.cell (j := 4) rfl
    have yl := hx3.lt
    clear hb3 hx3 x3 xl
    have HE := Lib.hid (board_impl HH.out HU.out)
    rcases hl : x.l with _ | _
    · rw [hl] at y4
      have HE2 := Lib.hid (show H ++ (⟨#[44, 32]⟩ ++ u ++ ⟨#[32, 119, 97, 105, 116, 105, 110, 103]⟩) = S (boardL x) by
        have h := HE.out
        rw [hl, if_neg (by simp)] at h
        rw [← h]; exact (ByteArray.append_empty).symm)
      go_wp2_with fail
      exact bodyPost_ret (v := .tuple #[.string (S (boardL x)), .bool true]) (by rw [← HE2.out]; simp [results, Tryd.results17, go_sem]) rfl ⟨retT HP.out, HB3.out⟩
    · rw [hl] at y4
      have HE2 := Lib.hid (show H ++ (⟨#[44, 32]⟩ ++ u ++ ⟨#[32, 119, 97, 105, 116, 105, 110, 103]⟩) ++ ⟨#[32, 40, 108, 101, 118, 101, 108, 41]⟩ = S (boardL x) by
        have h := HE.out
        rw [hl, if_pos rfl] at h
        exact h)
      go_wp2_with fail
      exact bodyPost_ret (v := .tuple #[.string (S (boardL x)), .bool true]) (by rw [← HE2.out]; simp [results, Tryd.results17, go_sem]) rfl ⟨retT HP.out, HB3.out⟩
end Go.Proofs.YtfmemmfmalfkaaaDoor
