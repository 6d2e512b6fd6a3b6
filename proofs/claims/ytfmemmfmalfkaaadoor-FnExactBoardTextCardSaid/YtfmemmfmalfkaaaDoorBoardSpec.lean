/- The text of a platform by the reference: the same Lean function; no conditions. -/
import Derived.Test.YtfmemmfmalfkaaaDoorBoardText
import Derived.Test.YtfmemmfmalfkaaaDoorRely
namespace Go.Proofs.YtfmemmfmalfkaaaDoor
open Go.RowKit

/-- The list of the door's words. -/
def doors : Array Value := #[.string ⟨#[32, 115, 104, 117, 116]⟩, .string ⟨#[32, 111, 112, 101, 110]⟩]
def DoorLit (w : World) (b : Nat) : Prop := w.heap[b]? = some (.cells doors 9 (0, 0))
def brdV (g : Nat) (x : Pla) (a c W : ByteArray) (D : Nat) (i : Nat) (v : Value) (w : World) : Prop := match i with
  | 0 => v = .pointer (some ⟨g, 2, none⟩)
  | 1 => v = .int .i64 x.n
  | 2 => v = .string a
  | 3 => v = .string ((⟨#[99, 97, 98, 105, 110, 32]⟩ : ByteArray) ++ a)
  | 4 => v = .string ((⟨#[99, 97, 98, 105, 110, 32]⟩ : ByteArray) ++ a ++ ⟨#[47]⟩)
  | 5 => v = .pointer (some ⟨g, 1, none⟩)
  | 6 => v = .int .i64 x.s
  | 7 => v = .string c
  | 8 => v = .string ((⟨#[99, 97, 98, 105, 110, 32]⟩ : ByteArray) ++ a ++ ⟨#[47]⟩ ++ c)
  | 9 => ∃ b, v = .slice (some ⟨b, 0, none⟩) 2 2 ∧ DoorLit w b
  | 10 => v = .pointer (some ⟨g, 0, none⟩)
  | 11 => v = .int .i64 (D : Int)
  | 12 => ∃ b, v = .pointer (some ⟨b, D, none⟩) ∧ DoorLit w b
  | 13 => v = .string W
  | 14 => v = .string ((⟨#[99, 97, 98, 105, 110, 32]⟩ : ByteArray) ++ a ++ ⟨#[47]⟩ ++ c ++ W)
  | 15 => v = .string ((⟨#[99, 97, 98, 105, 110, 32]⟩ : ByteArray) ++ a ++ ⟨#[47]⟩ ++ c ++ W)
  | _ => True
def brdR (w w' : World) : Prop := Below w.heap.size w w'
def brdJ (w1 : World) (_ : Array Bool) (w : World) : Prop := Below w1.heap.size w1 w
theorem lit_keep {w w' : World} {b : Nat} (h : DoorLit w b) (hr : brdR w w') : DoorLit w' b := (Below.block hr b (lt_of_block h)).trans h
theorem brdV_keep {g : Nat} {x : Pla} {a c W : ByteArray} {D : Nat} : ∀ (i : Nat) (v : Value) (w w' : World), brdV g x a c W D i v w → brdR w w' → brdV g x a c W D i v w'
  | 0, _, _, _, h, _ => h
  | 1, _, _, _, h, _ => h
  | 2, _, _, _, h, _ => h
  | 3, _, _, _, h, _ => h
  | 4, _, _, _, h, _ => h
  | 5, _, _, _, h, _ => h
  | 6, _, _, _, h, _ => h
  | 7, _, _, _, h, _ => h
  | 8, _, _, _, h, _ => h
  | 9, _, _, _, h, hr => by obtain ⟨b, e, hl⟩ := h; exact ⟨b, e, lit_keep hl hr⟩
  | 10, _, _, _, h, _ => h
  | 11, _, _, _, h, _ => h
  | 12, _, _, _, h, hr => by obtain ⟨b, e, hl⟩ := h; exact ⟨b, e, lit_keep hl hr⟩
  | 13, _, _, _, h, _ => h
  | 14, _, _, _, h, _ => h
  | 15, _, _, _, h, _ => h
  | _ + 16, _, _, _, _, _ => trivial
set_option maxHeartbeats 4000000 in
theorem specBoardText_c (x : Pla) (w : World) : Calls Tryd.prog 15 #[.agg #[.int .i64 x.d, .int .i64 x.s, .int .i64 x.n, .int .i64 x.w, .bool x.l, .int .i64 x.g]] w (TextP (boardP x) w) := by
  have HX := Lib.hid (Box.new w x.cells 41)
  have HB0 := Lib.hid (show Below w.heap.size w (w.alloc (.cells x.cells.toArray 41)) from (Below.refl _ _).alloc (Nat.le_refl _) _)
  rcases hok : okP x with _ | _
  · have HP := Lib.hid (show boardP x = (⟨#[]⟩, false) by simp [boardP, hok])
    go_enter Tryd.func15, Tryd.ntmps15
    go_wp2_with fail
    refine (l14Good_c x _).mono ?_
    rw [hok]
    rintro e w1 ⟨rfl, hb1⟩
    have HB := Lib.hid (HB0.out.trans (hb1.mono HB0.out.size))
    go_wp2_with fail
    exact bodyPost_ret (v := .tuple #[.string ⟨#[]⟩, .bool false]) (by simp [results, Tryd.results15, go_sem]) rfl ⟨retT HP.out, HB.out⟩
  have HP := Lib.hid (show boardP x = (S (boardL x), true) by simp [boardP, hok])
  obtain ⟨hk1, hk2, hk3, hk4⟩ := okP_true hok
  obtain ⟨a, ha⟩ : ∃ a, S (num x.n) = a := ⟨_, rfl⟩
  obtain ⟨c, hc⟩ : ∃ c, S (num x.s) = c := ⟨_, rfl⟩
  obtain ⟨u, hu⟩ : ∃ u, S (num x.w) = u := ⟨_, rfl⟩
  obtain ⟨H, hH⟩ : ∃ H, S (headL x) = H := ⟨_, rfl⟩
  have asz := num_S (by omega) (by omega) ha
  have csz := num_S (by omega) (by omega) hc
  have usz := num_S (by omega) (by omega) hu
  have hsz := head_len hok
  rw [hH] at hsz
  have HA := Lib.hid ha
  have HC := Lib.hid hc
  have HU := Lib.hid hu
  have HH := Lib.hid hH
  clear ha hc hu hH
  have z1 : (9223372036854775807 < 6 + a.size) = False := by simp; omega
  have z2 : (9223372036854775807 < 6 + a.size + 1) = False := by simp; omega
  have z3 : (9223372036854775807 < 6 + a.size + 1 + c.size) = False := by simp; omega
  have z4 : (9223372036854775807 < 6 + a.size + 1 + c.size + 5) = False := by simp; omega
  go_enter Tryd.func15, Tryd.ntmps15
  go_wp2_with fail
  refine (l14Good_c x _).mono ?_
  rw [hok]
  rintro e w1 ⟨rfl, hb1⟩
  have HX1 := Lib.hid (HX.out.carry hb1)
  have HB1 := Lib.hid (HB0.out.trans (hb1.mono HB0.out.size))
  clear hb1 HX HB0
  have x0 := HX1.out.cell (j := 0) rfl
  have x1 := HX1.out.cell (j := 1) rfl
  have x2 := HX1.out.cell (j := 2) rfl
  have xl := HX1.out.lt
  go_upto_if 10 with fail
  go_cut [4] (fun v wx => v = .string H ∧ Below w1.heap.size w1 wx)
  case first => as_aux_lemma =>
    by_cases h0 : 0 < x.s
    · by_cases hd : x.d = 1
      · have HE := Lib.hid ((head_open h0 hd HA.out HC.out).trans HH.out)
        have HDD := Lib.hid (show some (Value.int .i64 x.d) = some (.int .i64 1) by rw [hd])
        rw [hd] at x0
        clear hd
        go_wp2_with fail
        go_cut [4] (fun v wx => v = .string ((⟨#[99, 97, 98, 105, 110, 32]⟩ : ByteArray) ++ a ++ ⟨#[47]⟩ ++ c ++ ⟨#[32, 111, 112, 101, 110]⟩) ∧ Below w1.heap.size w1 wx)
        case first => as_aux_lemma =>
          rename_i K1 h1
          refine wp_region_rely (brdV w.heap.size x a c ⟨#[32, 111, 112, 101, 110]⟩ 1) (brdJ w1) brdR (by kernel_rfl) (by kernel_rfl) ?_ (fun i v w w' h hr => brdV_keep i v w w' h hr) ?_ ?_
          · exact (Below.refl _ _).drew
          · refine ⟨?_, ?_, ?_, ?_, ?_, ?_, ?_, ?_, ?_, ?_, ?_, ?_, ?_, ?_, ?_, ?_, trivial⟩
            · intro L a' w' hs hl hj hf hd KK hK
              have HJ := Lib.hid hj
              have e1 : a'.tmps[1]?.getD undef = .pointer (some ⟨w.heap.size, 0, none⟩) := by simpa [Act.eval] using hf 1 (unwritten_of (by kernel_rfl))
              clear hf hd hj
              go_simp
              exact hK _ _ rfl HJ.out (Below.refl _ _)
            · intro L a' w' hs hl hj hf hd KK hK
              have HJ := Lib.hid hj
              have e11 : brdV w.heap.size x a c ⟨#[32, 111, 112, 101, 110]⟩ 1 0 (a'.tmps[11]?.getD undef) w' := by simpa [Act.eval] using rely_dep hd 0 11 (by kernel_rfl) (by kernel_rfl)
              simp only [brdV] at e11
              clear hf hd hj
              have hx9 := HX1.out.carry HJ.out
              have q := hx9.cell (j := 2) rfl
              clear hx9
              go_simp
              exact hK _ _ rfl HJ.out (Below.refl _ _)
            · intro L a' w' hs hl hj hf hd KK hK
              have HJ := Lib.hid hj
              have e12 : brdV w.heap.size x a c ⟨#[32, 111, 112, 101, 110]⟩ 1 1 (a'.tmps[12]?.getD undef) w' := by simpa [Act.eval] using rely_dep hd 1 12 (by kernel_rfl) (by kernel_rfl)
              simp only [brdV] at e12
              clear hf hd hj
              go_simp
              refine (str_of (l1Num_c x.n _ (by omega) (by omega)) HA.out).mono ?_
              rintro e wx ⟨rfl, hbx⟩
              exact hK _ _ rfl (HJ.out.trans (hbx.mono HJ.out.size)) hbx
            · intro L a' w' hs hl hj hf hd KK hK
              have HJ := Lib.hid hj
              have e13 : brdV w.heap.size x a c ⟨#[32, 111, 112, 101, 110]⟩ 1 2 (a'.tmps[13]?.getD undef) w' := by simpa [Act.eval] using rely_dep hd 2 13 (by kernel_rfl) (by kernel_rfl)
              simp only [brdV] at e13
              clear hf hd hj
              go_simp
              exact hK _ _ rfl HJ.out (Below.refl _ _)
            · intro L a' w' hs hl hj hf hd KK hK
              have HJ := Lib.hid hj
              have e14 : brdV w.heap.size x a c ⟨#[32, 111, 112, 101, 110]⟩ 1 3 (a'.tmps[14]?.getD undef) w' := by simpa [Act.eval] using rely_dep hd 3 14 (by kernel_rfl) (by kernel_rfl)
              simp only [brdV] at e14
              clear hf hd hj
              go_simp
              exact hK _ _ rfl HJ.out (Below.refl _ _)
            · intro L a' w' hs hl hj hf hd KK hK
              have HJ := Lib.hid hj
              have e1 : a'.tmps[1]?.getD undef = .pointer (some ⟨w.heap.size, 0, none⟩) := by simpa [Act.eval] using hf 1 (unwritten_of (by kernel_rfl))
              clear hf hd hj
              go_simp
              exact hK _ _ rfl HJ.out (Below.refl _ _)
            · intro L a' w' hs hl hj hf hd KK hK
              have HJ := Lib.hid hj
              have e16 : brdV w.heap.size x a c ⟨#[32, 111, 112, 101, 110]⟩ 1 5 (a'.tmps[16]?.getD undef) w' := by simpa [Act.eval] using rely_dep hd 5 16 (by kernel_rfl) (by kernel_rfl)
              simp only [brdV] at e16
              clear hf hd hj
              have hx9 := HX1.out.carry HJ.out
              have q := hx9.cell (j := 1) rfl
              clear hx9
              go_simp
              exact hK _ _ rfl HJ.out (Below.refl _ _)
            · intro L a' w' hs hl hj hf hd KK hK
              have HJ := Lib.hid hj
              have e17 : brdV w.heap.size x a c ⟨#[32, 111, 112, 101, 110]⟩ 1 6 (a'.tmps[17]?.getD undef) w' := by simpa [Act.eval] using rely_dep hd 6 17 (by kernel_rfl) (by kernel_rfl)
              simp only [brdV] at e17
              clear hf hd hj
              go_simp
              refine (str_of (l1Num_c x.s _ (by omega) (by omega)) HC.out).mono ?_
              rintro e wx ⟨rfl, hbx⟩
              exact hK _ _ rfl (HJ.out.trans (hbx.mono HJ.out.size)) hbx
            · intro L a' w' hs hl hj hf hd KK hK
              have HJ := Lib.hid hj
              have e15 : brdV w.heap.size x a c ⟨#[32, 111, 112, 101, 110]⟩ 1 4 (a'.tmps[15]?.getD undef) w' := by simpa [Act.eval] using rely_dep hd 4 15 (by kernel_rfl) (by kernel_rfl)
              simp only [brdV] at e15
              have e18 : brdV w.heap.size x a c ⟨#[32, 111, 112, 101, 110]⟩ 1 7 (a'.tmps[18]?.getD undef) w' := by simpa [Act.eval] using rely_dep hd 7 18 (by kernel_rfl) (by kernel_rfl)
              simp only [brdV] at e18
              clear hf hd hj
              go_simp
              exact hK _ _ rfl HJ.out (Below.refl _ _)
            · intro L a' w' hs hl hj hf hd KK hK
              have HJ := Lib.hid hj
              clear hf hd hj
              go_simp
              exact hK _ _ ⟨w'.heap.size, rfl, heap_alloc_new w' _⟩ (HJ.out.alloc HJ.out.size _) ((Below.refl _ _).alloc (Nat.le_refl _) _)
            · intro L a' w' hs hl hj hf hd KK hK
              have HJ := Lib.hid hj
              have e1 : a'.tmps[1]?.getD undef = .pointer (some ⟨w.heap.size, 0, none⟩) := by simpa [Act.eval] using hf 1 (unwritten_of (by kernel_rfl))
              clear hf hd hj
              go_simp
              exact hK _ _ rfl HJ.out (Below.refl _ _)
            · intro L a' w' hs hl hj hf hd KK hK
              have HJ := Lib.hid hj
              have e21 : brdV w.heap.size x a c ⟨#[32, 111, 112, 101, 110]⟩ 1 10 (a'.tmps[21]?.getD undef) w' := by simpa [Act.eval] using rely_dep hd 10 21 (by kernel_rfl) (by kernel_rfl)
              simp only [brdV] at e21
              clear hf hd hj
              have hx9 := HX1.out.carry HJ.out
              have q := hx9.cell (j := 0) rfl
              rw [HDD.out] at q
              clear hx9
              go_simp
              exact hK _ _ rfl HJ.out (Below.refl _ _)
            · intro L a' w' hs hl hj hf hd KK hK
              have HJ := Lib.hid hj
              have e20 : brdV w.heap.size x a c ⟨#[32, 111, 112, 101, 110]⟩ 1 9 (a'.tmps[20]?.getD undef) w' := by simpa [Act.eval] using rely_dep hd 9 20 (by kernel_rfl) (by kernel_rfl)
              simp only [brdV] at e20
              obtain ⟨b, e20, hb⟩ := e20
              have e22 : brdV w.heap.size x a c ⟨#[32, 111, 112, 101, 110]⟩ 1 11 (a'.tmps[22]?.getD undef) w' := by simpa [Act.eval] using rely_dep hd 11 22 (by kernel_rfl) (by kernel_rfl)
              simp only [brdV] at e22
              clear hf hd hj
              go_simp
              exact hK _ _ ⟨b, rfl, hb⟩ HJ.out (Below.refl _ _)
            · intro L a' w' hs hl hj hf hd KK hK
              have HJ := Lib.hid hj
              have e23 : brdV w.heap.size x a c ⟨#[32, 111, 112, 101, 110]⟩ 1 12 (a'.tmps[23]?.getD undef) w' := by simpa [Act.eval] using rely_dep hd 12 23 (by kernel_rfl) (by kernel_rfl)
              simp only [brdV] at e23
              obtain ⟨b, e23, hb⟩ := e23
              clear hf hd hj
              have q := cell_of_row _ _ 1 doors 9 (0, 0) hb
              have q1 : doors[(1 : Nat)]? = some (.string ⟨#[32, 111, 112, 101, 110]⟩) := rfl
              rw [q1] at q
              go_simp
              exact hK _ _ rfl HJ.out (Below.refl _ _)
            · intro L a' w' hs hl hj hf hd KK hK
              have HJ := Lib.hid hj
              have e19 : brdV w.heap.size x a c ⟨#[32, 111, 112, 101, 110]⟩ 1 8 (a'.tmps[19]?.getD undef) w' := by simpa [Act.eval] using rely_dep hd 8 19 (by kernel_rfl) (by kernel_rfl)
              simp only [brdV] at e19
              have e24 : brdV w.heap.size x a c ⟨#[32, 111, 112, 101, 110]⟩ 1 13 (a'.tmps[24]?.getD undef) w' := by simpa [Act.eval] using rely_dep hd 13 24 (by kernel_rfl) (by kernel_rfl)
              simp only [brdV] at e24
              clear hf hd hj
              go_simp
              exact hK _ _ rfl HJ.out (Below.refl _ _)
            · intro L a' w' hs hl hj hf hd KK hK
              have HJ := Lib.hid hj
              have e25 : brdV w.heap.size x a c ⟨#[32, 111, 112, 101, 110]⟩ 1 14 (a'.tmps[25]?.getD undef) w' := by simpa [Act.eval] using rely_dep hd 14 25 (by kernel_rfl) (by kernel_rfl)
              simp only [brdV] at e25
              clear hf hd hj
              go_simp
              exact hK _ _ rfl HJ.out (Below.refl _ _)
          · intro L a' w' hj hL hsz hdf hfr hvs
            have e4 : a'.eval (.tmp 4) = .string ((⟨#[99, 97, 98, 105, 110, 32]⟩ : ByteArray) ++ a ++ ⟨#[47]⟩ ++ c ++ ⟨#[32, 111, 112, 101, 110]⟩) := hvs 15 _ 4 rfl rfl
            have HP9 : (Value.string ((⟨#[99, 97, 98, 105, 110, 32]⟩ : ByteArray) ++ a ++ ⟨#[47]⟩ ++ c ++ ⟨#[32, 111, 112, 101, 110]⟩) = .string ((⟨#[99, 97, 98, 105, 110, 32]⟩ : ByteArray) ++ a ++ ⟨#[47]⟩ ++ c ++ ⟨#[32, 111, 112, 101, 110]⟩)) ∧ Below w1.heap.size w1 w' := ⟨rfl, hj⟩
            obtain ⟨tm, df⟩ := a'
            obtain ⟨ts, rfl⟩ : ∃ ts : List Value, tm = ts.toArray := ⟨tm.toList, by simp⟩
            simp only at hdf
            subst hdf
            have hlen : ts.length = 38 := by simpa using hsz
            have f0 := hfr 0 (unwritten_of (by kernel_rfl))
            have f1 := hfr 1 (unwritten_of (by kernel_rfl))
            have f2 := hfr 2 (unwritten_of (by kernel_rfl))
            have f3 := hfr 3 (unwritten_of (by kernel_rfl))
            have f5 := hfr 5 (unwritten_of (by kernel_rfl))
            have f6 := hfr 6 (unwritten_of (by kernel_rfl))
            have f7 := hfr 7 (unwritten_of (by kernel_rfl))
            have f8 := hfr 8 (unwritten_of (by kernel_rfl))
            have f9 := hfr 9 (unwritten_of (by kernel_rfl))
            have f10 := hfr 10 (unwritten_of (by kernel_rfl))
            have f26 := hfr 26 (unwritten_of (by kernel_rfl))
            have f27 := hfr 27 (unwritten_of (by kernel_rfl))
            have f28 := hfr 28 (unwritten_of (by kernel_rfl))
            have f29 := hfr 29 (unwritten_of (by kernel_rfl))
            have f30 := hfr 30 (unwritten_of (by kernel_rfl))
            have f31 := hfr 31 (unwritten_of (by kernel_rfl))
            have f32 := hfr 32 (unwritten_of (by kernel_rfl))
            have f33 := hfr 33 (unwritten_of (by kernel_rfl))
            have f34 := hfr 34 (unwritten_of (by kernel_rfl))
            have f35 := hfr 35 (unwritten_of (by kernel_rfl))
            have f36 := hfr 36 (unwritten_of (by kernel_rfl))
            have f37 := hfr 37 (unwritten_of (by kernel_rfl))
            clear hfr hvs hsz
            rcases ts with _ | ⟨y0, ts⟩
            · simp at hlen
            rcases ts with _ | ⟨y1, ts⟩
            · simp at hlen
            rcases ts with _ | ⟨y2, ts⟩
            · simp at hlen
            rcases ts with _ | ⟨y3, ts⟩
            · simp at hlen
            rcases ts with _ | ⟨y4, ts⟩
            · simp at hlen
            rcases ts with _ | ⟨y5, ts⟩
            · simp at hlen
            rcases ts with _ | ⟨y6, ts⟩
            · simp at hlen
            rcases ts with _ | ⟨y7, ts⟩
            · simp at hlen
            rcases ts with _ | ⟨y8, ts⟩
            · simp at hlen
            rcases ts with _ | ⟨y9, ts⟩
            · simp at hlen
            rcases ts with _ | ⟨y10, ts⟩
            · simp at hlen
            rcases ts with _ | ⟨y11, ts⟩
            · simp at hlen
            rcases ts with _ | ⟨y12, ts⟩
            · simp at hlen
            rcases ts with _ | ⟨y13, ts⟩
            · simp at hlen
            rcases ts with _ | ⟨y14, ts⟩
            · simp at hlen
            rcases ts with _ | ⟨y15, ts⟩
            · simp at hlen
            rcases ts with _ | ⟨y16, ts⟩
            · simp at hlen
            rcases ts with _ | ⟨y17, ts⟩
            · simp at hlen
            rcases ts with _ | ⟨y18, ts⟩
            · simp at hlen
            rcases ts with _ | ⟨y19, ts⟩
            · simp at hlen
            rcases ts with _ | ⟨y20, ts⟩
            · simp at hlen
            rcases ts with _ | ⟨y21, ts⟩
            · simp at hlen
            rcases ts with _ | ⟨y22, ts⟩
            · simp at hlen
            rcases ts with _ | ⟨y23, ts⟩
            · simp at hlen
            rcases ts with _ | ⟨y24, ts⟩
            · simp at hlen
            rcases ts with _ | ⟨y25, ts⟩
            · simp at hlen
            rcases ts with _ | ⟨y26, ts⟩
            · simp at hlen
            rcases ts with _ | ⟨y27, ts⟩
            · simp at hlen
            rcases ts with _ | ⟨y28, ts⟩
            · simp at hlen
            rcases ts with _ | ⟨y29, ts⟩
            · simp at hlen
            rcases ts with _ | ⟨y30, ts⟩
            · simp at hlen
            rcases ts with _ | ⟨y31, ts⟩
            · simp at hlen
            rcases ts with _ | ⟨y32, ts⟩
            · simp at hlen
            rcases ts with _ | ⟨y33, ts⟩
            · simp at hlen
            rcases ts with _ | ⟨y34, ts⟩
            · simp at hlen
            rcases ts with _ | ⟨y35, ts⟩
            · simp at hlen
            rcases ts with _ | ⟨y36, ts⟩
            · simp at hlen
            rcases ts with _ | ⟨y37, ts⟩
            · simp at hlen
            obtain rfl : ts = [] := List.eq_nil_of_length_eq_zero (by simpa using hlen)
            simp only [Act.eval, Array.getD_eq_getD_getElem?, List.getElem?_toArray, List.getElem?_cons_succ, List.getElem?_cons_zero, Option.getD_some] at e4 f0 f1 f2 f3 f5 f6 f7 f8 f9 f10 f26 f27 f28 f29 f30 f31 f32 f33 f34 f35 f36 f37
            subst e4 f0 f1 f2 f3 f5 f6 f7 f8 f9 f10 f26 f27 f28 f29 f30 f31 f32 f33 f34 f35 f36 f37
            refine h1 _ _ (Met.intro ?_)
            refine K1 _ _ ?_
            (repeat apply Exists.intro)
            exact ⟨HP9, rfl⟩
        case rest => as_aux_lemma =>
          obtain ⟨rfl, hb8⟩ := hcut
          go_wp2_with fail
          go_meet
          exact ⟨by rw [← HE.out], hb8⟩
      · have HE := Lib.hid ((head_shut h0 hd HA.out HC.out).trans HH.out)
        have hd0 : x.d = 0 := by omega
        have HDD := Lib.hid (show some (Value.int .i64 x.d) = some (.int .i64 0) by rw [hd0])
        rw [hd0] at x0
        clear hd hd0
        go_wp2_with fail
        go_cut [4] (fun v wx => v = .string ((⟨#[99, 97, 98, 105, 110, 32]⟩ : ByteArray) ++ a ++ ⟨#[47]⟩ ++ c ++ ⟨#[32, 115, 104, 117, 116]⟩) ∧ Below w1.heap.size w1 wx)
        case first => as_aux_lemma =>
          rename_i K1 h1
          refine wp_region_rely (brdV w.heap.size x a c ⟨#[32, 115, 104, 117, 116]⟩ 0) (brdJ w1) brdR (by kernel_rfl) (by kernel_rfl) ?_ (fun i v w w' h hr => brdV_keep i v w w' h hr) ?_ ?_
          · exact (Below.refl _ _).drew
          · refine ⟨?_, ?_, ?_, ?_, ?_, ?_, ?_, ?_, ?_, ?_, ?_, ?_, ?_, ?_, ?_, ?_, trivial⟩
            · intro L a' w' hs hl hj hf hd KK hK
              have HJ := Lib.hid hj
              have e1 : a'.tmps[1]?.getD undef = .pointer (some ⟨w.heap.size, 0, none⟩) := by simpa [Act.eval] using hf 1 (unwritten_of (by kernel_rfl))
              clear hf hd hj
              go_simp
              exact hK _ _ rfl HJ.out (Below.refl _ _)
            · intro L a' w' hs hl hj hf hd KK hK
              have HJ := Lib.hid hj
              have e11 : brdV w.heap.size x a c ⟨#[32, 115, 104, 117, 116]⟩ 0 0 (a'.tmps[11]?.getD undef) w' := by simpa [Act.eval] using rely_dep hd 0 11 (by kernel_rfl) (by kernel_rfl)
              simp only [brdV] at e11
              clear hf hd hj
              have hx9 := HX1.out.carry HJ.out
              have q := hx9.cell (j := 2) rfl
              clear hx9
              go_simp
              exact hK _ _ rfl HJ.out (Below.refl _ _)
            · intro L a' w' hs hl hj hf hd KK hK
              have HJ := Lib.hid hj
              have e12 : brdV w.heap.size x a c ⟨#[32, 115, 104, 117, 116]⟩ 0 1 (a'.tmps[12]?.getD undef) w' := by simpa [Act.eval] using rely_dep hd 1 12 (by kernel_rfl) (by kernel_rfl)
              simp only [brdV] at e12
              clear hf hd hj
              go_simp
              refine (str_of (l1Num_c x.n _ (by omega) (by omega)) HA.out).mono ?_
              rintro e wx ⟨rfl, hbx⟩
              exact hK _ _ rfl (HJ.out.trans (hbx.mono HJ.out.size)) hbx
            · intro L a' w' hs hl hj hf hd KK hK
              have HJ := Lib.hid hj
              have e13 : brdV w.heap.size x a c ⟨#[32, 115, 104, 117, 116]⟩ 0 2 (a'.tmps[13]?.getD undef) w' := by simpa [Act.eval] using rely_dep hd 2 13 (by kernel_rfl) (by kernel_rfl)
              simp only [brdV] at e13
              clear hf hd hj
              go_simp
              exact hK _ _ rfl HJ.out (Below.refl _ _)
            · intro L a' w' hs hl hj hf hd KK hK
              have HJ := Lib.hid hj
              have e14 : brdV w.heap.size x a c ⟨#[32, 115, 104, 117, 116]⟩ 0 3 (a'.tmps[14]?.getD undef) w' := by simpa [Act.eval] using rely_dep hd 3 14 (by kernel_rfl) (by kernel_rfl)
              simp only [brdV] at e14
              clear hf hd hj
              go_simp
              exact hK _ _ rfl HJ.out (Below.refl _ _)
            · intro L a' w' hs hl hj hf hd KK hK
              have HJ := Lib.hid hj
              have e1 : a'.tmps[1]?.getD undef = .pointer (some ⟨w.heap.size, 0, none⟩) := by simpa [Act.eval] using hf 1 (unwritten_of (by kernel_rfl))
              clear hf hd hj
              go_simp
              exact hK _ _ rfl HJ.out (Below.refl _ _)
            · intro L a' w' hs hl hj hf hd KK hK
              have HJ := Lib.hid hj
              have e16 : brdV w.heap.size x a c ⟨#[32, 115, 104, 117, 116]⟩ 0 5 (a'.tmps[16]?.getD undef) w' := by simpa [Act.eval] using rely_dep hd 5 16 (by kernel_rfl) (by kernel_rfl)
              simp only [brdV] at e16
              clear hf hd hj
              have hx9 := HX1.out.carry HJ.out
              have q := hx9.cell (j := 1) rfl
              clear hx9
              go_simp
              exact hK _ _ rfl HJ.out (Below.refl _ _)
            · intro L a' w' hs hl hj hf hd KK hK
              have HJ := Lib.hid hj
              have e17 : brdV w.heap.size x a c ⟨#[32, 115, 104, 117, 116]⟩ 0 6 (a'.tmps[17]?.getD undef) w' := by simpa [Act.eval] using rely_dep hd 6 17 (by kernel_rfl) (by kernel_rfl)
              simp only [brdV] at e17
              clear hf hd hj
              go_simp
              refine (str_of (l1Num_c x.s _ (by omega) (by omega)) HC.out).mono ?_
              rintro e wx ⟨rfl, hbx⟩
              exact hK _ _ rfl (HJ.out.trans (hbx.mono HJ.out.size)) hbx
            · intro L a' w' hs hl hj hf hd KK hK
              have HJ := Lib.hid hj
              have e15 : brdV w.heap.size x a c ⟨#[32, 115, 104, 117, 116]⟩ 0 4 (a'.tmps[15]?.getD undef) w' := by simpa [Act.eval] using rely_dep hd 4 15 (by kernel_rfl) (by kernel_rfl)
              simp only [brdV] at e15
              have e18 : brdV w.heap.size x a c ⟨#[32, 115, 104, 117, 116]⟩ 0 7 (a'.tmps[18]?.getD undef) w' := by simpa [Act.eval] using rely_dep hd 7 18 (by kernel_rfl) (by kernel_rfl)
              simp only [brdV] at e18
              clear hf hd hj
              go_simp
              exact hK _ _ rfl HJ.out (Below.refl _ _)
            · intro L a' w' hs hl hj hf hd KK hK
              have HJ := Lib.hid hj
              clear hf hd hj
              go_simp
              exact hK _ _ ⟨w'.heap.size, rfl, heap_alloc_new w' _⟩ (HJ.out.alloc HJ.out.size _) ((Below.refl _ _).alloc (Nat.le_refl _) _)
            · intro L a' w' hs hl hj hf hd KK hK
              have HJ := Lib.hid hj
              have e1 : a'.tmps[1]?.getD undef = .pointer (some ⟨w.heap.size, 0, none⟩) := by simpa [Act.eval] using hf 1 (unwritten_of (by kernel_rfl))
              clear hf hd hj
              go_simp
              exact hK _ _ rfl HJ.out (Below.refl _ _)
            · intro L a' w' hs hl hj hf hd KK hK
              have HJ := Lib.hid hj
              have e21 : brdV w.heap.size x a c ⟨#[32, 115, 104, 117, 116]⟩ 0 10 (a'.tmps[21]?.getD undef) w' := by simpa [Act.eval] using rely_dep hd 10 21 (by kernel_rfl) (by kernel_rfl)
              simp only [brdV] at e21
              clear hf hd hj
              have hx9 := HX1.out.carry HJ.out
              have q := hx9.cell (j := 0) rfl
              rw [HDD.out] at q
              clear hx9
              go_simp
              exact hK _ _ rfl HJ.out (Below.refl _ _)
            · intro L a' w' hs hl hj hf hd KK hK
              have HJ := Lib.hid hj
              have e20 : brdV w.heap.size x a c ⟨#[32, 115, 104, 117, 116]⟩ 0 9 (a'.tmps[20]?.getD undef) w' := by simpa [Act.eval] using rely_dep hd 9 20 (by kernel_rfl) (by kernel_rfl)
              simp only [brdV] at e20
              obtain ⟨b, e20, hb⟩ := e20
              have e22 : brdV w.heap.size x a c ⟨#[32, 115, 104, 117, 116]⟩ 0 11 (a'.tmps[22]?.getD undef) w' := by simpa [Act.eval] using rely_dep hd 11 22 (by kernel_rfl) (by kernel_rfl)
              simp only [brdV] at e22
              clear hf hd hj
              go_simp
              exact hK _ _ ⟨b, rfl, hb⟩ HJ.out (Below.refl _ _)
            · intro L a' w' hs hl hj hf hd KK hK
              have HJ := Lib.hid hj
              have e23 : brdV w.heap.size x a c ⟨#[32, 115, 104, 117, 116]⟩ 0 12 (a'.tmps[23]?.getD undef) w' := by simpa [Act.eval] using rely_dep hd 12 23 (by kernel_rfl) (by kernel_rfl)
              simp only [brdV] at e23
              obtain ⟨b, e23, hb⟩ := e23
              clear hf hd hj
              have q := cell_of_row _ _ 0 doors 9 (0, 0) hb
              have q1 : doors[(0 : Nat)]? = some (.string ⟨#[32, 115, 104, 117, 116]⟩) := rfl
              rw [q1] at q
              go_simp
              exact hK _ _ rfl HJ.out (Below.refl _ _)
            · intro L a' w' hs hl hj hf hd KK hK
              have HJ := Lib.hid hj
              have e19 : brdV w.heap.size x a c ⟨#[32, 115, 104, 117, 116]⟩ 0 8 (a'.tmps[19]?.getD undef) w' := by simpa [Act.eval] using rely_dep hd 8 19 (by kernel_rfl) (by kernel_rfl)
              simp only [brdV] at e19
              have e24 : brdV w.heap.size x a c ⟨#[32, 115, 104, 117, 116]⟩ 0 13 (a'.tmps[24]?.getD undef) w' := by simpa [Act.eval] using rely_dep hd 13 24 (by kernel_rfl) (by kernel_rfl)
              simp only [brdV] at e24
              clear hf hd hj
              go_simp
              exact hK _ _ rfl HJ.out (Below.refl _ _)
            · intro L a' w' hs hl hj hf hd KK hK
              have HJ := Lib.hid hj
              have e25 : brdV w.heap.size x a c ⟨#[32, 115, 104, 117, 116]⟩ 0 14 (a'.tmps[25]?.getD undef) w' := by simpa [Act.eval] using rely_dep hd 14 25 (by kernel_rfl) (by kernel_rfl)
              simp only [brdV] at e25
              clear hf hd hj
              go_simp
              exact hK _ _ rfl HJ.out (Below.refl _ _)
          · intro L a' w' hj hL hsz hdf hfr hvs
            have e4 : a'.eval (.tmp 4) = .string ((⟨#[99, 97, 98, 105, 110, 32]⟩ : ByteArray) ++ a ++ ⟨#[47]⟩ ++ c ++ ⟨#[32, 115, 104, 117, 116]⟩) := hvs 15 _ 4 rfl rfl
            have HP9 : (Value.string ((⟨#[99, 97, 98, 105, 110, 32]⟩ : ByteArray) ++ a ++ ⟨#[47]⟩ ++ c ++ ⟨#[32, 115, 104, 117, 116]⟩) = .string ((⟨#[99, 97, 98, 105, 110, 32]⟩ : ByteArray) ++ a ++ ⟨#[47]⟩ ++ c ++ ⟨#[32, 115, 104, 117, 116]⟩)) ∧ Below w1.heap.size w1 w' := ⟨rfl, hj⟩
            obtain ⟨tm, df⟩ := a'
            obtain ⟨ts, rfl⟩ : ∃ ts : List Value, tm = ts.toArray := ⟨tm.toList, by simp⟩
            simp only at hdf
            subst hdf
            have hlen : ts.length = 38 := by simpa using hsz
            have f0 := hfr 0 (unwritten_of (by kernel_rfl))
            have f1 := hfr 1 (unwritten_of (by kernel_rfl))
            have f2 := hfr 2 (unwritten_of (by kernel_rfl))
            have f3 := hfr 3 (unwritten_of (by kernel_rfl))
            have f5 := hfr 5 (unwritten_of (by kernel_rfl))
            have f6 := hfr 6 (unwritten_of (by kernel_rfl))
            have f7 := hfr 7 (unwritten_of (by kernel_rfl))
            have f8 := hfr 8 (unwritten_of (by kernel_rfl))
            have f9 := hfr 9 (unwritten_of (by kernel_rfl))
            have f10 := hfr 10 (unwritten_of (by kernel_rfl))
            have f26 := hfr 26 (unwritten_of (by kernel_rfl))
            have f27 := hfr 27 (unwritten_of (by kernel_rfl))
            have f28 := hfr 28 (unwritten_of (by kernel_rfl))
            have f29 := hfr 29 (unwritten_of (by kernel_rfl))
            have f30 := hfr 30 (unwritten_of (by kernel_rfl))
            have f31 := hfr 31 (unwritten_of (by kernel_rfl))
            have f32 := hfr 32 (unwritten_of (by kernel_rfl))
            have f33 := hfr 33 (unwritten_of (by kernel_rfl))
            have f34 := hfr 34 (unwritten_of (by kernel_rfl))
            have f35 := hfr 35 (unwritten_of (by kernel_rfl))
            have f36 := hfr 36 (unwritten_of (by kernel_rfl))
            have f37 := hfr 37 (unwritten_of (by kernel_rfl))
            clear hfr hvs hsz
            rcases ts with _ | ⟨y0, ts⟩
            · simp at hlen
            rcases ts with _ | ⟨y1, ts⟩
            · simp at hlen
            rcases ts with _ | ⟨y2, ts⟩
            · simp at hlen
            rcases ts with _ | ⟨y3, ts⟩
            · simp at hlen
            rcases ts with _ | ⟨y4, ts⟩
            · simp at hlen
            rcases ts with _ | ⟨y5, ts⟩
            · simp at hlen
            rcases ts with _ | ⟨y6, ts⟩
            · simp at hlen
            rcases ts with _ | ⟨y7, ts⟩
            · simp at hlen
            rcases ts with _ | ⟨y8, ts⟩
            · simp at hlen
            rcases ts with _ | ⟨y9, ts⟩
            · simp at hlen
            rcases ts with _ | ⟨y10, ts⟩
            · simp at hlen
            rcases ts with _ | ⟨y11, ts⟩
            · simp at hlen
            rcases ts with _ | ⟨y12, ts⟩
            · simp at hlen
            rcases ts with _ | ⟨y13, ts⟩
            · simp at hlen
            rcases ts with _ | ⟨y14, ts⟩
            · simp at hlen
            rcases ts with _ | ⟨y15, ts⟩
            · simp at hlen
            rcases ts with _ | ⟨y16, ts⟩
            · simp at hlen
            rcases ts with _ | ⟨y17, ts⟩
            · simp at hlen
            rcases ts with _ | ⟨y18, ts⟩
            · simp at hlen
            rcases ts with _ | ⟨y19, ts⟩
            · simp at hlen
            rcases ts with _ | ⟨y20, ts⟩
            · simp at hlen
            rcases ts with _ | ⟨y21, ts⟩
            · simp at hlen
            rcases ts with _ | ⟨y22, ts⟩
            · simp at hlen
            rcases ts with _ | ⟨y23, ts⟩
            · simp at hlen
            rcases ts with _ | ⟨y24, ts⟩
            · simp at hlen
            rcases ts with _ | ⟨y25, ts⟩
            · simp at hlen
            rcases ts with _ | ⟨y26, ts⟩
            · simp at hlen
            rcases ts with _ | ⟨y27, ts⟩
            · simp at hlen
            rcases ts with _ | ⟨y28, ts⟩
            · simp at hlen
            rcases ts with _ | ⟨y29, ts⟩
            · simp at hlen
            rcases ts with _ | ⟨y30, ts⟩
            · simp at hlen
            rcases ts with _ | ⟨y31, ts⟩
            · simp at hlen
            rcases ts with _ | ⟨y32, ts⟩
            · simp at hlen
            rcases ts with _ | ⟨y33, ts⟩
            · simp at hlen
            rcases ts with _ | ⟨y34, ts⟩
            · simp at hlen
            rcases ts with _ | ⟨y35, ts⟩
            · simp at hlen
            rcases ts with _ | ⟨y36, ts⟩
            · simp at hlen
            rcases ts with _ | ⟨y37, ts⟩
            · simp at hlen
            obtain rfl : ts = [] := List.eq_nil_of_length_eq_zero (by simpa using hlen)
            simp only [Act.eval, Array.getD_eq_getD_getElem?, List.getElem?_toArray, List.getElem?_cons_succ, List.getElem?_cons_zero, Option.getD_some] at e4 f0 f1 f2 f3 f5 f6 f7 f8 f9 f10 f26 f27 f28 f29 f30 f31 f32 f33 f34 f35 f36 f37
            subst e4 f0 f1 f2 f3 f5 f6 f7 f8 f9 f10 f26 f27 f28 f29 f30 f31 f32 f33 f34 f35 f36 f37
            refine h1 _ _ (Met.intro ?_)
            refine K1 _ _ ?_
            (repeat apply Exists.intro)
            exact ⟨HP9, rfl⟩
        case rest => as_aux_lemma =>
          obtain ⟨rfl, hb8⟩ := hcut
          go_wp2_with fail
          go_meet
          exact ⟨by rw [← HE.out], hb8⟩
    · have HE := Lib.hid ((head_no h0).trans HH.out)
      go_wp2_with fail
      go_meet
      exact ⟨by rw [← HE.out], Below.refl _ _⟩
  case rest => as_aux_lemma =>
    obtain ⟨rfl, hb2⟩ := hcut
    have hx2 := HX1.out.carry hb2
    have HX2 := Lib.hid hx2
    have HB2 := Lib.hid (HB1.out.trans (hb2.mono HB1.out.size))
    clear x0 x1 x2 xl z1 z2 z3 z4
    have x3 := hx2.cell (j := 3) rfl
    have xl := hx2.lt
    clear hb2 hx2 HX1 HB1
    have z5 : (9223372036854775807 < H.size + 2) = False := by simp; omega
    have z6 : (9223372036854775807 < H.size + 2 + u.size) = False := by simp; omega
    have z7 : (9223372036854775807 < H.size + 2 + u.size + 8) = False := by simp; omega
    have z8 : (9223372036854775807 < H.size + 2 + u.size + 8 + 8) = False := by simp; omega
    go_wp2_with fail
    refine (str_of (l1Num_c x.w _ (by omega) (by omega)) HU.out).mono ?_
    rintro e w3 ⟨rfl, hb3⟩
    have hx3 := HX2.out.carry hb3
    have HB3 := Lib.hid (HB2.out.trans (hb3.mono HB2.out.size))
    have y4 := hx3.cell (j := 4) rfl
    have yl := hx3.lt
    clear hb3 hx3 x3 xl
    have HE := Lib.hid (board_spec HH.out HU.out)
    rcases hl : x.l with _ | _
    · rw [hl] at y4
      have HE2 := Lib.hid (show H ++ ⟨#[44, 32]⟩ ++ u ++ ⟨#[32, 119, 97, 105, 116, 105, 110, 103]⟩ = S (boardL x) by
        have h := HE.out
        rw [hl, if_neg (by simp)] at h
        rw [← h]; exact (ByteArray.append_empty).symm)
      go_wp2_with fail
      exact bodyPost_ret (v := .tuple #[.string (S (boardL x)), .bool true]) (by rw [← HE2.out]; simp [results, Tryd.results15, go_sem]) rfl ⟨retT HP.out, HB3.out⟩
    · rw [hl] at y4
      have HE2 := Lib.hid (show H ++ ⟨#[44, 32]⟩ ++ u ++ ⟨#[32, 119, 97, 105, 116, 105, 110, 103]⟩ ++ ⟨#[32, 40, 108, 101, 118, 101, 108, 41]⟩ = S (boardL x) by
        have h := HE.out
        rw [hl, if_pos rfl] at h
        exact h)
      go_wp2_with fail
      exact bodyPost_ret (v := .tuple #[.string (S (boardL x)), .bool true]) (by rw [← HE2.out]; simp [results, Tryd.results15, go_sem]) rfl ⟨retT HP.out, HB3.out⟩
end Go.Proofs.YtfmemmfmalfkaaaDoor
