/- Numerals written and read: FormatInt and ParseInt of the program and of the reference return one Lean function each; no conditions but that the library's table and error lie where its text lays them. -/
import Derived.Test.YtpchcblialkpcaaDoorItoa
import Derived.Test.YtpchcblialkpcaaDoorRead
import Derived.Lib.AtoiBound
import Derived.Lib.AtoiTie
namespace Go.Proofs.YtpchcblialkpcaaDoor
open Go.RowKit

/-- The library's error lies where its text lays it. -/
def Err (w : World) : Prop := ∃ tp p, w.var? Tryd.prog "strconv.ErrSyntax" = some #[.iface tp p]
theorem Err.carry {w w' : World} (h : Err w) (hb : Below w.heap.size w w') : Err w' := by
  obtain ⟨tp, p, h⟩ := h
  exact ⟨tp, p, Joins.var_stays (g := 4) (by kernel_rfl) h hb (Nat.le_refl _)⟩
def formatP (n : Int) : List UInt8 × Bool := if inR n (-999999) 999999 then (num n, true) else ([], false)
def parseP (s : List UInt8) : Int × Bool := match readI s with
  | some n => (n, true)
  | none => (0, false)
def StrP (p : List UInt8 × Bool) (w : World) (e : Ending) (w' : World) : Prop := e = .returned (.tuple #[.string (S p.1), .bool p.2]) ∧ Below w.heap.size w w'
def IntP (p : Int × Bool) (w : World) (e : Ending) (w' : World) : Prop := e = .returned (.tuple #[.int .i64 p.1, .bool p.2]) ∧ Below w.heap.size w w'
theorem retS {p : List UInt8 × Bool} {v : ByteArray} {l : List UInt8} {b : Bool} (h : p = (l, b)) (hv : v = S l) : Ending.returned (.tuple #[.string v, .bool b]) = .returned (.tuple #[.string (S p.1), .bool p.2]) := by rw [h, hv]
theorem retI {p : Int × Bool} {v : Int} {b : Bool} (h : p = (v, b)) : Ending.returned (.tuple #[.int .i64 v, .bool b]) = .returned (.tuple #[.int .i64 p.1, .bool p.2]) := by rw [h]
theorem toList_inj {t s : ByteArray} (e : t.toList = s.toList) : t = s := by
  have h : ∀ x : ByteArray, x.toList = x.data.toList := fun x => by conv => lhs; rw [S_of x, S_list]
  rw [h, h] at e
  rw [S_of t, S_of s, e]
theorem atoi_ok (s : ByteArray) (n : Int) (hl : s.size ≤ 18) (h : Lib.atoi s.data.toList = some n) (w : World) :
    Calls Tryd.prog 48 #[.string s] w fun e w' => e = .returned (.tuple #[.int .i64 n, .nilIface]) ∧ Below w.heap.size w w' :=
  (Tryd.strconv_Atoi s n hl h w).mono fun _ _ ⟨he, _, hw⟩ => ⟨he, hw ▸ Lib.bytesWorld_below _ _ _⟩
set_option maxHeartbeats 1000000 in
theorem implParseInt_c (s : ByteArray) (w : World) (_hs : s.size ≤ 4294967280) (hT : Tab w) (hE : Err w) : Calls Tryd.prog 37 #[.string s] w (IntP (parseP s.data.toList) w) := by
  by_cases h7 : 7 < s.size
  · have H := Lib.hid (show parseP s.data.toList = (0, false) by rw [parseP, readI_long (by simpa using h7)])
    have h7' : (7 : Int) < s.size := by omega
    go_enter Tryd.func37, Tryd.ntmps37
    go_wp2_with fail
    exact bodyPost_ret (v := .tuple #[.int .i64 0, .bool false]) (by simp [results, Tryd.results37, go_sem]) rfl ⟨retI H.out, Below.refl _ _⟩
  rcases ha : Lib.atoi s.data.toList with _ | n
  · have H := Lib.hid (show parseP s.data.toList = (0, false) by rw [parseP, readI_atoi ha])
    obtain ⟨tp, p, hv⟩ := hE
    have hall : Lib.atoiAll s.data.toList = .«syntax» := by rw [Lib.atoiAll_short _ (by simp; omega), ha]; rfl
    have HV := Lib.hid hv
    have HA := Lib.hid hall
    clear hv hall ha hT
    go_enter Tryd.func37, Tryd.ntmps37
    go_wp2_with fail
    refine (Tryd.strconv_Atoi_syntax_var s (by omega) HA.out tp p _ HV.out).mono ?_
    rintro e w1 ⟨N, rfl, _, _, hb1⟩
    have HB := Lib.hid hb1
    clear hb1
    go_wp2_with fail
    exact bodyPost_ret (v := .tuple #[.int .i64 0, .bool false]) (by simp [results, Tryd.results37, go_sem]) rfl ⟨retI H.out, HB.out⟩
  · have hb := Lib.atoi_bound ha (by simp; omega)
    have HA := Lib.hid ha
    have HT := Lib.hid hT
    have HR := Lib.hid (readI_of ha)
    clear ha hT hE
    rcases hin : inR n (-999999) 999999 with _ | _
    · have H := Lib.hid (show parseP s.data.toList = (0, false) by
        rw [parseP, HR.out, if_neg (fun h => by have := inR_true.2 (And.intro h.1 h.2.1); rw [hin] at this; cases this)])
      go_enter Tryd.func37, Tryd.ntmps37
      go_wp2_with fail
      refine (atoi_ok s n (by omega) HA.out _).mono ?_
      rintro e w1 ⟨rfl, hb1⟩
      have HB := Lib.hid hb1
      clear hb1
      go_wp2_with (go_at_call 22; refine (within_c _ _ _ _).mono ?_; rintro e w' ⟨rfl, rfl⟩)
      exact bodyPost_ret (v := .tuple #[.int .i64 0, .bool false]) (by simp [results, Tryd.results37, go_sem]) rfl ⟨retI H.out, HB.out⟩
    have hin' := inR_true.1 hin
    by_cases hq : num n = s.data.toList
    · have H := Lib.hid (show parseP s.data.toList = (n, true) by rw [parseP, HR.out, if_pos ⟨hin'.1, hin'.2, hq⟩])
      have hs2 : S (num n) = s := by rw [hq]; exact (S_of s).symm
      have HS := Lib.hid hs2
      clear hs2 hq
      go_enter Tryd.func37, Tryd.ntmps37
      go_wp2_with fail
      refine (atoi_ok s n (by omega) HA.out _).mono ?_
      rintro e w1 ⟨rfl, hb1⟩
      have HB := Lib.hid hb1
      have HT1 := Lib.hid (HT.out.carry hb1)
      clear hb1
      go_wp2_with (first | (go_at_call 22; refine (within_c _ _ _ _).mono ?_; rintro e w' ⟨rfl, rfl⟩) | (go_at_call 34; refine (itoa_c n _ (by omega) (by omega) HT1.out).mono ?_; rw [HS.out]; rintro e w2 ⟨rfl, hb2⟩))
      exact bodyPost_ret (v := .tuple #[.int .i64 n, .bool true]) (by simp [results, Tryd.results37, go_sem]) rfl ⟨retI H.out, HB.out.trans (hb2.mono HB.out.size)⟩
    · have H := Lib.hid (show parseP s.data.toList = (0, false) by rw [parseP, HR.out, if_neg (fun h => hq h.2.2)])
      obtain ⟨t, ht⟩ : ∃ t, S (num n) = t := ⟨_, rfl⟩
      have hts : ¬ t = s := fun e => hq (by rw [← S_data (num n), ht, e])
      have hts2 : (t.toList == s.toList) = false := by
        rw [beq_eq_false_iff_ne]; intro e; exact hts (toList_inj e)
      have HS := Lib.hid ht
      clear ht hq
      go_enter Tryd.func37, Tryd.ntmps37
      go_wp2_with fail
      refine (atoi_ok s n (by omega) HA.out _).mono ?_
      rintro e w1 ⟨rfl, hb1⟩
      have HB := Lib.hid hb1
      have HT1 := Lib.hid (HT.out.carry hb1)
      clear hb1
      go_wp2_with (first | (go_at_call 22; refine (within_c _ _ _ _).mono ?_; rintro e w' ⟨rfl, rfl⟩) | (go_at_call 34; refine (itoa_c n _ (by omega) (by omega) HT1.out).mono ?_; rw [HS.out]; rintro e w2 ⟨rfl, hb2⟩))
      exact bodyPost_ret (v := .tuple #[.int .i64 0, .bool false]) (by simp [results, Tryd.results37, go_sem]) rfl ⟨retI H.out, HB.out.trans (hb2.mono HB.out.size)⟩
end Go.Proofs.YtpchcblialkpcaaDoor
