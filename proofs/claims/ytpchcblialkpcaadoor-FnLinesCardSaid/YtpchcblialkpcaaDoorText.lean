/- Texts as lists of bytes, and the numerals: the reference's numeral is the library's; no conditions but the numbers' size. -/
import Derived.Test.YtpchcblialkpcaaDoorRange
import Derived.Test.YtpchcblialkpcaaDoorSlice
import Derived.Lib.ItoaNum
import Derived.Lib.ItoaLen
import Derived.IntWalk
import Derived.WalkSpells
namespace Go.Proofs.YtpchcblialkpcaaDoor
open Go.RowKit

/-- The string of these bytes. -/
def S (l : List UInt8) : ByteArray := ⟨l.toArray⟩
theorem S_app (a b : List UInt8) : S a ++ S b = S (a ++ b) := ByteArray.mk_append_mk a b
theorem S_size (l : List UInt8) : (S l).size = l.length := by simp [S, ByteArray.size]
theorem S_list (l : List UInt8) : (S l).toList = l := ByteArray.toList_mk l
theorem S_data (l : List UInt8) : (S l).data.toList = l := by simp [S]
theorem S_of (s : ByteArray) : s = S s.data.toList := by cases s; simp [S]
theorem S_inj {a b : List UInt8} (h : S a = S b) : a = b := by rw [← S_list a, h, S_list]
theorem S_cut (l : List UInt8) (a b : Nat) : (S l).extract a b = S ((l.drop a).take (b - a)) := ByteArray.extract_mk l a b
theorem rets {a b : ByteArray} (h : a = b) : Ending.returned (.string a) = .returned (.string b) := by rw [h]
/-- The numeral. -/
def num (n : Int) : List UInt8 := Lib.itoa n
theorem num_len {n : Int} (h0 : -9223372036854775808 ≤ n) (h1 : n ≤ 9223372036854775807) : (num n).length ≤ 21 := Lib.itoa_length_le n h0 h1
theorem num_neg {n : Int} (h : n < 0) : num n = 45 :: num (-n) := by
  unfold num Lib.itoa
  rw [if_pos h, if_neg (by omega), show (-n).toNat = n.natAbs by omega]
theorem num_small {n : Nat} (h : n < 10) : num n = [UInt8.ofNat (48 + n)] := by
  unfold num Lib.itoa
  rw [if_neg (by omega), Lib.decDigits, dif_pos (by omega)]
  simp
theorem num_big {n : Nat} (h : ¬ n < 10) : num n = num (n / 10 : Nat) ++ [UInt8.ofNat (48 + n % 10)] := by
  unfold num Lib.itoa
  rw [if_neg (by omega), if_neg (by omega), Lib.decDigits, dif_neg (by omega)]
  simp only [Int.toNat_natCast]
def tenDigits : ByteArray := ⟨#[48, 49, 50, 51, 52, 53, 54, 55, 56, 57]⟩
theorem digit_at : ∀ i : Fin 10, tenDigits.extract i.val (i.val + 1) = S [UInt8.ofNat (48 + i.val)] := by decide +kernel
theorem digit_of {i : Nat} (h : i < 10) : tenDigits.extract i (i + 1) = S [UInt8.ofNat (48 + i)] := digit_at ⟨i, h⟩
set_option maxHeartbeats 1000000 in
theorem l1Num_nat : ∀ (n : Nat) (w : World), n ≤ 100000000 → Calls Tryd.prog 38 #[.int .i64 n] w fun e w' => e = .returned (.string (S (num n))) ∧ Below w.heap.size w w' := fun n => by
  induction n using Nat.strongRecOn with
  | ind n ih =>
    intro w hn
    have hneg : ¬ (n : Int) < 0 := by omega
    by_cases h : n < 10
    · have HD := Lib.hid (digit_of h)
      have HN := Lib.hid (num_small h)
      have hlt : (n : Int) < 10 := by omega
      have a1 : IntKind.i64.wrap ((n : Int) + 1) = (n : Int) + 1 := IntWalk.i64_in _ (by omega)
      have e1 : ((n : Int) + 1).toNat = n + 1 := by omega
      have i1 : (0 : Int) ≤ (n : Int) + 1 := by omega
      have i2 : (n : Int) + 1 ≤ 10 := by omega
      go_enter Tryd.func38, Tryd.ntmps38
      go_wp2_with fail
      go_ret
      exact ⟨rets (by rw [HN.out, ← HD.out]; rfl), (by repeat (first | (with_reducible exact Below.refl _ _) | ((with_reducible refine alloc_ ?_ ?_); (focus (first | exact Nat.le_refl _ | (simp; done) | (simp; omega) | omega))) | ((with_reducible refine set_ ?_ ?_); (focus (first | exact Nat.le_refl _ | (simp; done) | (simp; omega) | omega))) | (with_reducible refine Below.drew ?_) | ((with_reducible refine after_ ?_ (by assumption) ?_); (rotate_left; (focus (first | exact Nat.le_refl _ | (simp; done) | (simp; omega) | omega))))))⟩
    · have hge : ¬ (n : Int) < 10 := by omega
      have HI := Lib.hid (ih (n / 10) (by omega))
      clear ih
      have HD := Lib.hid (digit_of (show n % 10 < 10 by omega))
      have HN := Lib.hid (num_big h)
      obtain ⟨m, hm⟩ : ∃ m, n / 10 = m := ⟨_, rfl⟩
      obtain ⟨d, hd⟩ : ∃ d, n % 10 = d := ⟨_, rfl⟩
      have t1 : (n : Int).tdiv 10 = (m : Int) := by rw [Int.tdiv_eq_ediv_of_nonneg (by omega)]; omega
      have t2 : (n : Int).tmod 10 = (d : Int) := by rw [Int.tmod_eq_emod_of_nonneg (by omega)]; omega
      have t3 : (n : Int) / 10 = (m : Int) := by omega
      have t4 : (n : Int) % 10 = (d : Int) := by omega
      have hd10 : d < 10 := by omega
      have hm8 : m ≤ 100000000 := by omega
      rw [hd] at HD HN
      rw [hm] at HN HI
      have a0 : IntKind.i64.wrap (m : Int) = (m : Int) := IntWalk.i64_in _ (by omega)
      have a1 : IntKind.i64.wrap ((d : Int) + 1) = (d : Int) + 1 := IntWalk.i64_in _ (by omega)
      have e1 : ((d : Int) + 1).toNat = d + 1 := by omega
      have i1 : (0 : Int) ≤ (d : Int) + 1 := by omega
      have i2 : (d : Int) + 1 ≤ 10 := by omega
      have i3 : (d : Int) ≤ 10 := by omega
      have i4 : (d : Int) ≤ (d : Int) + 1 := by omega
      have z1 : (9223372036854775807 < (S (num (m : Int))).size + (min (d + 1) 10 - d)) = False := by
        have := num_len (n := (m : Int)) (by omega) (by omega)
        rw [S_size]; simp; omega
      clear hm hd
      go_enter Tryd.func38, Tryd.ntmps38
      go_wp2_with fail
      refine wp_region_mem (by kernel_rfl) (by kernel_rfl) ?_
      repeat (go_big_quiet_step ((first | (go_at_call 38; exact mem_of (HI.out _ hm8)))))
      refine wpQuiet_nil ?_
      intro _ hw'
      obtain ⟨⟨wq, hbq⟩, hw''⟩ := hw'
      obtain rfl := hw''.symm
      obtain ⟨hcq, hfq, hzq⟩ := bcell hbq
      try simp [Nat.add_one_le_iff] at hzq
      go_wp2_with fail
      go_ret
      exact ⟨rets (by rw [HN.out, ← S_app, ← HD.out]; rfl), hbq⟩
theorem l1Num_c (n : Int) (w : World) (h0 : -100000000 ≤ n) (h1 : n ≤ 100000000) : Calls Tryd.prog 38 #[.int .i64 n] w fun e w' => e = .returned (.string (S (num n))) ∧ Below w.heap.size w w' := by
  by_cases h : n < 0
  · have HN := Lib.hid (num_neg h)
    obtain ⟨m, hm⟩ : ∃ m : Nat, -n = (m : Int) := ⟨(-n).toNat, by omega⟩
    have a1 : IntKind.i64.wrap (-n) = (m : Int) := by rw [hm]; exact IntWalk.i64_in _ (by omega)
    have hm8 : m ≤ 100000000 := by omega
    rw [hm] at HN
    clear hm
    have z1 : (9223372036854775807 < 1 + (S (num (m : Int))).size) = False := by
      have := num_len (n := (m : Int)) (by omega) (by omega)
      rw [S_size]; simp; omega
    go_enter Tryd.func38, Tryd.ntmps38
    go_wp2_with fail
    refine (l1Num_nat m _ hm8).mono ?_
    rintro e w' ⟨rfl, hb⟩
    go_wp2_with fail
    go_ret
    exact ⟨rets (by rw [HN.out, show (45 :: num (m : Int)) = [45] ++ num (m : Int) from rfl, ← S_app]; rfl), hb⟩
  · obtain ⟨m, rfl⟩ : ∃ m : Nat, n = (m : Int) := ⟨n.toNat, by omega⟩
    exact l1Num_nat m w (by omega)
end Go.Proofs.YtpchcblialkpcaaDoor
