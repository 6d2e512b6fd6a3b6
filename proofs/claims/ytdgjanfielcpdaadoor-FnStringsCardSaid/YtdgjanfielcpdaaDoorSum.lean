/- The checksum: the program's and the reference's return one Lean function; no conditions but the length. -/
import Derived.Test.YtdgjanfielcpdaaDoorSeal
namespace Go.Proofs.YtdgjanfielcpdaaDoor
open Go.RowKit

theorem hash_step {s : ByteArray} {k : Nat} (hk : k < s.size) : hashFrom 7 (s.data.toList.take (k + 1)) = (41 * hashFrom 7 (s.data.toList.take k) + s[k].toNat + 1) % 999979 := by
  have hk' : k < s.data.toList.length := by simpa using hk
  rw [List.take_add_one, List.getElem?_eq_getElem hk', hashFrom, List.foldl_append]
  rfl
theorem hash_all {s : ByteArray} : hashFrom 7 (s.data.toList.take s.size) = hashL s.data.toList := by
  rw [List.take_of_length_le (by simp)]; rfl
theorem implChecksum_c (s : ByteArray) (w : World) (hs : s.size ≤ 10000) : Calls Tryd.prog 28 #[.string s] w fun e w' => e = .returned (.int .i64 (hashL s.data.toList)) ∧ w = w' := by
  go_enter Tryd.func28, Tryd.ntmps28
  go_wp2_with fail
  go_loop [3, 4, 7] (fun h _ i => ∃ k : Nat, k ≤ s.size ∧ i = .int .i64 k ∧ h = .int .i64 (hashFrom 7 (s.data.toList.take k))) (fun _ _ i => s.size - (intOf i).toNat)
  case atStart => exact ⟨0, Nat.zero_le _, rfl, rfl⟩
  case round =>
    obtain ⟨k, hk, rfl, rfl⟩ := hrel
    by_cases hlt : k < s.size
    · --
      have HS := Lib.hid (hash_step hlt)
      have hH := hashFrom_lt (s.data.toList.take k) 7 (by omega)
      have hb := s[k].toNat_lt
      obtain ⟨H, eH⟩ : ∃ H, hashFrom 7 (s.data.toList.take k) = H := ⟨_, rfl⟩
      obtain ⟨b, eb⟩ : ∃ b, s[k].toNat = b := ⟨_, rfl⟩
      rw [eH] at HS hH ⊢
      rw [eb] at HS hb
      have a1 : IntKind.i64.wrap (41 * (H : Int)) = 41 * (H : Int) := IntWalk.i64_in _ (by omega)
      have a2 : IntKind.i64.wrap (b : Int) = (b : Int) := IntWalk.i64_in _ (by omega)
      have a3 : IntKind.i64.wrap (41 * (H : Int) + b) = 41 * (H : Int) + b := IntWalk.i64_in _ (by omega)
      have a4 : IntKind.i64.wrap (41 * (H : Int) + b + 1) = 41 * (H : Int) + b + 1 := IntWalk.i64_in _ (by omega)
      have a5 : (41 * (H : Int) + b + 1).tmod 999979 = (((41 * H + b + 1) % 999979 : Nat) : Int) := by rw [Int.tmod_eq_emod_of_nonneg (by omega)]; omega
      clear eH
      go_wp2_with fail
      go_round
      case rel => exact ⟨k + 1, by omega, by go_num, by rw [HS.out]; congr 1⟩
      case measure => simp [intOf]; omega
    · obtain rfl : k = s.size := by omega
      rw [hash_all]
      go_wp2_with fail
      go_ret
      exact ⟨rfl, rfl⟩
theorem l1Sum_c (s : ByteArray) (w : World) (hs : s.size ≤ 10000) : Calls Tryd.prog 37 #[.string s] w fun e w' => e = .returned (.int .i64 (hashL s.data.toList)) ∧ w = w' := by
  go_enter Tryd.func37, Tryd.ntmps37
  go_wp2_with fail
  go_loop [3, 4] (fun h i => ∃ k : Nat, k ≤ s.size ∧ i = .int .i64 k ∧ h = .int .i64 (hashFrom 7 (s.data.toList.take k))) (fun _ i => s.size - (intOf i).toNat)
  case atStart => exact ⟨0, Nat.zero_le _, rfl, rfl⟩
  case round =>
    obtain ⟨k, hk, rfl, rfl⟩ := hrel
    by_cases hlt : k < s.size
    · --
      have HS := Lib.hid (hash_step hlt)
      have hH := hashFrom_lt (s.data.toList.take k) 7 (by omega)
      have hb := s[k].toNat_lt
      obtain ⟨H, eH⟩ : ∃ H, hashFrom 7 (s.data.toList.take k) = H := ⟨_, rfl⟩
      obtain ⟨b, eb⟩ : ∃ b, s[k].toNat = b := ⟨_, rfl⟩
      rw [eH] at HS hH ⊢
      rw [eb] at HS hb
      have a1 : IntKind.i64.wrap (41 * (H : Int)) = 41 * (H : Int) := IntWalk.i64_in _ (by omega)
      have a2 : IntKind.i64.wrap (b : Int) = (b : Int) := IntWalk.i64_in _ (by omega)
      have a3 : IntKind.i64.wrap (41 * (H : Int) + b) = 41 * (H : Int) + b := IntWalk.i64_in _ (by omega)
      have a4 : IntKind.i64.wrap (41 * (H : Int) + b + 1) = 41 * (H : Int) + b + 1 := IntWalk.i64_in _ (by omega)
      have a5 : (41 * (H : Int) + b + 1).tmod 999979 = (((41 * H + b + 1) % 999979 : Nat) : Int) := by rw [Int.tmod_eq_emod_of_nonneg (by omega)]; omega
      clear eH
      go_wp2_with fail
      go_round
      case rel => exact ⟨k + 1, by omega, by go_num, by rw [HS.out]; congr 1⟩
      case measure => simp [intOf]; omega
    · obtain rfl : k = s.size := by omega
      rw [hash_all]
      go_wp2_with fail
      go_ret
      exact ⟨rfl, rfl⟩
theorem mem_take {s : ByteArray} {k : Nat} (hk : k < s.size) (c : UInt8) : c ∈ s.data.toList.take (k + 1) ↔ c ∈ s.data.toList.take k ∨ s[k] = c := by
  have hk' : k < s.data.toList.length := by simpa using hk
  rw [List.take_add_one, List.getElem?_eq_getElem hk', List.mem_append]
  have : s.data.toList[k] = s[k] := rfl
  rw [this]
  simp only [Option.toList_some, List.mem_singleton, eq_comm]
theorem l1Stands_c (s : ByteArray) (c : UInt8) (w : World) (hs : s.size ≤ 10000) : Calls Tryd.prog 29 #[.string s, .int .u8 c.toNat] w fun e w' => e = .returned (.bool (decide (c ∈ s.data.toList))) ∧ w = w' := by
  obtain ⟨d, hdd⟩ : ∃ d, decide (c ∈ s.data.toList) = d := ⟨_, rfl⟩
  rw [hdd]
  have HDD := Lib.hid hdd
  clear hdd
  go_enter Tryd.func29, Tryd.ntmps29
  go_wp2_with fail
  go_loop [5] (fun i => ∃ k : Nat, k ≤ s.size ∧ i = .int .i64 k ∧ c ∉ s.data.toList.take k) (fun i => s.size - (intOf i).toNat)
  case atStart => exact ⟨0, Nat.zero_le _, rfl, by simp⟩
  case round =>
    obtain ⟨k, hk, rfl, hno⟩ := hrel
    have HN := Lib.hid hno
    clear hno
    by_cases hlt : k < s.size
    · have HM := Lib.hid (mem_take hlt c)
      by_cases hc : s[k] = c
      · have hd : decide (c ∈ s.data.toList) = true := decide_eq_true (List.mem_of_mem_take ((mem_take hlt c).2 (.inr hc)))
        have hq : ((s[k].toNat : Int) == (c.toNat : Int)) = true := by rw [hc]; simp
        have hq2 : s[k].toNat = c.toNat := by rw [hc]
        have HD := Lib.hid hd
        clear hd
        go_wp2_with fail
        go_ret
        exact ⟨by have h := HDD.out; rw [HD.out] at h; rw [← h]; rfl, rfl⟩
      · have hq2 : ¬ s[k].toNat = c.toNat := fun e => hc (UInt8.toNat_inj.1 e)
        go_wp2_with fail
        go_round
        case rel => exact ⟨k + 1, by omega, by go_num, fun hm => by rcases HM.out.1 hm with h | h; · exact HN.out h
                                                                    · exact hc h⟩
        case measure => simp [intOf]; omega
    · obtain rfl : k = s.size := by omega
      have hd : decide (c ∈ s.data.toList) = false := decide_eq_false (by have := HN.out; rwa [List.take_of_length_le (by simp)] at this)
      have HD := Lib.hid hd
      clear hd
      go_wp2_with fail
      go_ret
      exact ⟨by have h := HDD.out; rw [HD.out] at h; rw [← h]; rfl, rfl⟩
end Go.Proofs.YtdgjanfielcpdaaDoor
