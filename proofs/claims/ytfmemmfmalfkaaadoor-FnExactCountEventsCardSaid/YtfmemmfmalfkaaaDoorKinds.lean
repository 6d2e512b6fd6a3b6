/- The kinds of events: the program's and the reference's tests on them return Lean functions; no conditions. -/
import Derived.Test.YtfmemmfmalfkaaaDoorRange
import Derived.Test.YtfmemmfmalfkaaaDoorSlice
import Derived.Outline
namespace Go.Proofs.YtfmemmfmalfkaaaDoor
open Go.RowKit

def isK (l : List UInt8) (s : ByteArray) : Bool := s.toList == l
def most (s : ByteArray) : Int := if (s.toList == [99, 111, 109, 101]) = true then 16 else if (s.toList == [101, 110, 116, 101, 114]) = true then 16 else if (s.toList == [108, 101, 97, 118, 101]) = true then 16 else if (s.toList == [97, 114, 114, 105, 118, 101]) = true then 100 else if (s.toList == [111, 112, 101, 110]) = true then 0 else if (s.toList == [115, 104, 117, 116]) = true then 0 else if (s.toList == [108, 101, 118, 101, 108]) = true then 0 else if (s.toList == [103, 111]) = true then 0 else -1
theorem l14Most_c (s : ByteArray) (w : World) : Calls Tryd.prog 22 #[.string s] w fun e w' => e = .returned (.int .i64 (most s)) ∧ w = w' := by
  rcases h0 : (s.toList == [99, 111, 109, 101]) with _ | _
  case true =>
    have H := Lib.hid (show most s = 16 by simp [most, h0])
    go_enter Tryd.func22, Tryd.ntmps22
    go_wp2_with fail
    go_ret
    exact ⟨by rw [H.out]; rfl, rfl⟩
  rcases h1 : (s.toList == [101, 110, 116, 101, 114]) with _ | _
  case true =>
    have H := Lib.hid (show most s = 16 by simp [most, h0, h1])
    go_enter Tryd.func22, Tryd.ntmps22
    go_wp2_with fail
    go_ret
    exact ⟨by rw [H.out]; rfl, rfl⟩
  rcases h2 : (s.toList == [108, 101, 97, 118, 101]) with _ | _
  case true =>
    have H := Lib.hid (show most s = 16 by simp [most, h0, h1, h2])
    go_enter Tryd.func22, Tryd.ntmps22
    go_wp2_with fail
    go_ret
    exact ⟨by rw [H.out]; rfl, rfl⟩
  rcases h3 : (s.toList == [97, 114, 114, 105, 118, 101]) with _ | _
  case true =>
    have H := Lib.hid (show most s = 100 by simp [most, h0, h1, h2, h3])
    go_enter Tryd.func22, Tryd.ntmps22
    go_wp2_with fail
    go_ret
    exact ⟨by rw [H.out]; rfl, rfl⟩
  rcases h4 : (s.toList == [111, 112, 101, 110]) with _ | _
  case true =>
    have H := Lib.hid (show most s = 0 by simp [most, h0, h1, h2, h3, h4])
    go_enter Tryd.func22, Tryd.ntmps22
    go_wp2_with fail
    go_ret
    exact ⟨by rw [H.out]; rfl, rfl⟩
  rcases h5 : (s.toList == [115, 104, 117, 116]) with _ | _
  case true =>
    have H := Lib.hid (show most s = 0 by simp [most, h0, h1, h2, h3, h4, h5])
    go_enter Tryd.func22, Tryd.ntmps22
    go_wp2_with fail
    go_ret
    exact ⟨by rw [H.out]; rfl, rfl⟩
  rcases h6 : (s.toList == [108, 101, 118, 101, 108]) with _ | _
  case true =>
    have H := Lib.hid (show most s = 0 by simp [most, h0, h1, h2, h3, h4, h5, h6])
    go_enter Tryd.func22, Tryd.ntmps22
    go_wp2_with fail
    go_ret
    exact ⟨by rw [H.out]; rfl, rfl⟩
  rcases h7 : (s.toList == [103, 111]) with _ | _
  case true =>
    have H := Lib.hid (show most s = 0 by simp [most, h0, h1, h2, h3, h4, h5, h6, h7])
    go_enter Tryd.func22, Tryd.ntmps22
    go_wp2_with fail
    go_ret
    exact ⟨by rw [H.out]; rfl, rfl⟩
  have H := Lib.hid (show most s = -1 by simp [most, h0, h1, h2, h3, h4, h5, h6, h7])
  go_enter Tryd.func22, Tryd.ntmps22
  go_wp2_with fail
  go_ret
  exact ⟨by rw [H.out]; rfl, rfl⟩
def lowHigh (s : ByteArray) : Int × Int := if (s.toList == [99, 111, 109, 101]) = true then (1, 16) else if (s.toList == [101, 110, 116, 101, 114]) = true then (1, 16) else if (s.toList == [108, 101, 97, 118, 101]) = true then (1, 16) else if (s.toList == [97, 114, 114, 105, 118, 101]) = true then (1, 100) else (0, 0)
theorem boardCounts_c (s : ByteArray) (w : World) : Calls Tryd.prog 19 #[.string s] w fun e w' => e = .returned (.tuple #[.int .i64 (lowHigh s).1, .int .i64 (lowHigh s).2]) ∧ w = w' := by
  rcases h0 : (s.toList == [99, 111, 109, 101]) with _ | _
  case true =>
    have H := Lib.hid (show lowHigh s = (1, 16) by simp [lowHigh, h0])
    go_enter Tryd.func19, Tryd.ntmps19
    go_wp2_with fail
    go_ret2
    exact ⟨by rw [H.out]; rfl, rfl⟩
  rcases h1 : (s.toList == [101, 110, 116, 101, 114]) with _ | _
  case true =>
    have H := Lib.hid (show lowHigh s = (1, 16) by simp [lowHigh, h0, h1])
    go_enter Tryd.func19, Tryd.ntmps19
    go_wp2_with fail
    go_ret2
    exact ⟨by rw [H.out]; rfl, rfl⟩
  rcases h2 : (s.toList == [108, 101, 97, 118, 101]) with _ | _
  case true =>
    have H := Lib.hid (show lowHigh s = (1, 16) by simp [lowHigh, h0, h1, h2])
    go_enter Tryd.func19, Tryd.ntmps19
    go_wp2_with fail
    go_ret2
    exact ⟨by rw [H.out]; rfl, rfl⟩
  rcases h3 : (s.toList == [97, 114, 114, 105, 118, 101]) with _ | _
  case true =>
    have H := Lib.hid (show lowHigh s = (1, 100) by simp [lowHigh, h0, h1, h2, h3])
    go_enter Tryd.func19, Tryd.ntmps19
    go_wp2_with fail
    go_ret2
    exact ⟨by rw [H.out]; rfl, rfl⟩
  have H := Lib.hid (show lowHigh s = (0, 0) by simp [lowHigh, h0, h1, h2, h3])
  go_enter Tryd.func19, Tryd.ntmps19
  go_wp2_with fail
  go_ret2
  exact ⟨by rw [H.out]; rfl, rfl⟩
/-- strings: one cell an element. -/
def strCells (x : ByteArray) : List Value := [.string x]
theorem Rd.str {w : World} {B : Nat} {A : Option Addr} {l : List ByteArray} (h : Rd w B 1 strCells A l) {i : Nat} (hi : i < l.length) : ∃ b off, A = some ⟨b, off, none⟩ ∧ b < B ∧ w.cell? ⟨b, off + i, none⟩ = some (.string (nth l i)) := by
  obtain ⟨b, off, e, hlt, hc⟩ := h i hi
  exact ⟨b, off, e, hlt, by simpa using hc 0 _ rfl⟩
def isIn (l : List ByteArray) (s : ByteArray) : Bool := anyTo l.length fun j => s.toList == (nth l j).toList
def IdxS (l : List ByteArray) (s : ByteArray) (w : World) (e : Ending) (w' : World) : Prop := ∃ r : Int, e = .returned (.int .i64 r) ∧ decide (0 ≤ r) = isIn l s ∧ w = w'
theorem indexS_c (l : List ByteArray) (A : Option Addr) (n cap : Nat) (s : ByteArray) (w : World) (hn : n = l.length) (hl : l.length ≤ 1048576) (hr : Rd w w.heap.size 1 strCells A l) :
    Calls Tryd.prog 31 #[.slice A n cap, .string s] w (IdxS l s w) := by
  subst hn
  go_enter Tryd.func31, Tryd.ntmps31
  go_wp2_with fail
  go_loop [5, 8] (fun _ i => ∃ k : Nat, k ≤ l.length ∧ i = .int .i64 k ∧ ∀ j, j < k → (s.toList == (nth l j).toList) = false) (fun _ i => l.length - (intOf i).toNat)
  case atStart => exact ⟨0, Nat.zero_le _, rfl, fun j hj => absurd hj (by omega)⟩
  case round =>
    obtain ⟨k, hk, rfl, hall⟩ := hrel
    have HA := Lib.hid hall
    clear hall
    by_cases hlt : k < l.length
    · obtain ⟨b, off, rfl, hb, hc⟩ := hr.str hlt
      rcases hq : (s.toList == (nth l k).toList) with _ | _
      · have H := Lib.hid (below_add (p := fun j => (s.toList == (nth l j).toList) = false) HA.out hq)
        go_wp2_with fail
        go_round
        case rel => exact ⟨k + 1, by omega, by go_num, H.out⟩
        case measure => simp [intOf]; omega
      · have H := Lib.hid (show isIn l s = true from anyTo_yes hlt hq)
        go_wp2_with fail
        go_ret
        exact ⟨k, rfl, by rw [H.out]; simp, rfl⟩
    · obtain rfl : k = l.length := by omega
      have H := Lib.hid (show isIn l s = false from anyTo_none HA.out)
      go_wp2_with fail
      go_ret
      exact ⟨-1, rfl, by rw [H.out]; rfl, rfl⟩
theorem containsS_c (l : List ByteArray) (A : Option Addr) (n cap : Nat) (s : ByteArray) (w : World) (hn : n = l.length) (hl : l.length ≤ 1048576) (hr : Rd w w.heap.size 1 strCells A l) :
    Calls Tryd.prog 20 #[.slice A n cap, .string s] w fun e w' => e = .returned (.bool (isIn l s)) ∧ w = w' := by
  subst hn
  go_enter Tryd.func20, Tryd.ntmps20
  go_wp2_with fail
  refine (indexS_c l _ _ _ _ _ rfl hl hr).mono ?_
  rintro e w1 ⟨r, rfl, hd, rfl⟩
  have HD := Lib.hid hd
  clear hd
  go_wp2_with fail
  go_ret
  exact ⟨retb HD.out, rfl⟩
def kindsB : List ByteArray := [⟨#[99, 111, 109, 101]⟩, ⟨#[111, 112, 101, 110]⟩, ⟨#[115, 104, 117, 116]⟩, ⟨#[101, 110, 116, 101, 114]⟩, ⟨#[108, 101, 97, 118, 101]⟩, ⟨#[97, 114, 114, 105, 118, 101]⟩, ⟨#[108, 101, 118, 101, 108]⟩, ⟨#[103, 111]⟩]
theorem kindsB_at (i : Nat) (h : i < 8) : (nth kindsB i).toList = nth [[99, 111, 109, 101], [111, 112, 101, 110], [115, 104, 117, 116], [101, 110, 116, 101, 114], [108, 101, 97, 118, 101], [97, 114, 114, 105, 118, 101], [108, 101, 118, 101, 108], [103, 111]] i := by
  match i, h with
  | 0, _ => exact (show (nth kindsB 0).toList = [99, 111, 109, 101] from by kernel_rfl)
  | 1, _ => exact (show (nth kindsB 1).toList = [111, 112, 101, 110] from by kernel_rfl)
  | 2, _ => exact (show (nth kindsB 2).toList = [115, 104, 117, 116] from by kernel_rfl)
  | 3, _ => exact (show (nth kindsB 3).toList = [101, 110, 116, 101, 114] from by kernel_rfl)
  | 4, _ => exact (show (nth kindsB 4).toList = [108, 101, 97, 118, 101] from by kernel_rfl)
  | 5, _ => exact (show (nth kindsB 5).toList = [97, 114, 114, 105, 118, 101] from by kernel_rfl)
  | 6, _ => exact (show (nth kindsB 6).toList = [108, 101, 118, 101, 108] from by kernel_rfl)
  | 7, _ => exact (show (nth kindsB 7).toList = [103, 111] from by kernel_rfl)
theorem isIn_kinds (s : ByteArray) : isIn kindsB s = decide (0 ≤ most s) := by
  have hE : ∀ i, i < 8 → (s.toList == (nth kindsB i).toList) = (s.toList == nth [[99, 111, 109, 101], [111, 112, 101, 110], [115, 104, 117, 116], [101, 110, 116, 101, 114], [108, 101, 97, 118, 101], [97, 114, 114, 105, 118, 101], [108, 101, 118, 101, 108], [103, 111]] i) := fun i hi => by rw [kindsB_at i hi]
  have yes : ∀ i, i < 8 → (s.toList == nth [[99, 111, 109, 101], [111, 112, 101, 110], [115, 104, 117, 116], [101, 110, 116, 101, 114], [108, 101, 97, 118, 101], [97, 114, 114, 105, 118, 101], [108, 101, 118, 101, 108], [103, 111]] i) = true → isIn kindsB s = true := fun i hi h => anyTo_yes (n := kindsB.length) (i := i) hi ((hE i hi).trans h)
  rcases h0 : (s.toList == [99, 111, 109, 101]) with _ | _
  case true =>
    rw [yes 0 (by decide) h0, show most s = 16 by simp [most, h0]]; rfl
  rcases h1 : (s.toList == [101, 110, 116, 101, 114]) with _ | _
  case true =>
    rw [yes 3 (by decide) h1, show most s = 16 by simp [most, h0, h1]]; rfl
  rcases h2 : (s.toList == [108, 101, 97, 118, 101]) with _ | _
  case true =>
    rw [yes 4 (by decide) h2, show most s = 16 by simp [most, h0, h1, h2]]; rfl
  rcases h3 : (s.toList == [97, 114, 114, 105, 118, 101]) with _ | _
  case true =>
    rw [yes 5 (by decide) h3, show most s = 100 by simp [most, h0, h1, h2, h3]]; rfl
  rcases h4 : (s.toList == [111, 112, 101, 110]) with _ | _
  case true =>
    rw [yes 1 (by decide) h4, show most s = 0 by simp [most, h0, h1, h2, h3, h4]]; rfl
  rcases h5 : (s.toList == [115, 104, 117, 116]) with _ | _
  case true =>
    rw [yes 2 (by decide) h5, show most s = 0 by simp [most, h0, h1, h2, h3, h4, h5]]; rfl
  rcases h6 : (s.toList == [108, 101, 118, 101, 108]) with _ | _
  case true =>
    rw [yes 6 (by decide) h6, show most s = 0 by simp [most, h0, h1, h2, h3, h4, h5, h6]]; rfl
  rcases h7 : (s.toList == [103, 111]) with _ | _
  case true =>
    rw [yes 7 (by decide) h7, show most s = 0 by simp [most, h0, h1, h2, h3, h4, h5, h6, h7]]; rfl
  rw [show most s = -1 by simp [most, h0, h1, h2, h3, h4, h5, h6, h7]]
  exact anyTo_none (n := kindsB.length) fun i hi => by
    rw [hE i hi]
    match i, hi with
    | 0, _ => exact h0
    | 1, _ => exact h4
    | 2, _ => exact h5
    | 3, _ => exact h1
    | 4, _ => exact h2
    | 5, _ => exact h3
    | 6, _ => exact h6
    | 7, _ => exact h7
end Go.Proofs.YtfmemmfmalfkaaaDoor
