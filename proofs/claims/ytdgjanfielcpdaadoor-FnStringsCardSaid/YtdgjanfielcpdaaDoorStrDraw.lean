/- What the reference draws for the statement on texts; no conditions. -/
import Derived.Test.YtdgjanfielcpdaaDoorL1Read
import Derived.Test.YtdgjanfielcpdaaDoorSealI
import Derived.Test.YtdgjanfielcpdaaDoorVee
import Derived.Lib.ConvBytes
import Derived.Laws.IdiomStrings
namespace Go.Proofs.YtdgjanfielcpdaaDoor
open Go.RowKit

/-- A text that is drawn. -/
def DrewS (gc K : Nat) (w : World) (e : Ending) (w' : World) : Prop := ∃ v : ByteArray, e = .returned (.string v) ∧ v.size ≤ 5000 ∧ Cur w' gc K ∧ w.grownBy w' (some gc)
/-- One of some texts of a literal. -/
theorem of_c (l : List ByteArray) (gc K n : Nat) (w : World) (cs : Array Value) (h : Cur w gc K) (hK : K ≤ 10000000) (hn : n = l.length) (hcs : cs = (l.map Value.string).toArray) (h0 : 0 < l.length) (h2 : l.length ≤ 1000) (hl : ∀ x ∈ l, x.size ≤ 5000) :
    Calls Tryd.prog 23 #[.pointer (some ⟨gc, 0, none⟩), .slice (some ⟨w.heap.size, 0, none⟩) n n] (w.alloc (.cells cs 9)) (DrewS gc (K + 2) w) := by
  subst hn hcs
  have hlt := h.lt
  have HC := Lib.hid (h.alloc (.cells (l.map Value.string).toArray 9))
  have HL := Lib.hid hl
  have HG := Lib.hid (but_alloc (a := w) (g := gc) (.cells (l.map Value.string).toArray 9))
  have HR := Lib.hid (show ∀ i, i < l.length → (w.alloc (.cells (l.map Value.string).toArray 9)).cell? ⟨w.heap.size, i, none⟩ = some (.string (l[i]!)) from fun i hi => by
    rw [cell_of_row _ _ i (l.map Value.string).toArray 9 (0, 0) (heap_alloc_new w _)]
    simp [hi])
  have hsz : w.heap.size < (w.alloc (.cells (l.map Value.string).toArray 9)).heap.size := by simp
  clear h hl
  obtain ⟨w0, hw0⟩ : ∃ w0, w.alloc (.cells (l.map Value.string).toArray 9) = w0 := ⟨_, rfl⟩
  rw [hw0] at HC HG HR hsz ⊢
  obtain ⟨b, hb⟩ : ∃ b, w.heap.size = b := ⟨_, rfl⟩
  rw [hb] at HR hsz hlt ⊢
  clear hw0
  have n1 : (1 : Int) ≤ l.length := by omega
  have n2 : (l.length : Int) ≤ 100000000 := by omega
  go_enter Tryd.func23, Tryd.ntmps23
  go_wp2_with fail
  refine (pick_c l.length gc K _ HC.out hK n1 n2).mono ?_
  rintro e w1 ⟨v, rfl, v1, v2, hc1, hg1⟩
  have H1 := Lib.hid hc1
  have G1 := Lib.hid (but_trans HG.out hg1)
  obtain ⟨k, rfl⟩ : ∃ k : Nat, v = (k : Int) := ⟨v.toNat, by omega⟩
  have hk : k < l.length := by omega
  have q := (World.cell?_of_block (a := ⟨b, k, none⟩) (hg1.block b hsz (by simp; omega))).trans (HR.out k hk)
  have HS := Lib.hid (HL.out l[k]! (by rw [getElem!_pos l k hk]; exact List.getElem_mem hk))
  clear hc1 hg1
  have i2 : (k : Int) < l.length := by omega
  obtain ⟨x, hx⟩ : ∃ x, l[k]! = x := ⟨_, rfl⟩
  rw [hx] at q HS
  clear hx
  go_wp2_with fail
  go_ret
  exact ⟨x, rfl, HS.out, H1.out, G1.out⟩
theorem of_n (l : List ByteArray) (gc K n b : Nat) (w : World) (cs : Array Value) (h : Cur w gc K) (hK : K ≤ 10000000) (hb : b = w.heap.size) (hn : n = l.length) (hcs : cs = (l.map Value.string).toArray) (h0 : 0 < l.length) (h2 : l.length ≤ 1000) (hl : ∀ x ∈ l, x.size ≤ 5000) :
    Calls Tryd.prog 23 #[.pointer (some ⟨gc, 0, none⟩), .slice (some ⟨b, 0, none⟩) n n] (w.alloc (.cells cs 9)) (DrewS gc (K + 2) w) := by
  subst hb
  exact of_c l gc K n w cs h hK hn hcs h0 h2 hl
theorem any1_c (gc K : Nat) (w : World) (h : Cur w gc K) (hK : K ≤ 1000000) : Calls Tryd.prog 26 #[.pointer (some ⟨gc, 0, none⟩)] w (DrewS gc (K + 2) w) := by
  have HC := Lib.hid h
  clear h
  go_enter Tryd.func26, Tryd.ntmps26
  go_wp2_with fail
  refine (of_n [S [], S [97], S [97, 44, 98], S [115, 111, 109, 101, 32, 119, 111, 114, 100, 115], S [120, 35, 121], S [45, 49, 50], S [0, 255], S [44, 44], S [48]] gc K _ _ _ _ HC.out (by omega) rfl rfl rfl (by simp) (by simp) (by intro x hx; simp at hx; rcases hx with rfl | rfl | rfl | rfl | rfl | rfl | rfl | rfl | rfl <;> (rw [S_size]; simp))).mono ?_
  rintro e w1 ⟨v, rfl, hv, hc, hg⟩
  have H1 := Lib.hid hc
  have G1 := Lib.hid hg
  clear hc hg
  go_wp2_with fail
  go_ret
  exact ⟨v, rfl, hv, H1.out, G1.out⟩
theorem drawFormatInt_c (A : Option Addr) (n cap : Nat) (w : World) (hk : Codes w A n) : Calls Tryd.prog 5 #[.slice A n cap] w fun e w' => ∃ x : Int, e = .returned (.int .i64 x) ∧ (-1000000 ≤ x ∧ x ≤ 1000000) ∧ Below w.heap.size w w' := by
  have HC := Lib.hid (hk.cur (cap := cap))
  clear hk
  go_enter Tryd.func5, Tryd.ntmps5
  go_wp2_with fail
  refine (pick_c 1000 _ _ _ HC.out (by omega) (by omega) (by omega)).mono ?_
  rintro e w1 ⟨p, rfl, p1, p2, hcw1, hgw1⟩
  have HCw1 := Lib.hid hcw1
  have HGw1 := Lib.hid hgw1
  clear hcw1 hgw1
  have a1 : IntKind.i64.wrap (p - 500) = p - 500 := IntWalk.i64_in _ (by omega)
  have hbd : ∀ i, i < [0, 1, -1, 10, 999999, -999999, 1000000, -1000000, p - 500].length → -1000000 ≤ nth [0, 1, -1, 10, 999999, -999999, 1000000, -1000000, p - 500] i ∧ nth [0, 1, -1, 10, 999999, -999999, 1000000, -1000000, p - 500] i ≤ 1000000 := fun i hi => by
    match i, hi with
    | 0, _ => simp [nth]
    | 1, _ => simp [nth]
    | 2, _ => simp [nth]
    | 3, _ => simp [nth]
    | 4, _ => simp [nth]
    | 5, _ => simp [nth]
    | 6, _ => simp [nth]
    | 7, _ => simp [nth]
    | 8, _ => simp [nth]; omega
  go_wp2_with fail
  refine (among_n [0, 1, -1, 10, 999999, -999999, 1000000, -1000000, p - 500] (-1000000) 1000000 _ _ _ _ _ _ HCw1.out (by omega) (by simp) rfl rfl (by simp) (by simp) hbd).mono ?_
  rintro e w2 ⟨x, rfl, x1, x2, hcw2, hgw2⟩
  have HCw2 := Lib.hid hcw2
  have HGw2 := Lib.hid hgw2
  clear hcw2 hgw2
  go_wp2_with fail
  go_ret
  exact ⟨x, rfl, ⟨x1, x2⟩, draw_end (but_trans HGw1.out HGw2.out)⟩
theorem drawParseInt_c (A : Option Addr) (n cap : Nat) (w : World) (hk : Codes w A n) : Calls Tryd.prog 8 #[.slice A n cap] w fun e w' => ∃ v : ByteArray, e = .returned (.string v) ∧ v.size ≤ 5000 ∧ Below w.heap.size w w' := by
  have HC := Lib.hid (hk.cur (cap := cap))
  clear hk
  go_enter Tryd.func8, Tryd.ntmps8
  go_wp2_with fail
  refine (one_c 2 _ _ _ HC.out (by omega) (by omega) (by omega)).mono ?_
  rintro e w1 ⟨o, rfl, hcw1, hgw1⟩
  have HCw1 := Lib.hid hcw1
  have HGw1 := Lib.hid hgw1
  clear hcw1 hgw1
  rcases o with _ | _
  · go_wp2_with fail
    refine (pick_c 2000 _ _ _ HCw1.out (by omega) (by omega) (by omega)).mono ?_
    rintro e w2 ⟨p, rfl, p1, p2, hcw2, hgw2⟩
    have HCw2 := Lib.hid hcw2
    have HGw2 := Lib.hid hgw2
    clear hcw2 hgw2
    have a1 : IntKind.i64.wrap (p - 1000) = p - 1000 := IntWalk.i64_in _ (by omega)
    go_wp2_with fail
    refine (l1Num_c (p - 1000) _ (by omega) (by omega)).mono ?_
    rintro e w3 ⟨rfl, hb3⟩
    have HB := Lib.hid ((draw_end (but_trans HGw1.out HGw2.out)).trans (hb3.mono (draw_end (but_trans HGw1.out HGw2.out)).size))
    clear hb3
    go_wp2_with fail
    go_ret
    exact ⟨_, rfl, by rw [S_size]; have := num_len (n := p - 1000) (by omega) (by omega); omega, HB.out⟩
  · go_wp2_with fail
    refine (of_n [S [], S [45], S [45, 48], S [48, 48], S [48, 49], S [45, 45, 49], S [49, 120], S [57, 57, 57, 57, 57, 57], S [49, 48, 48, 48, 48, 48, 48], S [45, 57, 57, 57, 57, 57, 57], S [49, 56, 52, 52, 54, 55, 52, 52, 48, 55, 51, 55, 48, 57, 53, 53, 49, 54, 49, 55]] _ _ _ _ _ _ HCw1.out (by omega) rfl rfl rfl (by simp) (by simp) (by intro x hx; simp at hx; rcases hx with rfl | rfl | rfl | rfl | rfl | rfl | rfl | rfl | rfl | rfl | rfl <;> (rw [S_size]; simp))).mono ?_
    rintro e w2 ⟨v, rfl, hv, hc, hg⟩
    have HB := Lib.hid (draw_end (but_trans HGw1.out hg))
    clear hc hg
    go_wp2_with fail
    go_ret
    exact ⟨v, rfl, hv, HB.out⟩
theorem info_byte : (Tryd.prog.info? 5).map (fun i => (i.zero, i.size, i.bytes)) = some (some (.int .u8 0), 1, 1) := by kernel_rfl
theorem made_bytes (n : Nat) : madeCells (Value.int .u8 0).cells (n * 1) = ((List.replicate n (0 : UInt8)).map fun b => Value.int .u8 b.toNat).toArray := by
  have e : (Value.int .u8 0).cells = #[.int .u8 0] := rfl
  unfold madeCells
  rw [e]
  apply Array.ext
  · simp
  · intro i h1 h2
    simp [Nat.mod_one]
theorem drawAppendChecksum_c (A : Option Addr) (n cap : Nat) (w : World) (hk : Codes w A n) : Calls Tryd.prog 11 #[.slice A n cap] w fun e w' => ∃ v : ByteArray, e = .returned (.string v) ∧ v.size ≤ 5000 ∧ Below w.heap.size w w' := by
  have HC := Lib.hid (hk.cur (cap := cap))
  clear hk
  go_enter Tryd.func11, Tryd.ntmps11
  go_wp2_with fail
  refine (one_c 20 _ _ _ HC.out (by omega) (by omega) (by omega)).mono ?_
  rintro e w1 ⟨o, rfl, hcw1, hgw1⟩
  have HCw1 := Lib.hid hcw1
  have HGw1 := Lib.hid hgw1
  clear hcw1 hgw1
  rcases o with _ | _
  · go_wp2_with fail
    refine (any1_c _ _ _ HCw1.out (by omega)).mono ?_
    rintro e w2 ⟨v, rfl, hv, hc, hg⟩
    have HB := Lib.hid (draw_end (but_trans HGw1.out hg))
    clear hc hg
    go_wp2_with fail
    go_ret
    exact ⟨v, rfl, hv, HB.out⟩
  · go_wp2_with fail
    refine (pick_c 10 _ _ _ HCw1.out (by omega) (by omega) (by omega)).mono ?_
    rintro e w2 ⟨p, rfl, p1, p2, hcw2, hgw2⟩
    have HCw2 := Lib.hid hcw2
    have HGw2 := Lib.hid hgw2
    clear hcw2 hgw2
    obtain ⟨p, rfl⟩ : ∃ p' : Nat, p = (p' : Int) := ⟨p.toNat, by omega⟩
    obtain ⟨N, hN⟩ : ∃ N : Nat, 3990 + p = N := ⟨_, rfl⟩
    have a1 : IntKind.i64.wrap (3990 + (p : Int)) = (N : Int) := by rw [show 3990 + (p : Int) = (N : Int) by omega]; exact IntWalk.i64_in _ (by omega)
    have a2 : 3990 + (p : Int) = (N : Int) := by omega
    have hN2 : N ≤ 4000 := by omega
    clear hN
    have hmk := make_rows (P := Tryd.prog) 22 5 (.int .u8 0) 1 1 Tryd.underlying22 info_byte N (by omega) (by omega) w2
    rw [made_bytes] at hmk
    have hcb := run_convert_bytes_back (P := Tryd.prog) (w2.alloc (.cells ((List.replicate N (0 : UInt8)).map fun b => Value.int .u8 b.toNat).toArray 5)) 22 9 5 ⟨w2.heap.size, 0, none⟩ N (List.replicate N 0) Tryd.underlying22 Tryd.underlying5 Tryd.underlying9 (fun j hj => by
      have h := cell_of_row (w2.alloc (.cells ((List.replicate N (0 : UInt8)).map fun b => Value.int .u8 b.toNat).toArray 5)) w2.heap.size j _ 5 (0, 0) (heap_alloc_new w2 _)
      have e : (⟨w2.heap.size, 0, none⟩ : Addr).add j = ⟨w2.heap.size, j, none⟩ := by simp [Addr.add]; omega
      rw [e, h]
      simp at hj
      simp [hj])
    rw [List.length_replicate] at hcb
    have hsz : (S (List.replicate N 0)).size ≤ 5000 := by rw [S_size]; simp; omega
    have HB := Lib.hid (show Below w.heap.size w (w2.alloc (.cells ((List.replicate N (0 : UInt8)).map fun b => Value.int .u8 b.toNat).toArray 5)) from (draw_end (but_trans HGw1.out HGw2.out)).alloc (draw_end (but_trans HGw1.out HGw2.out)).size _)
    obtain ⟨w3, hw3⟩ : ∃ w3, w2.alloc (.cells ((List.replicate N (0 : UInt8)).map fun b => Value.int .u8 b.toNat).toArray 5) = w3 := ⟨_, rfl⟩
    rw [hw3] at hmk hcb HB
    obtain ⟨v, hv⟩ : ∃ v, (⟨(List.replicate N (0 : UInt8)).toArray⟩ : ByteArray) = v := ⟨_, rfl⟩
    have hv2 : S (List.replicate N 0) = v := hv
    rw [hv2] at hsz
    rw [hv] at hcb
    clear hw3 hv hv2
    go_wp2_with fail
    go_ret
    exact ⟨v, rfl, hsz, HB.out⟩
end Go.Proofs.YtdgjanfielcpdaaDoor
