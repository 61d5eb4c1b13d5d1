/- Numbers as bytes: codec's bits, put and Number. -/
import Derived.Test.YtknmfkdfiomicaaGreatDoorW
namespace Go.Proofs
open Go.RowKit
/-- the low bytes of a number, the highest first -/
def be (n : Nat) : Nat → List UInt8
  | 0 => []
  | k + 1 => UInt8.ofNat (n / 256 ^ k) :: be n k
theorem be_length (n : Nat) : ∀ k, (be n k).length = k
  | 0 => rfl
  | k + 1 => by simp [be, be_length n k]
theorem bv_of {x : Int} {n : Nat} (h : x = ((n % 256 : Nat) : Int)) : Value.int .u8 x = bv (UInt8.ofNat n) := by
  subst h; simp [bv]
theorem be1_vals (n : Int) (h0 : 0 ≤ n) (h1 : n < 256) : (be n.toNat 1).map bv = [.int .u8 n] := by
  simp only [be, List.map_cons, List.map_nil]
  rw [← bv_of (x := n) (by omega)]
theorem be2_vals (n : Int) (h0 : 0 ≤ n) (h1 : n < 65536) : (be n.toNat 2).map bv = [.int .u8 (n / 256), .int .u8 (n % 256)] := by
  simp only [be, List.map_cons, List.map_nil]
  rw [← bv_of (x := n / 256) (by omega), ← bv_of (x := n % 256) (by omega)]
theorem be4_vals (n : Int) (h0 : 0 ≤ n) (h1 : n < 4294967296) : (be n.toNat 4).map bv = [.int .u8 (n / 16777216), .int .u8 (n / 65536 % 256), .int .u8 (n / 256 % 256), .int .u8 (n % 256)] := by
  simp only [be, List.map_cons, List.map_nil]
  rw [← bv_of (x := n / 16777216) (by omega), ← bv_of (x := n / 65536 % 256) (by omega), ← bv_of (x := n / 256 % 256) (by omega), ← bv_of (x := n % 256) (by omega)]
theorem bytes_of_row {w : World} {g : Nat} {t : TypeId} {xs : List Value} {l : List UInt8} (h : isRow w g t xs.toArray) (hl : l.map bv = xs) (hn : l.length ≤ maxLen) : Bytes w (.slice (some ⟨g, 0, none⟩) l.length l.length) l := by
  subst hl
  exact row_of_isRow h (by simp) hn
theorem bits_some (n : Int) (w : World) (h : n = 1 ∨ n = 2 ∨ n = 4) : Calls Tryz.prog 145 #[.int .i64 n] w fun e w' => e = .returned (.int .i64 (8 * n)) ∧ w = w' := by
  rcases h with rfl | rfl | rfl
  all_goals (go_enter Tryz.func145, Tryz.ntmps145; go_wp2; go_ret; exact ⟨rfl, rfl⟩)
theorem put1 (n : Int) (w : World) (h0 : 0 ≤ n) (h1 : n < 256) : Calls Tryz.prog 146 #[.int .i64 n, .int .i64 1] w (NewBytes w (be n.toNat 1)) := by
  have hmk : ∀ w, (Instr.makeSlice 22 (.int .i64 1) (.int .i64 1)).run Tryz.prog w = .ok (.slice (some ⟨w.heap.size, 0, none⟩) 1 1) (w.alloc (.cells #[.int .u8 0] 5)) := fun _ => by kernel_rfl
  go_enter Tryz.func146, Tryz.ntmps146
  go_wp2
  go_rounds 2
  go_ret
  exact ⟨_, rfl, ⟨_, _, rfl, bytes_of_row (isRow.new w _ _) (be1_vals n h0 h1) (le_maxLen (Nat.le_of_ble_eq_true rfl))⟩, (Below.refl _ _).alloc (Nat.le_refl _) _⟩
theorem put2 (n : Int) (w : World) (h0 : 0 ≤ n) (h1 : n < 65536) : Calls Tryz.prog 146 #[.int .i64 n, .int .i64 2] w (NewBytes w (be n.toNat 2)) := by
  have hmk : ∀ w, (Instr.makeSlice 22 (.int .i64 2) (.int .i64 2)).run Tryz.prog w = .ok (.slice (some ⟨w.heap.size, 0, none⟩) 2 2) (w.alloc (.cells #[.int .u8 0, .int .u8 0] 5)) := fun _ => by kernel_rfl
  go_enter Tryz.func146, Tryz.ntmps146
  go_wp2
  go_rounds 3
  go_ret
  exact ⟨_, rfl, ⟨_, _, rfl, bytes_of_row (isRow.new w _ _) (be2_vals n h0 h1) (le_maxLen (Nat.le_of_ble_eq_true rfl))⟩, (Below.refl _ _).alloc (Nat.le_refl _) _⟩
theorem put4 (n : Int) (w : World) (h0 : 0 ≤ n) (h1 : n < 4294967296) : Calls Tryz.prog 146 #[.int .i64 n, .int .i64 4] w (NewBytes w (be n.toNat 4)) := by
  have hmk : ∀ w, (Instr.makeSlice 22 (.int .i64 4) (.int .i64 4)).run Tryz.prog w = .ok (.slice (some ⟨w.heap.size, 0, none⟩) 4 4) (w.alloc (.cells #[.int .u8 0, .int .u8 0, .int .u8 0, .int .u8 0] 5)) := fun _ => by kernel_rfl
  go_enter Tryz.func146, Tryz.ntmps146
  go_wp2
  go_rounds 5
  go_ret
  exact ⟨_, rfl, ⟨_, _, rfl, bytes_of_row (isRow.new w _ _) (be4_vals n h0 h1) (le_maxLen (Nat.le_of_ble_eq_true rfl))⟩, (Below.refl _ _).alloc (Nat.le_refl _) _⟩
/-- a new slice of bytes beside OK -/
def NewBytesOK (w : World) (l : List UInt8) : Ending → World → Prop := Some_ w fun v w' => ∃ A c, v = .tuple #[.slice A l.length c, .int .i64 0] ∧ Bytes w' (.slice A l.length c) l
theorem number4 (n : Int) (w : World) (h0 : 0 ≤ n) (h1 : n < 4294967296) : Calls Tryz.prog 105 #[.int .i64 n, .int .i64 4] w (NewBytesOK w (be n.toNat 4)) := by
  have hd : ((n / 4294967296 != 0) : Bool) = false := by
    have : n / 4294967296 = 0 := by omega
    simp [this]
  have hz : decide (n < 0) = false := by simpa using h0
  go_enter Tryz.func105, Tryz.ntmps105
  go_wp2_with (first | (go_at_call 145; refine (bits_some 4 _ (by simp)).mono ?_; rintro e w' ⟨rfl, rfl⟩) | (go_at_call 146; refine (put4 n _ h0 h1).mono ?_; rintro e w1 ⟨_, rfl, ⟨A1, c1, rfl, hb⟩, hw1⟩))
  go_ret2
  exact ⟨_, rfl, ⟨_, _, rfl, hb⟩, hw1⟩
end Go.Proofs
