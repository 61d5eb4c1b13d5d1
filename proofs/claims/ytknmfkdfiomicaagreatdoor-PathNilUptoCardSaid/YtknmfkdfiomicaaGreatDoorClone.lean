/- slices.Clone of bytes. -/
import Derived.Test.YtknmfkdfiomicaaGreatDoorStep
import Derived.Test.YtknmfkdfiomicaaGreatDoorConv
namespace Go.Proofs
open Go.RowKit
theorem Tryz.neNil (a : Addr) (n c : Nat) : ∀ w : World, (binOp .eql 22 (.slice (some a) n c) (.slice none 0 0)).run Tryz.prog w = .ok (.bool false) w := fun _ => by kernel_rfl
theorem clone_some (a : Addr) (n c : Nat) (l : List UInt8) (w : World) (h : Bytes w (.slice (some a) n c) l) (hl : l.length ≤ lim) :
    Calls Tryz.prog 52 #[.slice (some a) n c] w (NewBytes w l) := by
  obtain ⟨i0, hi0, hz0, hz1, hz2⟩ := info_parts Tryz.u8
  have h' := h
  obtain ⟨hlen, hm, A, c', he, hc, hA⟩ := h'
  cases he
  have H := Lib.hid h
  have H3 : Hid (0 + l.length ≤ maxLen) := Lib.hid (by simp only [maxLen, lim] at *; omega)
  have H4 : Hid ((0 + l.length) * 1 ≤ 140737488355328) := Lib.hid (by simp only [lim] at *; omega)
  have hnil := Tryz.neNil a l.length c
  clear h hlen hA hl hm hc
  go_enter Tryz.func52, Tryz.ntmps52
  go_wp2_with (at_builtin; refine wpList_append_row _ rfl (.tmp 5) (.tmp 6) _ rfl w.heap.size 5 i0 _ 1 1 Tryz.underlying22 hi0 hz0 hz1 hz2 rfl (Nat.le_refl 1) (.slice (some ⟨w.heap.size, 0, none⟩) 0 0) 0 [] rfl (World.ownsRow_made w #[] 0 (Nat.le_refl _) (Nat.zero_le _) rfl) (some a) l.length c (l.map bv) rfl (H.out.below ((Below.refl _ _).alloc (Nat.le_refl _) _)) (oneCell_bv l) H3.out H4.out (by simp) ?_; intro v1 w1 hown1 hg1 hat1)
  go_ret
  obtain ⟨A1, c1, rfl, hB1⟩ := bytes_of_own (l := l) (by simpa using hown1)
  refine ⟨_, rfl, ⟨A1, c1, rfl, hB1⟩, ?_⟩
  refine ((Below.refl _ _).alloc (Nat.le_refl _) _).grown hg1 (by simp) (fun k hk => ?_)
  simp [Value.ownBlock] at hk; omega
end Go.Proofs
