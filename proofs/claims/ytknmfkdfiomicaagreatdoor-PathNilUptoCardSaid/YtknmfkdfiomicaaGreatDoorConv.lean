/- What the laws' own functions make of the document's values: the program's, in new memory. -/
import Derived.Test.YtknmfkdfiomicaaGreatDoorW
namespace Go.Proofs
open Go.RowKit
theorem copied13 (v : Value) (l : List UInt8) (w : World) (h : Bytes w v l) (hl : l.length ≤ lim) :
    Calls Tryz.prog 78 #[v] w (NewBytes w l) := by
  obtain ⟨i0, hi0, hz0, hz1, hz2⟩ := info_parts Tryz.u8
  have h' := h
  obtain ⟨hlen, hm, A, c, rfl, hc, hA⟩ := h'
  have H := Lib.hid h
  have H3 : Hid (0 + l.length ≤ maxLen) := Lib.hid (by simp only [maxLen, lim] at *; omega)
  have H4 : Hid ((0 + l.length) * 1 ≤ 140737488355328) := Lib.hid (by simp only [lim] at *; omega)
  clear h hlen hA hl hm hc
  go_enter Tryz.func78, Tryz.ntmps78
  go_wp2_with (at_builtin; refine wpList_append_row _ rfl (.tmp 3) (.tmp 4) _ rfl w.heap.size 5 i0 _ 1 1 Tryz.underlying22 hi0 hz0 hz1 hz2 rfl (Nat.le_refl 1) (.slice (some ⟨w.heap.size, 0, none⟩) 0 0) 0 [] rfl (World.ownsRow_made w #[] 0 (Nat.le_refl _) (Nat.zero_le _) rfl) A l.length c (l.map bv) rfl (H.out.below ((Below.refl _ _).alloc (Nat.le_refl _) _)) (oneCell_bv l) H3.out H4.out (by simp) ?_; intro v1 w1 hown1 hg1 hat1)
  go_ret
  obtain ⟨A1, c1, rfl, hB1⟩ := bytes_of_own (l := l) (by simpa using hown1)
  refine ⟨_, rfl, ⟨A1, c1, rfl, hB1⟩, ?_⟩
  refine ((Below.refl _ _).alloc (Nat.le_refl _) _).grown hg1 (by simp) (fun k hk => ?_)
  simp [Value.ownBlock] at hk; omega
end Go.Proofs
