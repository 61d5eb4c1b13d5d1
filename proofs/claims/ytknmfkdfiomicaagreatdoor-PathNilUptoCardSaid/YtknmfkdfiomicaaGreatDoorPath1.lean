/- What path's Take, Apply and Open answer at no tree, and at one that nobody made. -/
import Derived.Test.YtknmfkdfiomicaaGreatDoorPath0
namespace Go.Proofs
open Go.RowKit
set_option maxRecDepth 8000 in
set_option maxHeartbeats 2000000 in
theorem take_none (v : Option Addr) (i : Int) (l0 l1 l2 l3 l4 l5 : Value) (S A : Option Addr) (ns cp n c : Nat) (w : World) (h : NoTree w v) :
    Calls Tryz.prog 9 #[.pointer v, .int .i64 i, .agg #[l0, l1, l2, l3, l4, l5, .slice S ns cp], .int .i64 0, .slice A n c] w
    fun e w' => e = .returned (.tuple #[.map none, .slice none 0 0, .int .i64 1]) ∧ Below w.heap.size w w' := by
  have H := Lib.hid h
  clear h
  by_cases hn : ns = 0
  · subst hn
    go_enter Tryz.func9, Tryz.ntmps9
    go_wp2_with (first
      | (refine wpList_box 36 (.tmp 2) #[l0, l1, l2, l3, l4, l5, .slice S 0 cp] rfl rfl rfl ?_; intro W1 r1 g1 s1
         have R1 := Lib.hid r1; have B1 := Lib.hid (toB g1); clear r1 g1 s1)
      | (go_at_call 18; refine (filtered_none _ _ _ (H.out.below B1.out)).mono ?_; rintro e w2 ⟨rfl, h2⟩
         have r2 := R1.out.below h2 R1.out.lt; have c6 : w2.cell? ⟨w.heap.size, 6, none⟩ = some (.slice S 0 cp) := (by rw [r2.cell]; rfl)
         have B2 := Lib.hid (B1.out.trans (h2.mono B1.out.size)); clear h2 r2))
    go_ret3
    exact ⟨rfl, B2.out⟩
  · have hn' : ((ns : Int) != 0) = true := by simp; exact hn
    have hn2 : decide ((ns : Int) ≤ 0) = false := by simp; omega
    go_enter Tryz.func9, Tryz.ntmps9
    go_wp2_with (first
      | (refine wpList_box 36 (.tmp 2) #[l0, l1, l2, l3, l4, l5, .slice S ns cp] rfl rfl rfl ?_; intro W1 r1 g1 s1
         have R1 := Lib.hid r1; have B1 := Lib.hid (toB g1); clear r1 g1 s1)
      | (go_at_call 18; refine (filtered_none _ _ _ (H.out.below B1.out)).mono ?_; rintro e w2 ⟨rfl, h2⟩
         have r2 := R1.out.below h2 R1.out.lt; have c6 : w2.cell? ⟨w.heap.size, 6, none⟩ = some (.slice S ns cp) := (by rw [r2.cell]; rfl)
         have B2 := Lib.hid (B1.out.trans (h2.mono B1.out.size)); clear h2 r2))
    go_ret3
    exact ⟨rfl, B2.out⟩
end Go.Proofs
