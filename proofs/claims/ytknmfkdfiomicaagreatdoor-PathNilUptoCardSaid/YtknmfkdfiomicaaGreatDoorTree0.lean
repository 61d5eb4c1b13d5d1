/- What a tree that is none answers: no tree, and one that nobody made. -/
import Derived.Test.YtknmfkdfiomicaaGreatDoorW
namespace Go.Proofs
open Go.RowKit
/-- no tree, or one that nobody made -/
def NoTree (w : World) (v : Option Addr) : Prop := v = none ∨ ∃ b, v = some ⟨b, 0, none⟩ ∧ isRow w b 51 #[.int .i64 0, .map none]
theorem NoTree.below {w w' : World} {v : Option Addr} (h : NoTree w v) (hb : Below w.heap.size w w') : NoTree w' v := by
  rcases h with h | ⟨b, rfl, h⟩
  · exact .inl h
  · exact .inr ⟨b, rfl, h.below hb h.lt⟩
theorem Tryz.neqmap : ∀ w : World, (binOp .eql 49 (.map none) (.map none)).run Tryz.prog w = .ok (.bool true) w := fun _ => by kernel_rfl
theorem none_none (v : Option Addr) (w : World) (h : NoTree w v) : Calls Tryz.prog 44 #[.pointer v] w fun e w' => e = .returned (.bool true) ∧ w = w' := by
  rcases h with rfl | ⟨b, rfl, h⟩
  · go_enter Tryz.func44, Tryz.ntmps44; go_wp2; go_ret; exact ⟨rfl, rfl⟩
  · have h1 : w.cell? ⟨b, 1, none⟩ = some (.map none) := by rw [h.cell]; rfl
    clear h
    have hm := Tryz.neqmap
    go_enter Tryz.func44, Tryz.ntmps44; go_wp2; go_ret; exact ⟨rfl, rfl⟩
theorem leaves_none (v : Option Addr) (w : World) (h : NoTree w v) : Calls Tryz.prog 13 #[.pointer v] w fun e w' => e = .returned (.int .i64 0) ∧ w = w' := by
  go_enter Tryz.func13, Tryz.ntmps13
  go_wp2_with (go_at_call 44; refine (none_none _ _ h).mono ?_; rintro e w' ⟨rfl, rfl⟩)
  go_ret; exact ⟨rfl, rfl⟩
theorem leaf_none (v : Option Addr) (i : Int) (w : World) (h : NoTree w v) :
    Calls Tryz.prog 16 #[.pointer v, .int .i64 i] w fun e w' => e = .returned (.tuple #[.agg #[.slice none 0 0, .slice none 0 0, .slice none 0 0, .int .i64 0, .slice none 0 0, .slice none 0 0], .bool false]) ∧ Below w.heap.size w w' := by
  have H := Lib.hid h
  clear h
  by_cases hi : 0 ≤ i
  · go_enter Tryz.func16, Tryz.ntmps16
    go_wp2_with (go_at_call 13; refine (leaves_none _ _ (H.out.below ((Below.refl _ _).alloc (Nat.le_refl _) _))).mono ?_; rintro e w' ⟨rfl, rfl⟩)
    exact bodyPost_ret (v := .tuple #[.agg #[.slice none 0 0, .slice none 0 0, .slice none 0 0, .int .i64 0, .slice none 0 0, .slice none 0 0], .bool false]) (by simp [results, Tryz.results16, go_sem]) rfl ⟨rfl, (Below.refl _ _).alloc (Nat.le_refl _) _⟩
  · have hi' : decide (0 ≤ i) = false := by simpa using hi
    go_enter Tryz.func16, Tryz.ntmps16
    go_wp2_with (fail)
    exact bodyPost_ret (v := .tuple #[.agg #[.slice none 0 0, .slice none 0 0, .slice none 0 0, .int .i64 0, .slice none 0 0, .slice none 0 0], .bool false]) (by simp [results, Tryz.results16, go_sem]) rfl ⟨rfl, (Below.refl _ _).alloc (Nat.le_refl _) _⟩
end Go.Proofs
