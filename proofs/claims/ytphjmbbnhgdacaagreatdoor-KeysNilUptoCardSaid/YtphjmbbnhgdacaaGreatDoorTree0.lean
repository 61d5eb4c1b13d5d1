/- What a tree that is none answers: no tree, and one that nobody made. -/
import Derived.Test.YtphjmbbnhgdacaaGreatDoorW
namespace Go.Proofs
open Go.RowKit
/-- no tree, or one that nobody made -/
def NoTree (w : World) (v : Option Addr) : Prop := v = none ∨ ∃ b, v = some ⟨b, 0, none⟩ ∧ isRow w b 34 #[.int .i64 0, .map none]
theorem NoTree.below {w w' : World} {v : Option Addr} (h : NoTree w v) (hb : Below w.heap.size w w') : NoTree w' v := by
  rcases h with h | ⟨b, rfl, h⟩
  · exact .inl h
  · exact .inr ⟨b, rfl, h.below hb h.lt⟩
theorem Tryz.neqmap : ∀ w : World, (binOp .eql 32 (.map none) (.map none)).run Tryz.prog w = .ok (.bool true) w := fun _ => by kernel_rfl
theorem none_none (v : Option Addr) (w : World) (h : NoTree w v) : Calls Tryz.prog 34 #[.pointer v] w fun e w' => e = .returned (.bool true) ∧ w = w' := by
  rcases h with rfl | ⟨b, rfl, h⟩
  · go_enter Tryz.func34, Tryz.ntmps34; go_wp2; go_ret; exact ⟨rfl, rfl⟩
  · have h1 : w.cell? ⟨b, 1, none⟩ = some (.map none) := by rw [h.cell]; rfl
    clear h
    have hm := Tryz.neqmap
    go_enter Tryz.func34, Tryz.ntmps34; go_wp2; go_ret; exact ⟨rfl, rfl⟩
theorem leaves_none (v : Option Addr) (w : World) (h : NoTree w v) : Calls Tryz.prog 9 #[.pointer v] w fun e w' => e = .returned (.int .i64 0) ∧ w = w' := by
  go_enter Tryz.func9, Tryz.ntmps9
  go_wp2_with (go_at_call 34; refine (none_none _ _ h).mono ?_; rintro e w' ⟨rfl, rfl⟩)
  go_ret; exact ⟨rfl, rfl⟩
theorem leaf_none (v : Option Addr) (i : Int) (w : World) (h : NoTree w v) :
    Calls Tryz.prog 19 #[.pointer v, .int .i64 i] w fun e w' => e = .returned (.tuple #[.agg #[.slice none 0 0, .slice none 0 0, .slice none 0 0, .int .i64 0, .slice none 0 0, .slice none 0 0], .bool false]) ∧ Below w.heap.size w w' := by
  have H := Lib.hid h
  clear h
  by_cases hi : 0 ≤ i
  · go_enter Tryz.func19, Tryz.ntmps19
    go_wp2_with (go_at_call 9; refine (leaves_none _ _ (H.out.below ((Below.refl _ _).alloc (Nat.le_refl _) _))).mono ?_; rintro e w' ⟨rfl, rfl⟩)
    exact bodyPost_ret (v := .tuple #[.agg #[.slice none 0 0, .slice none 0 0, .slice none 0 0, .int .i64 0, .slice none 0 0, .slice none 0 0], .bool false]) (by simp [results, Tryz.results19, go_sem]) rfl ⟨rfl, (Below.refl _ _).alloc (Nat.le_refl _) _⟩
  · have hi' : decide (0 ≤ i) = false := by simpa using hi
    go_enter Tryz.func19, Tryz.ntmps19
    go_wp2_with (fail)
    exact bodyPost_ret (v := .tuple #[.agg #[.slice none 0 0, .slice none 0 0, .slice none 0 0, .int .i64 0, .slice none 0 0, .slice none 0 0], .bool false]) (by simp [results, Tryz.results19, go_sem]) rfl ⟨rfl, (Below.refl _ _).alloc (Nat.le_refl _) _⟩
theorem is_none (v : Option Addr) (b : Nat) (i : Int) (w : World) (hb : w.cell? ⟨b, 0, none⟩ = some (.pointer v)) (h : NoTree w v) :
    Calls Tryz.prog 18 #[.int .i64 i, .pointer (some ⟨b, 0, none⟩)] w fun e w' => e = .returned (.bool false) ∧ Below w.heap.size w w' := by
  have H := Lib.hid h
  clear h
  go_enter Tryz.func18, Tryz.ntmps18
  go_wp2_with (go_at_call 19; refine (leaf_none _ _ _ H.out).mono ?_; rintro e w' ⟨rfl, hw'⟩)
  go_ret
  exact ⟨rfl, hw'.alloc hw'.size _⟩
theorem apply_none (v : Option Addr) (l : Value) (w : World) (h : NoTree w v) :
    Calls Tryz.prog 4 #[.pointer v, l] w fun e w' => e = .returned (.tuple #[.slice none 0 0, .int .i64 1]) ∧ w = w' := by
  go_enter Tryz.func4, Tryz.ntmps4
  go_wp2_with (go_at_call 9; refine (leaves_none _ _ h).mono ?_; rintro e w' ⟨rfl, rfl⟩)
  go_ret2
  exact ⟨rfl, rfl⟩
theorem checkList_none (v : Option Addr) (i : Int) (l : Value) (w : World) (h : NoTree w v) :
    Calls Tryz.prog 7 #[.pointer v, .int .i64 i, l] w fun e w' => e = .returned (.int .i64 1) ∧ Below w.heap.size w w' := by
  have H := Lib.hid h
  clear h
  go_enter Tryz.func7, Tryz.ntmps7
  go_wp2_with (go_at_call 18; refine (is_none v w.heap.size i _ (by simp [go_sem]) (H.out.below (by go_grown))).mono ?_; rintro e w' ⟨rfl, hw'⟩)
  go_ret
  refine ⟨rfl, ?_⟩
  have h1 : Below w.heap.size w (((w.alloc (Obj.cells #[Value.pointer v] 23)).alloc (Obj.cells #[Value.int IntKind.i64 i] 3)).alloc (Obj.cells #[Value.func (Fn.func 18) #[] #[Value.pointer (some ⟨w.heap.size, 0, none⟩)]] 65)) := by go_grown
  exact h1.trans (hw'.mono (by simp; omega))
end Go.Proofs
