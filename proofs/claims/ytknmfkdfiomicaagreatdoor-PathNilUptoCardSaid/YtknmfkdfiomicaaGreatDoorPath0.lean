/- What path's functions answer at no tree, and at one that nobody made. -/
import Derived.Test.YtknmfkdfiomicaaGreatDoorStep
import Derived.Test.YtknmfkdfiomicaaGreatDoorTree0
namespace Go.Proofs
open Go.RowKit
theorem may_none (v p : Option Addr) (i : Int) (w : World) (h : NoTree w v) : Calls Tryz.prog 53 #[.pointer v, .int .i64 i, .pointer p] w fun e w' => e = .returned (.bool false) ∧ w = w' := by
  have H := Lib.hid h
  clear h
  by_cases hi : i < 0
  · go_enter Tryz.func53, Tryz.ntmps53
    go_wp2
    go_ret; exact ⟨rfl, rfl⟩
  · have hi' : decide (0 ≤ i) = true := by simp; omega
    have hi2 : decide (i < 0) = false := by simpa using hi
    go_enter Tryz.func53, Tryz.ntmps53
    go_wp2_with (go_at_call 13; refine (leaves_none _ _ H.out).mono ?_; rintro e w' ⟨rfl, rfl⟩)
    go_ret; exact ⟨rfl, rfl⟩
theorem filtered_none (v : Option Addr) (i : Int) (w : World) (h : NoTree w v) : Calls Tryz.prog 18 #[.pointer v, .int .i64 i] w fun e w' => e = .returned (.slice none 0 0) ∧ Below w.heap.size w w' := by
  have H := Lib.hid h
  clear h
  go_enter Tryz.func18, Tryz.ntmps18
  go_wp2_with (go_at_call 53; refine (may_none _ none _ _ (H.out.below ((Below.refl _ _).alloc (Nat.le_refl _) _))).mono ?_; rintro e w' ⟨rfl, rfl⟩)
  go_ret; exact ⟨rfl, (Below.refl _ _).alloc (Nat.le_refl _) _⟩
theorem plan_none (v : Option Addr) (i : Int) (A : Option Addr) (n c : Nat) (w : World) (h : NoTree w v) : Calls Tryz.prog 4 #[.pointer v, .int .i64 i, .slice A n c] w fun e w' => e = .returned (.tuple #[.slice none 0 0, .int .i64 1]) ∧ Below w.heap.size w w' := by
  have H := Lib.hid h
  clear h
  by_cases hi : i < 0
  · go_enter Tryz.func4, Tryz.ntmps4
    go_wp2
    go_ret2
    exact ⟨rfl, by go_grown⟩
  · have hi' : decide (0 ≤ i) = true := by simp; omega
    have hi2 : decide (i < 0) = false := by simpa using hi
    go_enter Tryz.func4, Tryz.ntmps4
    go_wp2_with (go_at_call 13; refine (leaves_none _ _ (H.out.below (by go_grown))).mono ?_; rintro e w' ⟨rfl, rfl⟩)
    go_ret2
    exact ⟨rfl, by go_grown⟩
theorem new_path : ∀ w : World, (Instr.alloc 36 true (.tuple #[])).run Tryz.prog w = .ok (.pointer (some ⟨w.heap.size, 0, none⟩)) (w.alloc (.cells #[.slice none 0 0, .slice none 0 0, .slice none 0 0, .int .i64 0, .slice none 0 0, .slice none 0 0, .slice none 0 0] 36)) := fun _ => by kernel_rfl
theorem new_leaf : ∀ w : World, (Instr.alloc 33 true (.tuple #[])).run Tryz.prog w = .ok (.pointer (some ⟨w.heap.size, 0, none⟩)) (w.alloc (.cells #[.slice none 0 0, .slice none 0 0, .slice none 0 0, .int .i64 0, .slice none 0 0, .slice none 0 0] 33)) := fun _ => by kernel_rfl
theorem path_size : (Tryz.prog.info? 36).map (·.size) = some 7 := by kernel_rfl
set_option maxRecDepth 8000 in
set_option maxHeartbeats 400000 in
theorem begin_none (v : Option Addr) (i : Int) (A B C : Option Addr) (n c m d k f : Nat) (w : World) (h : NoTree w v) : Calls Tryz.prog 5 #[.pointer v, .int .i64 i, .slice A n c, .slice B m d, .slice C k f] w
    fun e w' => e = .returned (.tuple #[.agg #[.slice none 0 0, .slice none 0 0, .slice none 0 0, .int .i64 0, .slice none 0 0, .slice none 0 0, .slice none 0 0], .slice none 0 0, .int .i64 1]) ∧ Below w.heap.size w w' := by
  have H := Lib.hid h
  clear h
  go_enter Tryz.func5, Tryz.ntmps5
  go_wp2_with (first
    | (refine wpList_new 36 #[.slice none 0 0, .slice none 0 0, .slice none 0 0, .int .i64 0, .slice none 0 0, .slice none 0 0, .slice none 0 0] rfl rfl new_path ?_; intro W1 r1 g1 s1
       have R1 := Lib.hid r1; have B1 := Lib.hid (toB g1); clear r1 g1 s1)
    | (go_at_call 16; refine (leaf_none _ _ _ (H.out.below B1.out)).mono ?_; rintro e w2 ⟨rfl, h2⟩; have R2 := Lib.hid (R1.out.below h2 R1.out.lt); have B2 := Lib.hid (B1.out.trans (h2.mono B1.out.size)); clear h2)
    | (refine wpList_new 33 #[.slice none 0 0, .slice none 0 0, .slice none 0 0, .int .i64 0, .slice none 0 0, .slice none 0 0] rfl rfl new_leaf ?_; intro W3 r3 g3 s3
       have R3 := Lib.hid (R2.out.grown g3 (by simp)); have L3 := Lib.hid r3; have B3 := Lib.hid (B2.out.grown g3 B2.out.size (by simp)); have N3 := Lib.hid (show w.heap.size < w2.heap.size from R2.out.lt); have S3 := Lib.hid B2.out.size; clear r3 g3 s3)
    | (refine wpList_store_row 33 (.tmp 13) (.tmp 28) w2.heap.size 0 [.slice none 0 0, .slice none 0 0, .slice none 0 0, .int .i64 0, .slice none 0 0, .slice none 0 0] rfl rfl rfl rfl L3.out (Nat.le_refl _) (by kernel_rfl) rfl ?_; intro W4 r4 g4 s4
       have R4 := Lib.hid (R3.out.grown g4 (by have := N3.out; simp; omega)); have B4 := Lib.hid (B3.out.grown g4 B3.out.size (fun j hj => by cases hj; exact S3.out)); clear r4 g4 s4)
    | (refine wpList_store_row 36 (.tmp 10) (.tmp 47) w.heap.size 0 [.slice none 0 0, .slice none 0 0, .slice none 0 0, .int .i64 0, .slice none 0 0, .slice none 0 0, .slice none 0 0] rfl rfl rfl rfl R4.out (Nat.le_refl _) (by kernel_rfl) rfl ?_; intro W5 r5 g5 s5
       have R5 := Lib.hid (show isRow W5 w.heap.size 36 #[.slice none 0 0, .slice none 0 0, .slice none 0 0, .int .i64 0, .slice none 0 0, .slice none 0 0, .slice none 0 0] from r5); have B5 := Lib.hid (B4.out.grown g5 B4.out.size (fun j hj => by cases hj; exact Nat.le_refl _)); clear r5 g5 s5))
  exact bodyPost_ret (v := .tuple #[.agg #[.slice none 0 0, .slice none 0 0, .slice none 0 0, .int .i64 0, .slice none 0 0, .slice none 0 0, .slice none 0 0], .slice none 0 0, .int .i64 1]) (by simp [results, Tryz.results5, asAddr, run_loadVar_row _ _ _ _ _ (0, 0) _ R5.out Tryz.underlying36 rfl path_size]) rfl ⟨rfl, B5.out⟩
set_option maxRecDepth 8000 in
set_option maxHeartbeats 2000000 in
theorem seal_none (v : Option Addr) (i : Int) (A B C : Option Addr) (n c m d k f : Nat) (F : Option Addr) (q u : Nat) (cs : Array Value) (w : World) (h : NoTree w v) :
    Calls Tryz.prog 6 #[.pointer v, .int .i64 i, .agg cs, .slice A n c, .slice B m d, .slice C k f, .slice F q u] w
    fun e w' => e = .returned (.tuple #[.agg #[.slice none 0 0, .slice none 0 0, .slice none 0 0, .int .i64 0, .slice none 0 0, .slice none 0 0, .slice none 0 0], .int .i64 1]) ∧ Below w.heap.size w w' := by
  have H := Lib.hid h
  clear h
  go_enter Tryz.func6, Tryz.ntmps6
  go_wp2_with (first
    | (refine wpList_box 36 (.tmp 2) cs rfl rfl rfl ?_; intro W1 r1 g1 s1
       have B1 := Lib.hid (toB g1); clear r1 g1 s1)
    | (refine wpList_new 36 #[.slice none 0 0, .slice none 0 0, .slice none 0 0, .int .i64 0, .slice none 0 0, .slice none 0 0, .slice none 0 0] rfl rfl new_path ?_; intro W2 r2 g2 s2
       have R2 := Lib.hid r2; have N2 := Lib.hid B1.out.size; have B2 := Lib.hid (B1.out.grown g2 B1.out.size (by simp)); clear r2 g2 s2)
    | (go_at_call 4; refine (plan_none _ _ _ _ _ _ (H.out.below B2.out)).mono ?_; rintro e w3 ⟨rfl, h3⟩; have R3 := Lib.hid (R2.out.below h3 R2.out.lt); have B3 := Lib.hid (B2.out.trans (h3.mono B2.out.size)); clear h3)
    | (refine wpList_store_row 36 (.tmp 14) (.tmp 61) W1.heap.size 0 [.slice none 0 0, .slice none 0 0, .slice none 0 0, .int .i64 0, .slice none 0 0, .slice none 0 0, .slice none 0 0] rfl rfl rfl rfl R3.out (Nat.le_refl _) (by kernel_rfl) rfl ?_; intro W5 r5 g5 s5
       have R5 := Lib.hid (show isRow W5 W1.heap.size 36 #[.slice none 0 0, .slice none 0 0, .slice none 0 0, .int .i64 0, .slice none 0 0, .slice none 0 0, .slice none 0 0] from r5); have B5 := Lib.hid (B3.out.grown g5 B3.out.size (fun j hj => by cases hj; exact N2.out)); clear r5 g5 s5))
  exact ret_row2 Tryz.results6 rfl rfl R5.out Tryz.underlying36 rfl path_size rfl ⟨rfl, B5.out⟩
end Go.Proofs
