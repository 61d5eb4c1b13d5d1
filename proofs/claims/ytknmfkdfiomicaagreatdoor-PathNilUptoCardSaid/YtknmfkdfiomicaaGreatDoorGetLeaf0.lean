/- A leaf read of no bytes. -/
import Derived.Test.YtknmfkdfiomicaaGreatDoorReader0
import Derived.Test.YtknmfkdfiomicaaGreatDoorPutZero
namespace Go.Proofs
open Go.RowKit
theorem new_leaf' : ∀ w : World, (Instr.alloc 33 true (.tuple #[])).run Tryz.prog w = .ok (.pointer (some ⟨w.heap.size, 0, none⟩)) (w.alloc (.cells #[.slice none 0 0, .slice none 0 0, .slice none 0 0, .int .i64 0, .slice none 0 0, .slice none 0 0] 33)) := fun _ => by kernel_rfl
theorem leaf_size : (Tryz.prog.info? 33).map (·.size) = some 6 := by kernel_rfl
set_option maxRecDepth 8000 in
set_option maxHeartbeats 800000 in
theorem readLeaf_nil (w : World) (b : Nat) (h : Reader w b (.slice none 0 0) 0) : Calls Tryz.prog 115 #[.pointer (some ⟨b, 0, none⟩)] w
    fun en w' => en = .returned (.agg #[.slice none 0 0, .slice none 0 0, .slice none 0 0, .int .i64 0, .slice none 0 0, .slice none 0 0]) ∧ Reader w' b (.slice none 0 0) 20 ∧ w.grownBy w' (some b) := by
  have H := Lib.hid h; have HL := Lib.hid h.lt
  clear h
  go_enter Tryz.func115, Tryz.ntmps115
  go_wp2_with (first
    | (have hR2 := R2.out; refine wpList_new 33 #[.slice none 0 0, .slice none 0 0, .slice none 0 0, .int .i64 0, .slice none 0 0, .slice none 0 0] rfl rfl new_leaf' ?_; intro W3 r3 g3 s3
       have L3 := Lib.hid r3; have A3 := Lib.hid (A2.out.grown g3 (by simp)); have R3 := Lib.hid (isRow.grown hR2 g3 (by simp)); have G3 := Lib.hid (G2.out.andThen g3 (fun j hj => by cases hj)); have N3 := Lib.hid (show w.heap.size < w2.heap.size from A2.out.lt); clear r3 g3 s3 hR2)
    | (refine wpList_new 33 #[.slice none 0 0, .slice none 0 0, .slice none 0 0, .int .i64 0, .slice none 0 0, .slice none 0 0] rfl rfl new_leaf' ?_; intro W1 r1 g1 s1
       have A1 := Lib.hid r1; have R1 := Lib.hid (H.out.grown g1 (by simp)); have G1 := Lib.hid g1; clear r1 g1 s1)
    | (go_at_call 86; have hR4 := R4.out; refine (vector_err _ _ _ _ hR4 (by decide)).mono ?_; rintro e w' ⟨rfl, rfl⟩; clear hR4)
    | (go_at_call 86; have hR2 := R2.out; refine (vector_err _ _ _ _ hR2 (by decide)).mono ?_; rintro e w' ⟨rfl, rfl⟩; clear hR2)
    | (go_at_call 86; refine (vector_nil _ _ R1.out).mono ?_; rintro e w2 ⟨rfl, hR, hg⟩
       have R2 := Lib.hid hR; have A2 := Lib.hid (A1.out.grown hg (by have := HL.out; simp; omega)); have G2 := Lib.hid ((grownBy.trans' (G1.out.but (some b)) hg)); clear hR hg)
    | (go_at_call 161; refine (number_err _ _ _ _ _ R2.out (by decide)).mono ?_; rintro e w' ⟨rfl, rfl⟩)
    | (refine wpList_store_row 33 (.tmp 3) (.tmp 12) w2.heap.size 0 [.slice none 0 0, .slice none 0 0, .slice none 0 0, .int .i64 0, .slice none 0 0, .slice none 0 0] rfl rfl rfl rfl L3.out (Nat.le_refl _) leaf_size rfl ?_; intro W4 r4 g4 s4
       have L4 := Lib.hid (show isRow W4 w2.heap.size 33 #[.slice none 0 0, .slice none 0 0, .slice none 0 0, .int .i64 0, .slice none 0 0, .slice none 0 0] from r4); have A4 := Lib.hid (A3.out.grown g4 (by have := N3.out; simp <;> omega)); have B4 := Lib.hid (show b < w2.heap.size from R2.out.lt)
       have R4 := Lib.hid (isRow.grown R3.out g4 (by have := B4.out; simp <;> omega)); have G4 := Lib.hid (G3.out.andThen g4 (fun j hj => by cases hj; exact .inl (Nat.le_of_lt N3.out)))
       have c4 : W4.cell? ⟨w2.heap.size, 3, none⟩ = some (.int .i64 0) := (by rw [L4.out.cell]; rfl)
       clear r4 g4 s4)
    | (refine wpList_store1 22 (.tmp 21) (.tmp 20) w2.heap.size 5 (.slice none 0 0) rfl rfl rfl rfl rfl rfl L4.out (by decide) (by kernel_rfl) ?_; intro W5 r5 g5 s5
       have L5 := Lib.hid (show isRow W5 w2.heap.size 33 #[.slice none 0 0, .slice none 0 0, .slice none 0 0, .int .i64 0, .slice none 0 0, .slice none 0 0] from r5); have A5 := Lib.hid (A4.out.grown g5 (by have := N3.out; simp <;> omega)); have R5 := Lib.hid (isRow.grown R4.out g5 (by have := B4.out; simp <;> omega)); have G5 := Lib.hid (G4.out.andThen g5 (fun j hj => by cases hj; exact .inl (Nat.le_of_lt N3.out)))
       clear r5 g5 s5 c4)
    | (refine wpList_load_row 33 (.tmp 3) rfl rfl rfl L5.out Tryz.underlying33 rfl leaf_size ?_)
    | (refine wpList_store_row 33 (.tmp 2) (.tmp 22) w.heap.size 0 [.slice none 0 0, .slice none 0 0, .slice none 0 0, .int .i64 0, .slice none 0 0, .slice none 0 0] rfl rfl rfl rfl A5.out (Nat.le_refl _) leaf_size rfl ?_; intro W6 r6 g6 s6
       have A6 := Lib.hid (show isRow W6 w.heap.size 33 #[.slice none 0 0, .slice none 0 0, .slice none 0 0, .int .i64 0, .slice none 0 0, .slice none 0 0] from r6); have R6 := Lib.hid (isRow.grown R5.out g6 (by have := HL.out; simp <;> omega)); have G6 := Lib.hid (G5.out.andThen g6 (fun j hj => by cases hj; exact .inl (Nat.le_refl _)))
       clear r6 g6 s6))
  exact ret_row rfl rfl A6.out Tryz.underlying33 rfl leaf_size rfl ⟨rfl, R6.out, G6.out⟩
set_option maxRecDepth 8000 in
set_option maxHeartbeats 800000 in
theorem got_zero (w : World) (b : Nat) (s v : Value) (h : Reader w b s 20) : Calls Tryz.prog 114 #[.agg #[.slice none 0 0, .slice none 0 0, .slice none 0 0, .int .i64 0, .slice none 0 0, .slice none 0 0], .pointer (some ⟨b, 0, none⟩), .func (.func 67) #[] #[], v] w
    fun en w' => en = .returned (.tuple #[.agg #[.slice none 0 0, .slice none 0 0, .slice none 0 0, .int .i64 0, .slice none 0 0, .slice none 0 0], .int .i64 21]) ∧ Below w.heap.size w w' := by
  have H := Lib.hid h
  clear h
  go_enter Tryz.func114, Tryz.ntmps114
  go_wp2_with (first
    | (refine wpList_box 33 (.tmp 0) #[.slice none 0 0, .slice none 0 0, .slice none 0 0, .int .i64 0, .slice none 0 0, .slice none 0 0] rfl rfl rfl ?_; intro W1 r1 g1 s1
       have A1 := Lib.hid r1; have R1 := Lib.hid (isRow.grown H.out g1 (by simp)); have B1 := Lib.hid (toB g1); clear r1 g1 s1)
    | (have hA2 := A2.out; refine wpList_new 33 #[.slice none 0 0, .slice none 0 0, .slice none 0 0, .int .i64 0, .slice none 0 0, .slice none 0 0] rfl rfl new_leaf' ?_; intro W3 r3 g3 s3
       have Z3 := Lib.hid r3; have A3 := Lib.hid (isRow.grown hA2 g3 (by simp)); have Y3 := Lib.hid (isRow.grown Y2.out g3 (by simp)); have R3 := Lib.hid (isRow.grown R2.out g3 (by simp)); have B3 := Lib.hid (B2.out.grown g3 B2.out.size (by simp)); clear r3 g3 s3 hA2)
    | (have hA1 := A1.out; refine wpList_new 33 #[.slice none 0 0, .slice none 0 0, .slice none 0 0, .int .i64 0, .slice none 0 0, .slice none 0 0] rfl rfl new_leaf' ?_; intro W2 r2 g2 s2
       have Y2 := Lib.hid r2; have A2 := Lib.hid (isRow.grown hA1 g2 (by simp)); have R2 := Lib.hid (isRow.grown R1.out g2 (by simp)); have B2 := Lib.hid (B1.out.grown g2 B1.out.size (by simp)); have N2 := Lib.hid B1.out.size; clear r2 g2 s2 hA1)
    | (refine wpList_load_row 33 (.tmp 4) rfl rfl rfl A3.out Tryz.underlying33 rfl leaf_size ?_)
    | (go_at_call 67; refine (putLeaf_zero _).mono ?_; rintro e w4 ⟨rfl, h4⟩
       have Y4 := Lib.hid (Y3.out.below h4 Y3.out.lt); have Z4 := Lib.hid (Z3.out.below h4 Z3.out.lt); have R4 := Lib.hid (isRow.below R3.out h4 R3.out.lt); have B4 := Lib.hid (B3.out.trans (h4.mono B3.out.size)); clear h4)
    | (go_at_call 160; refine (end_err _ _ _ _ R4.out (by decide)).mono ?_; rintro e w' ⟨rfl, rfl⟩)
    | (refine wpList_load_row 33 (.tmp 10) rfl rfl rfl Z4.out Tryz.underlying33 rfl leaf_size ?_)
    | (refine wpList_store_row 33 (.tmp 8) (.tmp 32) W1.heap.size 0 [.slice none 0 0, .slice none 0 0, .slice none 0 0, .int .i64 0, .slice none 0 0, .slice none 0 0] rfl rfl rfl rfl Y4.out (Nat.le_refl _) leaf_size rfl ?_; intro W5 r5 g5 s5
       have Y5 := Lib.hid (show isRow W5 W1.heap.size 33 #[.slice none 0 0, .slice none 0 0, .slice none 0 0, .int .i64 0, .slice none 0 0, .slice none 0 0] from r5); have B5 := Lib.hid (B4.out.grown g5 B4.out.size (fun j hj => by cases hj; exact N2.out)); clear r5 g5 s5))
  exact ret_row2 Tryz.results114 rfl rfl Y5.out Tryz.underlying33 rfl leaf_size rfl ⟨rfl, B5.out⟩
set_option maxRecDepth 8000 in
set_option maxHeartbeats 800000 in
theorem getLeaf_nil (w : World) : Calls Tryz.prog 72 #[.slice none 0 0] w fun en w' => en = .returned (.tuple #[.agg #[.slice none 0 0, .slice none 0 0, .slice none 0 0, .int .i64 0, .slice none 0 0, .slice none 0 0], .int .i64 21]) ∧ Below w.heap.size w w' := by
  go_enter Tryz.func72, Tryz.ntmps72
  go_wp2_with (first
    | (refine wpList_new 33 #[.slice none 0 0, .slice none 0 0, .slice none 0 0, .int .i64 0, .slice none 0 0, .slice none 0 0] rfl rfl new_leaf' ?_; intro W1 r1 g1 s1
       have A1 := Lib.hid r1; have B1 := Lib.hid (toB g1); clear r1 g1 s1)
    | (go_at_call 85; refine (new_nil _).mono ?_; rintro e w2 ⟨_, rfl, ⟨b, rfl, hlt, hR⟩, hb⟩
       have R2 := Lib.hid hR; have A2 := Lib.hid (A1.out.below hb A1.out.lt); have B2 := Lib.hid (B1.out.trans (hb.mono B1.out.size)); have N2 := Lib.hid (show w.heap.size < b from Nat.lt_of_lt_of_le A1.out.lt hlt); clear hR hb hlt)
    | (go_at_call 115; refine (readLeaf_nil _ _ R2.out).mono ?_; rintro e w3 ⟨rfl, hR, hg⟩
       have R3 := Lib.hid hR; have A3 := Lib.hid (A2.out.grown hg (by have := N2.out; simp <;> omega)); have B3 := Lib.hid (B2.out.grown hg B2.out.size (fun j hj => by cases hj; exact Nat.le_of_lt N2.out)); clear hR hg)
    | (go_at_call 114; refine (got_zero _ _ _ _ R3.out).mono ?_; rintro e w4 ⟨rfl, h4⟩
       have A4 := Lib.hid (A3.out.below h4 A3.out.lt); have B4 := Lib.hid (B3.out.trans (h4.mono B3.out.size)); clear h4)
    | (refine wpList_store_row 33 (.tmp 2) (.tmp 12) w.heap.size 0 [.slice none 0 0, .slice none 0 0, .slice none 0 0, .int .i64 0, .slice none 0 0, .slice none 0 0] rfl rfl rfl rfl A4.out (Nat.le_refl _) leaf_size rfl ?_; intro W5 r5 g5 s5
       have A5 := Lib.hid (show isRow W5 w.heap.size 33 #[.slice none 0 0, .slice none 0 0, .slice none 0 0, .int .i64 0, .slice none 0 0, .slice none 0 0] from r5); have B5 := Lib.hid (B4.out.grown g5 B4.out.size (fun j hj => by cases hj; exact Nat.le_refl _)); clear r5 g5 s5))
  exact ret_row2 Tryz.results72 rfl rfl A5.out Tryz.underlying33 rfl leaf_size rfl ⟨rfl, B5.out⟩
end Go.Proofs
