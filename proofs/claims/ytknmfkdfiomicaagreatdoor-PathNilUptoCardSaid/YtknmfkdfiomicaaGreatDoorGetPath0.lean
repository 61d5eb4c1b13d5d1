/- A path read of no bytes. -/
import Derived.Test.YtknmfkdfiomicaaGreatDoorGetLeaf0
import Derived.Test.YtknmfkdfiomicaaGreatDoorPutPath0
import Derived.Test.YtknmfkdfiomicaaGreatDoorRead0
import Derived.Test.YtknmfkdfiomicaaGreatDoorMarks
namespace Go.Proofs
open Go.RowKit
theorem read1_in : Callable Tryz.prog 134 := callable Tryz.func134 (by kernel_rfl) (by kernel_rfl)
theorem new_path' : ∀ w : World, (Instr.alloc 36 true (.tuple #[])).run Tryz.prog w = .ok (.pointer (some ⟨w.heap.size, 0, none⟩)) (w.alloc (.cells #[.slice none 0 0, .slice none 0 0, .slice none 0 0, .int .i64 0, .slice none 0 0, .slice none 0 0, .slice none 0 0] 36)) := fun _ => by kernel_rfl
set_option maxRecDepth 8000 in
set_option maxHeartbeats 800000 in
theorem getPath_nil (w : World) : Calls Tryz.prog 43 #[.slice none 0 0] w fun en w' => en = .returned (.tuple #[.agg #[.slice none 0 0, .slice none 0 0, .slice none 0 0, .int .i64 0, .slice none 0 0, .slice none 0 0, .slice none 0 0], .int .i64 21]) ∧ Below w.heap.size w w' := by
  refine calls_of_wp_marks Tryz.func43 rfl ?_
  simp only [Tryz.ntmps43, List.size_toArray, List.length_cons, List.length_nil, Nat.reduceAdd, Nat.reduceSub, Array.replicate_succ, Array.replicate_zero, List.push_toArray, List.append_toArray, List.nil_append, List.cons_append]
  go_wp2_with (first
    | (have hA4 := A4.out; refine wpList_new 33 #[.slice none 0 0, .slice none 0 0, .slice none 0 0, .int .i64 0, .slice none 0 0, .slice none 0 0] rfl rfl new_leaf' ?_; intro W5 r5 g5 s5
       have L5 := Lib.hid r5; have A5 := Lib.hid (isRow.grown hA4 g5 (by simp)); have R5 := Lib.hid (isRow.grown R4.out g5 (by simp)); have B5 := Lib.hid (B4.out.grown g5 B4.out.size (by simp)); have N5 := Lib.hid A4.out.lt; have M5 := Lib.hid R4.out.lt; clear r5 g5 s5 hA4)
    | (refine wpList_store_row 33 (.tmp 5) (.tmp 21) w4.heap.size 0 [.slice none 0 0, .slice none 0 0, .slice none 0 0, .int .i64 0, .slice none 0 0, .slice none 0 0] rfl rfl rfl rfl L5.out (Nat.le_refl _) leaf_size rfl ?_; intro W6 r6 g6 s6
       have L6 := Lib.hid (show isRow W6 w4.heap.size 33 #[.slice none 0 0, .slice none 0 0, .slice none 0 0, .int .i64 0, .slice none 0 0, .slice none 0 0] from r6); have A6 := Lib.hid (isRow.grown A5.out g6 (by have := N5.out; simp <;> omega)); have R6 := Lib.hid (isRow.grown R5.out g6 (by have := M5.out; simp <;> omega)); have B6 := Lib.hid (B5.out.grown g6 B5.out.size (fun j hj => by cases hj; exact Nat.le_of_lt N5.out)); clear r6 g6 s6)
    | (refine wpList_load_row 33 (.tmp 5) rfl rfl rfl L6.out Tryz.underlying33 rfl leaf_size ?_)
    | (have hA6 := A6.out; refine wpList_new 36 #[.slice none 0 0, .slice none 0 0, .slice none 0 0, .int .i64 0, .slice none 0 0, .slice none 0 0, .slice none 0 0] rfl rfl new_path' ?_; intro W7 r7 g7 s7
       have P7 := Lib.hid r7; have A7 := Lib.hid (isRow.grown hA6 g7 (by simp)); have R7 := Lib.hid (isRow.grown R6.out g7 (by simp)); have B7 := Lib.hid (B6.out.grown g7 B6.out.size (by simp)); have N7 := Lib.hid A6.out.lt; have M7 := Lib.hid R6.out.lt; clear r7 g7 s7 hA6)
    | (refine wpList_store_row 36 (.tmp 7) (.tmp 24) W6.heap.size 0 [.slice none 0 0, .slice none 0 0, .slice none 0 0, .int .i64 0, .slice none 0 0, .slice none 0 0, .slice none 0 0] rfl rfl rfl rfl P7.out (Nat.le_refl _) (by kernel_rfl) rfl ?_; intro W8 r8 g8 s8
       have P8 := Lib.hid (show isRow W8 W6.heap.size 36 #[.slice none 0 0, .slice none 0 0, .slice none 0 0, .int .i64 0, .slice none 0 0, .slice none 0 0, .slice none 0 0] from r8); have A8 := Lib.hid (isRow.grown A7.out g8 (by have := N7.out; simp <;> omega)); have R8 := Lib.hid (isRow.grown R7.out g8 (by have := M7.out; simp <;> omega)); have B8 := Lib.hid (B7.out.grown g8 B7.out.size (fun j hj => by cases hj; exact Nat.le_of_lt N7.out)); clear r8 g8 s8)
    | (go_at_call 86; have hR := R8.out; refine (vector_err _ _ _ _ hR (by decide)).mono ?_; rintro e w' ⟨rfl, rfl⟩; clear hR)
    | (have hR8 := R8.out; go_at_call 85; refine (new_nil _).mono ?_; rintro e w9 ⟨_, rfl, ⟨b9, rfl, hlt, hR⟩, hb⟩; clear hR8
       have R9 := Lib.hid hR; have A9 := Lib.hid (A8.out.below hb A8.out.lt); have P9 := Lib.hid (P8.out.below hb P8.out.lt); have B9 := Lib.hid (B8.out.trans (hb.mono B8.out.size)); clear hR hb hlt)
    | (refine wpList_new 36 #[.slice none 0 0, .slice none 0 0, .slice none 0 0, .int .i64 0, .slice none 0 0, .slice none 0 0, .slice none 0 0] rfl rfl new_path' ?_; intro W1 r1 g1 s1
       have A1 := Lib.hid r1; have B1 := Lib.hid (toB g1); clear r1 g1 s1)
    | (go_at_call 85; refine (new_nil _).mono ?_; rintro e w2 ⟨_, rfl, ⟨b, rfl, hlt, hR⟩, hb⟩
       have R2 := Lib.hid hR; have A2 := Lib.hid (A1.out.below hb A1.out.lt); have B2 := Lib.hid (B1.out.trans (hb.mono B1.out.size)); have N2 := Lib.hid (show w.heap.size < b from Nat.lt_of_lt_of_le A1.out.lt hlt); clear hR hb hlt)
    | (go_at_call 86; have hR := R2.out; refine (vector_nil _ _ hR).mono ?_; rintro e w3 ⟨rfl, hR3, hg⟩; clear hR
       have R3 := Lib.hid hR3; have A3 := Lib.hid (A2.out.grown hg (by have := N2.out; simp <;> omega)); have B3 := Lib.hid (B2.out.grown hg B2.out.size (fun j hj => by cases hj; exact Nat.le_of_lt N2.out)); clear hR3 hg)
    | (go_at_call 72; refine (getLeaf_nil _).mono ?_; rintro e w4 ⟨rfl, h4⟩
       have R4 := Lib.hid (isRow.below R3.out h4 R3.out.lt); have A4 := Lib.hid (A3.out.below h4 A3.out.lt); have B4 := Lib.hid (B3.out.trans (h4.mono B3.out.size)); clear h4))
  go_wp2_with (go_at_call 87; refine (read_any _ _).mono ?_; rintro e w10 ⟨g, rfl, rfl, rfl⟩)
  generalize hW : World.alloc w9 _ = W10
  have c10 : W10.cell? ⟨w9.heap.size, 0, none⟩ = some (.pointer (some ⟨b9, 0, none⟩)) := by subst hW; simp [go_sem]
  have R10 := Lib.hid (show Reader W10 b9 (.slice none 0 0) 0 from hW ▸ isRow.alloc R9.out _); have A10 := Lib.hid (hW ▸ A9.out.alloc _); have P10 := Lib.hid (hW ▸ P9.out.alloc _)
  refine wp_rangeFunc_none (f := 134) rfl read1_in (fun y W hb => read1_nil W y w9.heap.size b9 0 ((hb.cell (World.block_lt_of_cell? W10 _ c10)).trans c10) (isRow.below R10.out hb R10.out.lt)) ?_
  intro W11 hb11 hd11
  have A11 := Lib.hid (A10.out.below hb11 A10.out.lt); have P11 := Lib.hid (P10.out.below hb11 P10.out.lt); have B11 := Lib.hid (Below.trans (hW ▸ B9.out.alloc B9.out.size _) (hb11.mono (Nat.le_trans B9.out.size (by subst hW; simp))))
  have D11 := Lib.hid hd11
  clear hb11 hd11 c10
  go_wp2_with (first
    | (refine wpList_load_row 36 (.tmp 7) rfl rfl rfl P11.out Tryz.underlying36 rfl (by kernel_rfl) ?_)
    | (go_at_call 88; refine (putPath_zero _).mono ?_; rintro e w12 ⟨rfl, h12⟩
       have A12 := Lib.hid (A11.out.below h12 A11.out.lt); have B12 := Lib.hid (B11.out.trans (h12.mono B11.out.size)); have D12 := Lib.hid ((h12.block _ (by have := D11.out; exact (Array.getElem?_eq_some_iff.1 this).1)).trans D11.out); clear h12)
    | (refine wpList_store_row 36 (.tmp 2) (.tmp 65) w.heap.size 0 [.slice none 0 0, .slice none 0 0, .slice none 0 0, .int .i64 0, .slice none 0 0, .slice none 0 0, .slice none 0 0] rfl rfl rfl rfl A12.out (Nat.le_refl _) (by kernel_rfl) rfl ?_; intro W13 r13 g13 s13))
  have hsz : w.heap.size < W10.heap.size := by
    have h1 := A10.out.lt
    exact h1
  have r13' : isRow W13 w.heap.size 36 #[.slice none 0 0, .slice none 0 0, .slice none 0 0, .int .i64 0, .slice none 0 0, .slice none 0 0, .slice none 0 0] := r13
  have hB13 : Below w.heap.size w W13 := B12.out.grown g13 B12.out.size (fun j hj => by cases hj; exact Nat.le_refl _)
  refine leaves_mark ((g13.block _ (Array.getElem?_eq_some_iff.1 D12.out).1 (by simp; omega)).trans D12.out) (results_row2 Tryz.results43 rfl rfl (r13'.putObj (Nat.ne_of_lt hsz)) Tryz.underlying36 rfl (by kernel_rfl)) ⟨rfl, ?_⟩
  exact below_mark hB13 hB13.size (Nat.le_of_lt hsz)
end Go.Proofs
