/- What path's Apply and Open answer at no tree, and at one that nobody made. -/
import Derived.Test.YtknmfkdfiomicaaGreatDoorPath1
namespace Go.Proofs
open Go.RowKit
set_option maxRecDepth 8000 in
set_option maxHeartbeats 2000000 in
theorem apply_path_none (v : Option Addr) (i : Int) (cs : Array Value) (A : Option Addr) (n c : Nat) (w : World) (h : NoTree w v) :
    Calls Tryz.prog 11 #[.pointer v, .int .i64 i, .agg cs, .slice A n c] w fun e w' => e = .returned (.int .i64 1) ∧ Below w.heap.size w w' := by
  have H := Lib.hid h
  clear h
  by_cases hi : i < 0
  · go_enter Tryz.func11, Tryz.ntmps11
    go_wp2_with fail
    exact bodyPost_ret (v := .int .i64 1) (by simp [results, Tryz.results11, go_sem]) rfl ⟨rfl, by go_grown⟩
  · have hi' : decide (0 ≤ i) = true := by simp; omega
    have hi2 : decide (i < 0) = false := by simpa using hi
    go_enter Tryz.func11, Tryz.ntmps11
    go_wp2_with (go_at_call 13; refine (leaves_none _ _ (H.out.below (by go_grown))).mono ?_; rintro e w' ⟨rfl, rfl⟩)
    exact bodyPost_ret (v := .int .i64 1) (by simp [results, Tryz.results11, go_sem]) rfl ⟨rfl, by go_grown⟩
theorem isRow.new' {w : World} {b : Nat} {t : TypeId} {cs : Array Value} (hb : b = w.heap.size) : isRow (w.alloc (.cells cs t)) b t cs := hb ▸ isRow.new w t cs
theorem leaves_in : Callable Tryz.prog 13 := callable Tryz.func13 (by kernel_rfl) (by kernel_rfl)
section
variable {P : Program} {ops : Array Oper} {Q : Exit → Act → World → Prop} {row : Option Nat} {rest : List Seg} {a : Act} {w : World} {o : Oper} {i : Nat}
/-- an effect whose guard is off -/
theorem plan_unwanted (ho' : nth ops.toList i = some o) (hw : Region.wanted o (yielded ops a.tmps) = false) (h : planRun P ops Q row rest (a.put o.dst undef) w) : planRun P ops Q row (.eff i :: rest) a w := by
  have ho := nth_ops ho'
  unfold planRun wpOp
  simp only [ho, hw]
  exact ⟨grownBy.refl' _ _, h⟩
end
set_option maxRecDepth 8000 in
set_option maxHeartbeats 2000000 in
theorem open_none (v : Option Addr) (i k : Int) (cs : Array Value) (A B : Option Addr) (n c m d : Nat) (mp : Option Nat) (w : World) (h : NoTree w v) :
    Calls Tryz.prog 8 #[.pointer v, .int .i64 i, .int .i64 k, .agg cs, .slice A n c, .map mp, .slice B m d] w fun e w' => e = .returned (.tuple #[.int .i64 0, .slice none 0 0, .int .i64 1]) ∧ Below w.heap.size w w' := by
  have H := Lib.hid h
  clear h
  go_enter Tryz.func8, Tryz.ntmps8
  go_wp2_with (first
    | (go_at_call 16; refine (leaf_none _ _ _ (H.out.below (by go_grown))).mono ?_; rintro e w2 ⟨rfl, h2⟩
       generalize hW : World.alloc _ _ = W at h2
       have rA : isRow W w.heap.size 28 #[.pointer v] := (by subst hW; exact ((((((((isRow.new' rfl).alloc _).alloc _).alloc _).alloc _).alloc _).alloc _).alloc _).alloc _)
       have r14 : isRow W (w.heap.size + 1 + 1 + 1 + 1 + 1 + 1) 3 #[.int .i64 0] := (by subst hW; exact (((isRow.new' (by simp only [World.size_alloc])).alloc _).alloc _))
       have r15 : isRow W (w.heap.size + 1 + 1 + 1 + 1 + 1 + 1 + 1) 22 #[.slice none 0 0] := (by subst hW; exact ((isRow.new' (by simp only [World.size_alloc])).alloc _))
       have r16 : isRow W (w.heap.size + 1 + 1 + 1 + 1 + 1 + 1 + 1 + 1) 30 #[.int .i64 0] := (by subst hW; exact (isRow.new' (by simp only [World.size_alloc])))
       have bW : Below w.heap.size w W := (by subst hW; go_grown)
       have RA := Lib.hid (rA.below h2 rA.lt); have R14 := Lib.hid (r14.below h2 r14.lt); have R15 := Lib.hid (r15.below h2 r15.lt); have R16 := Lib.hid (r16.below h2 r16.lt); have BW := Lib.hid (bW.trans (h2.mono bW.size))
       have HN := Lib.hid (H.out.below BW.out)
       have L16 := Lib.hid (R16.out.lt)
       clear hW rA r14 r15 r16 bW h2)
    | (have hL := L16.out; refine wpList_new 33 #[.slice none 0 0, .slice none 0 0, .slice none 0 0, .int .i64 0, .slice none 0 0, .slice none 0 0] rfl rfl new_leaf ?_; intro W3 r3 g3 s3
       have L3 := Lib.hid r3; have RA := Lib.hid (RA.out.grown g3 (by simp)); have R14 := Lib.hid (R14.out.grown g3 (by simp)); have R15 := Lib.hid (R15.out.grown g3 (by simp)); have R16 := Lib.hid (R16.out.grown g3 (by simp))
       have HN := Lib.hid (HN.out.below (toB g3)); have BW := Lib.hid (BW.out.grown g3 BW.out.size (by simp)); clear r3 g3 s3 hL)
    | (refine wpList_store_row 33 (.tmp 17) (.tmp 29) w2.heap.size 0 [.slice none 0 0, .slice none 0 0, .slice none 0 0, .int .i64 0, .slice none 0 0, .slice none 0 0] rfl rfl rfl rfl L3.out (Nat.le_refl _) (by kernel_rfl) rfl ?_; intro W4 r4 g4 s4
       have hL := L16.out
       have RA := Lib.hid (RA.out.grown g4 (by simp <;> omega)); have R14 := Lib.hid (R14.out.grown g4 (by simp <;> omega)); have R15 := Lib.hid (R15.out.grown g4 (by simp <;> omega)); have R16 := Lib.hid (R16.out.grown g4 (by simp <;> omega))
       have BW := Lib.hid (BW.out.grown g4 BW.out.size (fun j hj => by cases hj; omega)); clear r4 g4 s4 hL))
  have g7 := later_cell (row := none) (w := W4.drew) (p := ⟨w.heap.size, 0, none⟩) (u := .pointer v) (by rw [RA.out.drew.cell]; rfl) (by simp)
  have HN4 := Lib.hid (H.out.below BW.out.drew)
  have HI := Lib.hid (Int.lt_or_le i 0)
  refine wp_region_plan [.quiet [0, 1, 2, 3, 4], .eff 5, .quiet [6, 7, 8, 9, 10, 11, 12, 13, 14, 15, 16, 17, 18], .eff 19, .quiet [20, 21, 22, 23, 24, 25, 26, 27], .eff 28, .quiet [29, 30, 31]] none Tryz.mixed (by kernel_rfl) ?_
  by_cases hi : i < 0
  · refine plan_quiet ?_
    iterate 5 (refine quiet_next rfl ?_; go_big_quiet_step (fail))
    refine quiet_end ?_
    refine plan_unwanted rfl rfl ?_
    simp only [Act.put, List.setIfInBounds_toArray, List.set_cons_succ, List.set_cons_zero]
    refine plan_quiet ?_
    iterate 13 (refine quiet_next rfl ?_; go_big_quiet_step (fail))
    refine quiet_end ?_
    refine plan_unwanted rfl rfl ?_
    simp only [Act.put, List.setIfInBounds_toArray, List.set_cons_succ, List.set_cons_zero]
    refine plan_quiet ?_
    iterate 8 (refine quiet_next rfl ?_; go_big_quiet_step (fail))
    refine quiet_end ?_
    refine plan_unwanted rfl rfl ?_
    simp only [Act.put, List.setIfInBounds_toArray, List.set_cons_succ, List.set_cons_zero]
    refine plan_quiet ?_
    iterate 3 (refine quiet_next rfl ?_; go_big_quiet_step (fail))
    refine quiet_end ?_
    refine plan_end ?_
    clear g7 HN4
    go_wp2_with (first
      | (refine wpList_store1 3 (.tmp 14) (.const (.int .i64 0)) (w.heap.size + 1 + 1 + 1 + 1 + 1 + 1) 0 (.int .i64 0) rfl rfl rfl rfl rfl rfl R14.out.drew (by decide) (by kernel_rfl) ?_; intro W5 r5 g5 s5
         have Q14 := Lib.hid (show isRow W5 (w.heap.size + 1 + 1 + 1 + 1 + 1 + 1) 3 #[.int .i64 0] from r5); have Q15 := Lib.hid (R15.out.drew.grown g5 (by simp)); have Q16 := Lib.hid (R16.out.drew.grown g5 (by simp <;> omega)); have B5 := Lib.hid (BW.out.drew.grown g5 BW.out.size (fun j hj => by cases hj; omega)); clear r5 g5 s5)
      | (refine wpList_store1 22 (.tmp 15) (.const (.slice none 0 0)) (w.heap.size + 1 + 1 + 1 + 1 + 1 + 1 + 1) 0 (.slice none 0 0) rfl rfl rfl rfl rfl rfl Q15.out (by decide) (by kernel_rfl) ?_; intro W6 r6 g6 s6
         have P14 := Lib.hid (Q14.out.grown g6 (by simp)); have P15 := Lib.hid (show isRow W6 (w.heap.size + 1 + 1 + 1 + 1 + 1 + 1 + 1) 22 #[.slice none 0 0] from r6); have P16 := Lib.hid (Q16.out.grown g6 (by simp)); have B6 := Lib.hid (B5.out.grown g6 B5.out.size (fun j hj => by cases hj; omega)); clear r6 g6 s6)
      | (refine wpList_store1 30 (.tmp 16) (.const (.int .i64 1)) (w.heap.size + 1 + 1 + 1 + 1 + 1 + 1 + 1 + 1) 0 (.int .i64 1) rfl rfl rfl rfl rfl rfl P16.out (by decide) (by kernel_rfl) ?_; intro W7 r7 g7 s7
         have c14 : W7.cell? ⟨(w.heap.size + 1 + 1 + 1 + 1 + 1 + 1), 0, none⟩ = some (.int .i64 0) := (by rw [(P14.out.grown g7 (by simp <;> omega)).cell]; rfl)
         have c15 : W7.cell? ⟨(w.heap.size + 1 + 1 + 1 + 1 + 1 + 1 + 1), 0, none⟩ = some (.slice none 0 0) := (by rw [(P15.out.grown g7 (by simp)).cell]; rfl)
         have c16 : W7.cell? ⟨(w.heap.size + 1 + 1 + 1 + 1 + 1 + 1 + 1 + 1), 0, none⟩ = some (.int .i64 1) := (by rw [r7.cell]; rfl)
         have B7 := Lib.hid (B6.out.grown g7 B6.out.size (fun j hj => by cases hj; omega)); clear r7 g7 s7))
    exact bodyPost_ret (v := .tuple #[.int .i64 0, .slice none 0 0, .int .i64 1]) (by simp [results, Tryz.results8, go_sem, c14, c15, c16]) rfl ⟨rfl, B7.out⟩
  · have hi' : decide (0 ≤ i) = true := by simp; omega
    have hi2 : decide (i < 0) = false := by simpa using hi
    refine plan_quiet ?_
    iterate 5 (refine quiet_next rfl ?_; go_big_quiet_step (fail))
    refine quiet_end ?_
    refine plan_call rfl rfl rfl leaves_in (leaves_none _ _ HN4.out) rfl ?_
    rintro e w' ⟨rfl, rfl⟩
    refine ⟨_, rfl, grownBy.refl' _ _, ?_⟩
    simp only [Act.put, List.setIfInBounds_toArray, List.set_cons_succ, List.set_cons_zero]
    refine plan_quiet ?_
    iterate 13 (refine quiet_next rfl ?_; go_big_quiet_step (fail))
    refine quiet_end ?_
    refine plan_unwanted rfl rfl ?_
    simp only [Act.put, List.setIfInBounds_toArray, List.set_cons_succ, List.set_cons_zero]
    refine plan_quiet ?_
    iterate 8 (refine quiet_next rfl ?_; go_big_quiet_step (fail))
    refine quiet_end ?_
    refine plan_unwanted rfl rfl ?_
    simp only [Act.put, List.setIfInBounds_toArray, List.set_cons_succ, List.set_cons_zero]
    refine plan_quiet ?_
    iterate 3 (refine quiet_next rfl ?_; go_big_quiet_step (fail))
    refine quiet_end ?_
    refine plan_end ?_
    clear g7 HN4
    go_wp2_with (first
      | (refine wpList_store1 3 (.tmp 14) (.const (.int .i64 0)) (w.heap.size + 1 + 1 + 1 + 1 + 1 + 1) 0 (.int .i64 0) rfl rfl rfl rfl rfl rfl R14.out.drew (by decide) (by kernel_rfl) ?_; intro W5 r5 g5 s5
         have Q14 := Lib.hid (show isRow W5 (w.heap.size + 1 + 1 + 1 + 1 + 1 + 1) 3 #[.int .i64 0] from r5); have Q15 := Lib.hid (R15.out.drew.grown g5 (by simp)); have Q16 := Lib.hid (R16.out.drew.grown g5 (by simp <;> omega)); have B5 := Lib.hid (BW.out.drew.grown g5 BW.out.size (fun j hj => by cases hj; omega)); clear r5 g5 s5)
      | (refine wpList_store1 22 (.tmp 15) (.const (.slice none 0 0)) (w.heap.size + 1 + 1 + 1 + 1 + 1 + 1 + 1) 0 (.slice none 0 0) rfl rfl rfl rfl rfl rfl Q15.out (by decide) (by kernel_rfl) ?_; intro W6 r6 g6 s6
         have P14 := Lib.hid (Q14.out.grown g6 (by simp)); have P15 := Lib.hid (show isRow W6 (w.heap.size + 1 + 1 + 1 + 1 + 1 + 1 + 1) 22 #[.slice none 0 0] from r6); have P16 := Lib.hid (Q16.out.grown g6 (by simp)); have B6 := Lib.hid (B5.out.grown g6 B5.out.size (fun j hj => by cases hj; omega)); clear r6 g6 s6)
      | (refine wpList_store1 30 (.tmp 16) (.const (.int .i64 1)) (w.heap.size + 1 + 1 + 1 + 1 + 1 + 1 + 1 + 1) 0 (.int .i64 1) rfl rfl rfl rfl rfl rfl P16.out (by decide) (by kernel_rfl) ?_; intro W7 r7 g7 s7
         have c14 : W7.cell? ⟨(w.heap.size + 1 + 1 + 1 + 1 + 1 + 1), 0, none⟩ = some (.int .i64 0) := (by rw [(P14.out.grown g7 (by simp <;> omega)).cell]; rfl)
         have c15 : W7.cell? ⟨(w.heap.size + 1 + 1 + 1 + 1 + 1 + 1 + 1), 0, none⟩ = some (.slice none 0 0) := (by rw [(P15.out.grown g7 (by simp)).cell]; rfl)
         have c16 : W7.cell? ⟨(w.heap.size + 1 + 1 + 1 + 1 + 1 + 1 + 1 + 1), 0, none⟩ = some (.int .i64 1) := (by rw [r7.cell]; rfl)
         have B7 := Lib.hid (B6.out.grown g7 B6.out.size (fun j hj => by cases hj; omega)); clear r7 g7 s7))
    exact bodyPost_ret (v := .tuple #[.int .i64 0, .slice none 0 0, .int .i64 1]) (by simp [results, Tryz.results8, go_sem, c14, c15, c16]) rfl ⟨rfl, B7.out⟩
end Go.Proofs
