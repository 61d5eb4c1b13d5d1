/- What must come of the layer: a first secret alone; a path of no bytes is refused. -/
import Derived.Test.YtknmfkdfiomicaaGreatDoorSecrets
import Derived.Test.YtknmfkdfiomicaaGreatDoorGetPath0
import Derived.Test.YtknmfkdfiomicaaGreatDoorFlow
namespace Go.Proofs
open Go.RowKit
theorem num19 (w : World) (n : Int) : Calls Tryz.prog 10 #[.int .i64 n] w fun e w' => e = .returned (.int .i64 n) ∧ w = w' := by
  go_enter Tryz.func10, Tryz.ntmps10; go_wp2; go_ret; exact ⟨rfl, rfl⟩
theorem num19_in : Callable Tryz.prog 10 := callable Tryz.func10 (by kernel_rfl) (by kernel_rfl)
theorem make32 : ∀ w : World, (Instr.makeSlice 22 (.int .i64 32) (.int .i64 32)).run Tryz.prog w = .ok (.slice (some ⟨w.heap.size, 0, none⟩) 32 32) (w.alloc (.cells (Array.replicate 32 (.int .u8 0)) 5)) := fun _ => by kernel_rfl
theorem zero32 : Array.replicate 32 (Value.int .u8 0) = ((List.replicate 32 (0 : UInt8)).map bv).toArray := by rfl
theorem bytes32 {w : World} {b : Nat} (h : isRow w b 5 (Array.replicate 32 (.int .u8 0))) : Bytes w (.slice (some ⟨b, 0, none⟩) 32 32) (List.replicate 32 (0 : UInt8)) :=
  row_of_isRow (n := 32) (size := 1) (xs := (List.replicate 32 (0 : UInt8)).map bv) (zero32 ▸ h) rfl (by unfold maxLen; omega)
theorem bytes_to_string {w : World} {A : Option Addr} {n c : Nat} {l : List UInt8} (h : Bytes w (.slice A n c) l) (h0 : 0 < l.length) : (convert 22 9 (.slice A n c)).run Tryz.prog w = .ok (.string ⟨l.toArray⟩) w := by
  obtain ⟨hl, hm, A', c', he, hc, hA⟩ := h
  cases he
  obtain ⟨a, rfl, hlt, hcell⟩ := hA h0
  exact run_convert_bytes_back w _ _ _ a c l Tryz.underlying22 Tryz.underlying5 Tryz.underlying9 (fun j hj => hcell j _ (by simp [bv, hj]))
theorem Bytes.below3 {w0 w w' : World} {v : Value} {l : List UInt8} (h0 : Bytes w0 v l) (hg : w0.grownBy w none) (hg' : w.grownBy w' (some w0.heap.size)) : Bytes w' v l :=
  h0.below ((toB hg).grown hg' hg.size (fun j hj => by cases hj; exact Nat.le_refl _))
/-- a make of bytes: in a list of ops -/
theorem wpList_make {P : Program} {ops : Array Oper} {rest : List Oper} {o : Oper} {a : Act} {w : World} {Q : Exit → Act → World → Prop} {t e : TypeId} {l c : Operand} {n m : Nat} {cs : Array Value} (hg : o.guard = none) (hop : o.op = .makeSlice t l c)
    (hx : a.eval l = .int .i64 n) (hy : a.eval c = .int .i64 m)
    (hrun : ∀ w : World, (Instr.makeSlice t (.int .i64 n) (.int .i64 m)).run P w = .ok (.slice (some ⟨w.heap.size, 0, none⟩) n m) (w.alloc (.cells cs e)))
    (h : ∀ W : World, isRow W w.heap.size e cs → w.grownBy W none → W.heap.size = w.heap.size + 1 → wpList P ops Q rest (a.put o.dst (.slice (some ⟨w.heap.size, 0, none⟩) n m)) W) : wpList P ops Q (o :: rest) a w := by
  refine wpList_plain hg fun K' hK' => ?_
  unfold Oper.wp execOp
  simp only [hop, hx, hy, Sem.run_bind, hrun, Result.andThen_ok]
  exact hK' _ _ (h _ (isRow.new w e cs) (World.grownBy_alloc _ _ _) (World.size_alloc _ _))
theorem wpList_make_at {P : Program} {ops : Array Oper} {rest : List Oper} {o : Oper} {a : Act} {w : World} {Q : Exit → Act → World → Prop} {t e : TypeId} {l c : Operand} {n m : Nat} {cs : Array Value} (hw : Region.wanted o (yielded ops a.tmps) = true) (hop : o.op = .makeSlice t l c)
    (hx : a.eval l = .int .i64 n) (hy : a.eval c = .int .i64 m)
    (hrun : ∀ w : World, (Instr.makeSlice t (.int .i64 n) (.int .i64 m)).run P w = .ok (.slice (some ⟨w.heap.size, 0, none⟩) n m) (w.alloc (.cells cs e)))
    (h : ∀ W : World, isRow W w.heap.size e cs → w.grownBy W none → W.heap.size = w.heap.size + 1 → wpList P ops Q rest (a.put o.dst (.slice (some ⟨w.heap.size, 0, none⟩) n m)) W) : wpList P ops Q (o :: rest) a w := by
  unfold wpList
  rw [if_pos hw]
  refine .inl ?_
  unfold Oper.wp execOp
  simp only [hop, hx, hy, Sem.run_bind, hrun, Result.andThen_ok]
  exact h _ (isRow.new w e cs) (World.grownBy_alloc _ _ _) (World.size_alloc _ _)
theorem new_path19 : ∀ w : World, (Instr.alloc 36 true (.tuple #[])).run Tryz.prog w = .ok (.pointer (some ⟨w.heap.size, 0, none⟩)) (w.alloc (.cells #[.slice none 0 0, .slice none 0 0, .slice none 0 0, .int .i64 0, .slice none 0 0, .slice none 0 0, .slice none 0 0] 36)) := fun _ => by kernel_rfl
def z32s : Value := .string ⟨(List.replicate 32 (0 : UInt8)).toArray⟩
theorem eq_z32 : ∀ w : World, (binOp .eql 9 z32s z32s).run Tryz.prog w = .ok (.bool true) w := fun _ => by kernel_rfl
theorem guard_z32 : ∀ w : World, (eqGuard .eql 9 (.tmp 26) (.tmp 28) z32s z32s).run Tryz.prog w = .ok () w := fun _ => by kernel_rfl
set_option maxHeartbeats 400000 in
set_option maxRecDepth 8000 in
theorem knows19 (w : World) : Calls Tryz.prog 12 #[] w fun e w' => e = .returned (.bool true) ∧ Below w.heap.size w w' := by
  go_enter Tryz.func12, Tryz.ntmps12
  go_wp2_with (first
    | (refine wpList_make (n := 32) (m := 32) rfl rfl rfl rfl make32 ?_; intro W1 r1 g1 s1
       have Y1 := Lib.hid (bytes32 r1); have B1 := Lib.hid (toB g1); clear r1 g1 s1)
    | (go_at_call 17; refine (secrets0 _ _ _ _ Y1.out rfl).mono ?_; rintro e w2 ⟨_, rfl, ⟨g, A, n, rfl, hr, hY⟩, hb⟩
       have R2 := Lib.hid hr; have Y2 := Lib.hid hY; have B2 := Lib.hid (B1.out.trans (hb.mono B1.out.size)); clear hr hY hb)
    | (go_at_call 43; refine (getPath_nil _).mono ?_; rintro e w3 ⟨rfl, hb⟩
       have R3 := Lib.hid (R2.out.below hb R2.out.lt); have Y3 := Lib.hid (Y2.out.below hb); have B3 := Lib.hid (B2.out.trans (hb.mono B2.out.size)); clear hb)
    | (refine wpList_new 36 #[.slice none 0 0, .slice none 0 0, .slice none 0 0, .int .i64 0, .slice none 0 0, .slice none 0 0, .slice none 0 0] rfl rfl new_path19 ?_; intro W4 r4 g4 s4
       have P4 := Lib.hid r4; have R4 := Lib.hid (R3.out.grown g4 (by simp)); have Y4 := Lib.hid (Y3.out.below (toB g4)); have B4 := Lib.hid (B3.out.grown g4 B3.out.size (by simp)); have N4 := Lib.hid R3.out.lt; have G4 := Lib.hid g4; clear r4 g4 s4)
    | (refine wpList_store_row 36 (.tmp 3) (.tmp 12) w3.heap.size 0 [.slice none 0 0, .slice none 0 0, .slice none 0 0, .int .i64 0, .slice none 0 0, .slice none 0 0, .slice none 0 0] rfl rfl rfl rfl P4.out (Nat.le_refl _) (by kernel_rfl) rfl ?_; intro W5 r5 g5 s5
       have R5 := Lib.hid (R4.out.grown g5 (by have := N4.out; simp <;> omega)); have Y5 := Lib.hid (Y3.out.below3 G4.out g5); have B5 := Lib.hid (B4.out.grown g5 B4.out.size (fun j hj => by cases hj; exact B3.out.size)); clear r5 g5 s5))
  refine wp_region_plan [.quiet [0], .eff 1, .quiet [2, 3, 4, 5, 6, 7, 8, 9, 10, 11, 12], .eff 13, .quiet [14, 15, 16, 17, 18], .eff 19, .quiet [20, 21, 22]] none Tryz.mixed (by kernel_rfl) ?_
  have R6 := Lib.hid (show isRow W5.drew g 22 #[.slice A 32 n] from R5.out)
  have Y6 := Lib.hid (show Bytes W5.drew (.slice A 32 n) (List.replicate 32 (0 : UInt8)) from Y5.out)
  have e6 : ∀ x, (later none W5.drew x).cell? ⟨g, 0, none⟩ = some (.slice A 32 n) := later_cell (p := ⟨g, 0, none⟩) (by rw [R6.out.cell]; rfl) (by simp)
  have c6 : ∀ x, (convert 22 9 (.slice A 32 n)).run Tryz.prog (later none W5.drew x) = .ok z32s (later none W5.drew x) := fun x => bytes_to_string (Y6.out.below (toB (later_grown none W5.drew x))) (by decide)
  have B6 := Lib.hid (show Below w.heap.size w W5.drew from B5.out.drew)
  clear P4 R4 Y4 B4 N4 G4 R5 Y5 B5 R3 Y3 B3 R2 Y2 B2 Y1 B1
  refine plan_quiet ?_
  refine quiet_next rfl ?_
  go_big_quiet_step (fail)
  refine quiet_end ?_
  try simp only [Act.put, List.setIfInBounds_toArray, List.set_cons_succ, List.set_cons_zero]
  refine plan_call rfl rfl rfl num19_in (num19 _ 0) rfl ?_
  rintro e w' ⟨rfl, rfl⟩
  refine ⟨_, rfl, grownBy.refl' _ _, ?_⟩
  try simp only [Act.put, List.setIfInBounds_toArray, List.set_cons_succ, List.set_cons_zero]
  refine plan_quiet ?_
  iterate 11 (refine quiet_next rfl ?_; go_big_quiet_step (fail))
  refine quiet_end ?_
  refine plan_effL rfl ?_
  go_wp2_with (refine wpList_make_at (n := 32) (m := 32) rfl rfl rfl rfl make32 ?_; intro W7 r7 g7 s7)
  refine ⟨g7, ?_⟩
  have Y7 := Lib.hid (bytes32 r7)
  have c7 : ∀ x, (convert 22 9 (.slice (some ⟨W5.heap.size, 0, none⟩) 32 32)).run Tryz.prog (later none W7 x) = .ok z32s (later none W7 x) := fun x => bytes_to_string (Y7.out.below (toB (later_grown none W7 x))) (by decide)
  have e7 := eq_z32
  have e8 := guard_z32
  have B7 := Lib.hid (B6.out.trans ((toB g7).mono B6.out.size))
  clear e6 c6 g7 r7 s7
  try simp only [Act.put, List.setIfInBounds_toArray, List.set_cons_succ, List.set_cons_zero]
  refine plan_quiet ?_
  iterate 5 (refine quiet_next rfl ?_; go_big_quiet_step (fail))
  refine quiet_end ?_
  refine plan_call rfl rfl rfl num19_in (num19 _ 21) rfl ?_
  rintro e w' ⟨rfl, rfl⟩
  refine ⟨_, rfl, grownBy.refl' _ _, ?_⟩
  try simp only [Act.put, List.setIfInBounds_toArray, List.set_cons_succ, List.set_cons_zero]
  refine plan_quiet ?_
  iterate 3 (refine quiet_next rfl ?_; go_big_quiet_step (fail))
  refine quiet_end ?_
  refine plan_end ?_
  go_wp2
  go_ret
  exact ⟨rfl, B7.out⟩
end Go.Proofs
