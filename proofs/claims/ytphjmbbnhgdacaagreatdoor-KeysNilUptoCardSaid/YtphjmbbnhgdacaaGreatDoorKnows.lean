/- What always holds of proposals (knows), and the pieces that it calls. -/
import Derived.Test.YtphjmbbnhgdacaaGreatDoorRight
import Derived.Test.YtphjmbbnhgdacaaGreatDoorCodec
namespace Go.Proofs
open Go.RowKit
theorem grownBy_set (w : World) (b i : Nat) (v : Value) : w.grownBy (w.setCell ⟨b, i, none⟩ v) (some b) :=
  ⟨by unfold World.setCell; split <;> rfl, by unfold World.setCell; split <;> rfl, by unfold World.setCell; split <;> rfl, by simp, fun j _ hj => Below.heap_setCell w _ v j (fun e => hj (by simp [e]))⟩
theorem Tryz.eqNil : ∀ w : World, (binOp .eql 39 (.slice none 0 0) (.slice none 0 0)).run Tryz.prog w = .ok (.bool true) w := fun _ => by kernel_rfl
theorem clone_nil (w : World) : Calls Tryz.prog 72 #[.slice none 0 0] w fun e w' => e = .returned (.slice none 0 0) ∧ w = w' := by
  have hm := Tryz.eqNil
  go_enter Tryz.func72, Tryz.ntmps72; go_wp2; go_ret; exact ⟨rfl, rfl⟩
/-- a reader: what is left of the bytes, and the first fault -/
abbrev Reader (w : World) (b : Nat) (s : Value) (e : Int) : Prop := isRow w b 150 #[s, .int .i64 e, .bool true]
theorem new_nil (w : World) : Calls Tryz.prog 59 #[.slice none 0 0] w (Some_ w fun v w' => ∃ b, v = .pointer (some ⟨b, 0, none⟩) ∧ w.heap.size ≤ b ∧ Reader w' b (.slice none 0 0) 0) := by
  go_enter Tryz.func59, Tryz.ntmps59
  go_wp2_with (go_at_call 72; refine (clone_nil _).mono ?_; rintro e w' ⟨rfl, rfl⟩)
  go_ret
  exact ⟨_, rfl, ⟨_, rfl, Nat.le_refl _, isRow.new _ _ _⟩, (Below.refl _ _).alloc (Nat.le_refl _) _⟩
theorem reader_err (w : World) (b : Nat) (s : Value) (e : Int) (h : Reader w b s e) : Calls Tryz.prog 89 #[.pointer (some ⟨b, 0, none⟩)] w fun en w' => en = .returned (.int .i64 e) ∧ w = w' := by
  have h1 : w.cell? ⟨b, 1, none⟩ = some (.int .i64 e) := by rw [h.cell]; rfl
  have h2 : w.cell? ⟨b, 2, none⟩ = some (.bool true) := by rw [h.cell]; rfl
  clear h
  go_enter Tryz.func89, Tryz.ntmps89; go_wp2; go_ret; exact ⟨rfl, rfl⟩
theorem vector_err (w : World) (b : Nat) (s : Value) (e : Int) (h : Reader w b s e) (he : e ≠ 0) : Calls Tryz.prog 62 #[.pointer (some ⟨b, 0, none⟩)] w fun en w' => en = .returned (.slice none 0 0) ∧ w = w' := by
  have H := Lib.hid h
  have he' : (e == 0) = false := by simpa using he
  clear h he
  go_enter Tryz.func62, Tryz.ntmps62
  go_wp2_with (go_at_call 89; refine (reader_err _ _ _ _ H.out).mono ?_; rintro e w' ⟨rfl, rfl⟩)
  go_ret; exact ⟨rfl, rfl⟩
theorem rnumber_nil (w : World) (b : Nat) (h : Reader w b (.slice none 0 0) 0) : Calls Tryz.prog 60 #[.pointer (some ⟨b, 0, none⟩), .int .i64 2] w fun en w' => en = .returned (.int .i64 0) ∧ Reader w' b (.slice none 0 0) 20 ∧ w.grownBy w' (some b) := by
  have h0 : w.cell? ⟨b, 0, none⟩ = some (.slice none 0 0) := by rw [h.cell]; rfl
  have h1 : w.cell? ⟨b, 1, none⟩ = some (.int .i64 0) := by rw [h.cell]; rfl
  have f1 : w.frozen? ⟨b, 1, none⟩ = false := h.free 1
  have H := Lib.hid h
  clear h
  go_enter Tryz.func60, Tryz.ntmps60
  go_wp2
  refine wp_scope_fwd 0 rfl ?_
  go_wp2_with (first
    | (go_at_call 89; refine (reader_err _ _ _ _ H.out).mono ?_; rintro e w' ⟨rfl, rfl⟩)
    | (go_at_call 86; refine (bits_some _ _ (.inr (.inl rfl))).mono ?_; rintro e w' ⟨rfl, rfl⟩))
  refine wp_goto ⟨rfl, ?_⟩
  go_wp2
  rw [Exit.noGoto_ret]
  go_ret
  exact ⟨rfl, H.out.set 1 _, grownBy_set _ _ _ _⟩
set_option maxHeartbeats 400000 in
theorem put_bare (w : World) : Calls Tryz.prog 31 #[.agg #[.int .i64 0, .slice none 0 0, .slice none 0 0, .slice none 0 0, .slice none 0 0, .int .i64 0, .slice none 0 0, .slice none 0 0, .slice none 0 0, .slice none 0 0, .slice none 0 0, .slice none 0 0, .int .i64 0, .slice none 0 0, .slice none 0 0, .int .i64 0, .slice none 0 0, .slice none 0 0, .slice none 0 0]] w fun e w' => e = .returned (.tuple #[.slice none 0 0, .int .i64 1]) ∧ Below w.heap.size w w' := by
  go_enter Tryz.func31, Tryz.ntmps31
  go_wp2_with (first | (refine wpList_load_row 45 (.tmp 1) rfl rfl rfl (isRow.new w _ _) Tryz.underlying45 rfl (by kernel_rfl) ?_) | (go_at_call 12; refine (right_bare _ _ _ (.inl ⟨rfl, rfl⟩)).mono ?_; rintro e w1 ⟨_, rfl, rfl, hb⟩))
  go_ret2
  exact ⟨rfl, ((Below.refl _ _).alloc (Nat.le_refl _) _).trans (hb.mono (by rw [World.size_alloc]; omega))⟩
theorem number5 (w : World) : Calls Tryz.prog 57 #[.int .i64 5, .int .i64 4] w (Some_ w fun v w' => ∃ A c, v = .tuple #[.slice A 4 c, .int .i64 0] ∧ Row w' 1 (.slice A 4 c) 4 [.int .u8 0, .int .u8 0, .int .u8 0, .int .u8 5]) := by
  exact number4 5 w (by decide) (by decide)
theorem one4 : ∀ u ∈ [Value.int .u8 0, .int .u8 0, .int .u8 0, .int .u8 5], u.oneCell' = true := by simp [Value.oneCell']
theorem le6 : 2 + 4 ≤ maxLen := Nat.le_of_ble_eq_true rfl
theorem le6' : (2 + 4) * 1 ≤ 140737488355328 := Nat.le_of_ble_eq_true rfl
theorem own_two (w : World) (x y : Value) (e : TypeId) (base : Nat) (hb : base ≤ w.heap.size) : (w.alloc (.cells #[x, y] e)).ownsRow base e 1 (.slice (some ⟨w.heap.size, 0, none⟩) 2 2) 2 [x, y] :=
  ⟨rfl, .inr ⟨w.heap.size, 2, #[x, y], rfl, hb, heap_alloc_new w _, Nat.le_refl _, Nat.le_of_ble_eq_true rfl, rfl, rfl⟩⟩
set_option maxHeartbeats 400000 in
set_option maxRecDepth 8000 in
theorem put_remove (w : World) : Calls Tryz.prog 31 #[.agg #[.int .i64 3, .slice none 0 0, .slice none 0 0, .slice none 0 0, .slice none 0 0, .int .i64 0, .slice none 0 0, .slice none 0 0, .slice none 0 0, .slice none 0 0, .slice none 0 0, .slice none 0 0, .int .i64 0, .slice none 0 0, .slice none 0 0, .int .i64 5, .slice none 0 0, .slice none 0 0, .slice none 0 0]] w (NewBytesOK w [0, 3, 0, 0, 0, 5]) := by
  obtain ⟨i0, hi0, hz0, hz1, hz2⟩ := info_parts Tryz.u8
  go_enter Tryz.func31, Tryz.ntmps31
  go_wp2_with (first
    | (refine wpList_load_row 45 (.tmp 1) rfl rfl rfl (isRow.new w _ _) Tryz.underlying45 rfl (by kernel_rfl) ?_)
    | (go_at_call 12; refine (right_bare _ _ _ (.inr ⟨rfl, rfl⟩)).mono ?_; rintro e w1 ⟨_, rfl, rfl, hb⟩
       have hr := (isRow.new w 45 #[.int .i64 3, .slice none 0 0, .slice none 0 0, .slice none 0 0, .slice none 0 0, .int .i64 0, .slice none 0 0, .slice none 0 0, .slice none 0 0, .slice none 0 0, .slice none 0 0, .slice none 0 0, .int .i64 0, .slice none 0 0, .slice none 0 0, .int .i64 5, .slice none 0 0, .slice none 0 0, .slice none 0 0]).below hb (by rw [World.size_alloc]; omega)
       have h0 : w1.cell? ⟨w.heap.size, 0, none⟩ = some (.int .i64 3) := (by rw [hr.cell]; rfl)
       have h15 : w1.cell? ⟨w.heap.size, 15, none⟩ = some (.int .i64 5) := (by rw [hr.cell]; rfl)
       have HB := Lib.hid (((Below.refl _ w).alloc (Nat.le_refl _) _).trans (hb.mono (by rw [World.size_alloc]; omega)))
       have hl : w.heap.size < w1.heap.size := hr.lt
       clear hb hr)
    | (go_at_call 57; refine (number5 _).mono ?_; rintro e w2 ⟨_, rfl, ⟨A1, c1, rfl, hb2⟩, hw2⟩
       have HOWN := Lib.hid (own_below (own_two w1 (.int .u8 0) (.int .u8 3) 5 w.heap.size (Nat.le_of_lt hl)) hw2)
       have HB2 := Lib.hid hb2
       have HW2 := Lib.hid (HB.out.trans (((Below.refl _ w1).alloc (Nat.le_refl _) _).trans (hw2.mono (by rw [World.size_alloc]; omega)) |>.mono (Nat.le_of_lt hl)))
       clear hb2 hw2 h0 h15 hl HB)
    | (at_builtin; refine wpList_append_row _ rfl (.tmp 33) (.tmp 34) _ rfl w.heap.size 5 i0 _ 1 1 Tryz.underlying39 hi0 hz0 hz1 hz2 rfl (Nat.le_refl 1) (.slice (some ⟨w1.heap.size, 0, none⟩) 2 2) 2 [.int .u8 0, .int .u8 3] rfl HOWN.out A1 4 c1 [.int .u8 0, .int .u8 0, .int .u8 0, .int .u8 5] rfl HB2.out one4 le6 le6' HW2.out.size ?_; intro v3 w3 hown3 hg3 hat3))
  obtain ⟨A3, c3, rfl, hb3⟩ := bytes_of_own (l := [0, 3, 0, 0, 0, 5]) hown3
  go_ret2
  exact ⟨_, rfl, ⟨_, _, rfl, hb3⟩, HW2.out.grown hg3 HW2.out.size (fun j hj => (HOWN.out.lt j hj).1)⟩
theorem new_prop : ∀ w : World, (Instr.alloc 45 true (.tuple #[])).run Tryz.prog w = .ok (.pointer (some ⟨w.heap.size, 0, none⟩)) (w.alloc (.cells #[.int .i64 0, .slice none 0 0, .slice none 0 0, .slice none 0 0, .slice none 0 0, .int .i64 0, .slice none 0 0, .slice none 0 0, .slice none 0 0, .slice none 0 0, .slice none 0 0, .slice none 0 0, .int .i64 0, .slice none 0 0, .slice none 0 0, .int .i64 0, .slice none 0 0, .slice none 0 0, .slice none 0 0] 45)) := fun _ => by kernel_rfl
set_option maxHeartbeats 400000 in
theorem get_nil (w : World) : Calls Tryz.prog 32 #[.slice none 0 0] w fun e w' => e = .returned (.tuple #[.agg #[.int .i64 0, .slice none 0 0, .slice none 0 0, .slice none 0 0, .slice none 0 0, .int .i64 0, .slice none 0 0, .slice none 0 0, .slice none 0 0, .slice none 0 0, .slice none 0 0, .slice none 0 0, .int .i64 0, .slice none 0 0, .slice none 0 0, .int .i64 0, .slice none 0 0, .slice none 0 0, .slice none 0 0], .int .i64 21]) ∧ Below w.heap.size w w' := by
  go_enter Tryz.func32, Tryz.ntmps32
  go_wp2_with (first
    | (have HR2' := HR2.out; refine wpList_new 45 #[.int .i64 0, .slice none 0 0, .slice none 0 0, .slice none 0 0, .slice none 0 0, .int .i64 0, .slice none 0 0, .slice none 0 0, .slice none 0 0, .slice none 0 0, .slice none 0 0, .slice none 0 0, .int .i64 0, .slice none 0 0, .slice none 0 0, .int .i64 0, .slice none 0 0, .slice none 0 0, .slice none 0 0] rfl rfl new_prop ?_; intro W5 r5 g5 s5
       have R5 := Lib.hid r5; have HR5 := Lib.hid (isRow.grown HR2' g5 (by simp)); have R2a := Lib.hid (isRow.grown R2'.out g5 (by simp)); have B5 := Lib.hid (B2.out.grown g5 B2.out.size (by simp)); have N5 := Lib.hid HR2'.lt; have L5 := Lib.hid (show w.heap.size < w2.heap.size from R2'.out.lt); clear r5 g5 s5 HR2')
    | (refine wpList_new 45 #[.int .i64 0, .slice none 0 0, .slice none 0 0, .slice none 0 0, .slice none 0 0, .int .i64 0, .slice none 0 0, .slice none 0 0, .slice none 0 0, .slice none 0 0, .slice none 0 0, .slice none 0 0, .int .i64 0, .slice none 0 0, .slice none 0 0, .int .i64 0, .slice none 0 0, .slice none 0 0, .slice none 0 0] rfl rfl new_prop ?_; intro W2 r2 g2 s2
       have R2 := Lib.hid r2; have G2 := Lib.hid g2; have S2 := Lib.hid s2; clear r2 g2 s2)
    | (go_at_call 59; refine (new_nil _).mono ?_; rintro e w1 ⟨_, rfl, ⟨b, rfl, hlt, hR⟩, hb⟩
       have HR := Lib.hid hR; have R2' := Lib.hid (R2.out.below hb R2.out.lt); have B1 := Lib.hid (((Below.refl _ w).grown G2.out (Nat.le_refl _) (by simp)).trans (hb.mono G2.out.size))
       have HL := Lib.hid (show w.heap.size < b from Nat.lt_of_lt_of_le R2.out.lt hlt); clear hR hb hlt)
    | (go_at_call 60; refine (rnumber_nil _ _ HR.out).mono ?_; rintro e w2 ⟨rfl, hR2, hg2⟩
       have HR2 := Lib.hid hR2; have B2 := Lib.hid (B1.out.grown hg2 B1.out.size (fun j hj => by cases hj; exact Nat.le_of_lt HL.out)); have R2' := Lib.hid (R2'.out.grown hg2 (by have := HL.out; simp; omega)); clear hR2 hg2)
    | (refine wpList_store_row 45 (.tmp 5) (.tmp 12) w2.heap.size 0 [.int .i64 0, .slice none 0 0, .slice none 0 0, .slice none 0 0, .slice none 0 0, .int .i64 0, .slice none 0 0, .slice none 0 0, .slice none 0 0, .slice none 0 0, .slice none 0 0, .slice none 0 0, .int .i64 0, .slice none 0 0, .slice none 0 0, .int .i64 0, .slice none 0 0, .slice none 0 0, .slice none 0 0] rfl rfl rfl rfl R5.out (Nat.le_refl _) (by kernel_rfl) rfl ?_; intro W6 r6 g6 s6
       have R6 := Lib.hid (show isRow W6 w2.heap.size 45 #[.int .i64 0, .slice none 0 0, .slice none 0 0, .slice none 0 0, .slice none 0 0, .int .i64 0, .slice none 0 0, .slice none 0 0, .slice none 0 0, .slice none 0 0, .slice none 0 0, .slice none 0 0, .int .i64 0, .slice none 0 0, .slice none 0 0, .int .i64 0, .slice none 0 0, .slice none 0 0, .slice none 0 0] from r6); have HR6 := Lib.hid (isRow.grown HR5.out g6 (by have := N5.out; simp; omega)); have R26 := Lib.hid (isRow.grown R2a.out g6 (by have := L5.out; simp; omega))
       have B6 := Lib.hid (B5.out.grown g6 B5.out.size (fun j hj => by cases hj; exact Nat.le_of_lt L5.out)); have c6 : W6.cell? ⟨w2.heap.size, 0, none⟩ = some (.int .i64 0) := (by rw [R6.out.cell]; rfl); clear r6 g6 s6)
    | (go_at_call 62; refine (vector_err _ _ _ _ HR6.out (by decide)).mono ?_; rintro e w' ⟨rfl, rfl⟩)
    | (refine wpList_store1 39 (.tmp 17) (.tmp 16) w2.heap.size 18 (.slice none 0 0) rfl rfl rfl rfl rfl rfl R6.out (by decide) (by kernel_rfl) ?_; intro W7 r7 g7 s7
       have R7 := Lib.hid (show isRow W7 w2.heap.size 45 #[.int .i64 0, .slice none 0 0, .slice none 0 0, .slice none 0 0, .slice none 0 0, .int .i64 0, .slice none 0 0, .slice none 0 0, .slice none 0 0, .slice none 0 0, .slice none 0 0, .slice none 0 0, .int .i64 0, .slice none 0 0, .slice none 0 0, .int .i64 0, .slice none 0 0, .slice none 0 0, .slice none 0 0] from r7); have R27 := Lib.hid (isRow.grown R26.out g7 (by have := L5.out; simp; omega))
       have B7 := Lib.hid (B6.out.grown g7 B6.out.size (fun j hj => by cases hj; exact Nat.le_of_lt L5.out)); clear r7 g7 s7 c6)
    | (refine wpList_load_row 45 (.tmp 5) rfl rfl rfl R7.out Tryz.underlying45 rfl (by kernel_rfl) ?_)
    | (go_at_call 31; refine (put_bare _).mono ?_; rintro e w8 ⟨rfl, hb8⟩; have R28 := Lib.hid (R27.out.below hb8 R27.out.lt); have B8 := Lib.hid (B7.out.trans (hb8.mono B7.out.size)); clear hb8)
    | (refine wpList_store_row 45 (.tmp 2) (.tmp 62) w.heap.size 0 [.int .i64 0, .slice none 0 0, .slice none 0 0, .slice none 0 0, .slice none 0 0, .int .i64 0, .slice none 0 0, .slice none 0 0, .slice none 0 0, .slice none 0 0, .slice none 0 0, .slice none 0 0, .int .i64 0, .slice none 0 0, .slice none 0 0, .int .i64 0, .slice none 0 0, .slice none 0 0, .slice none 0 0] rfl rfl rfl rfl R28.out (Nat.le_refl _) (by kernel_rfl) rfl ?_; intro W9 r9 g9 s9
       have R9 := Lib.hid (show isRow W9 w.heap.size 45 #[.int .i64 0, .slice none 0 0, .slice none 0 0, .slice none 0 0, .slice none 0 0, .int .i64 0, .slice none 0 0, .slice none 0 0, .slice none 0 0, .slice none 0 0, .slice none 0 0, .slice none 0 0, .int .i64 0, .slice none 0 0, .slice none 0 0, .int .i64 0, .slice none 0 0, .slice none 0 0, .slice none 0 0] from r9); have B9 := Lib.hid (B8.out.grown g9 B8.out.size (fun j hj => by cases hj; exact Nat.le_refl _)); clear r9 g9 s9))
  exact ret_row2 Tryz.results32 rfl rfl R9.out Tryz.underlying45 rfl (by kernel_rfl) rfl ⟨rfl, B9.out⟩
/-- one listed addition of a bare package -/
theorem needs1_add (w : World) : Calls Tryz.prog 64 #[.agg #[.int .i64 0, .int .i64 1, .slice none 0 0, .slice none 0 0, .slice none 0 0, .slice none 0 0, .int .i64 0, .slice none 0 0, .slice none 0 0, .slice none 0 0, .slice none 0 0, .slice none 0 0, .slice none 0 0, .int .i64 0, .slice none 0 0, .slice none 0 0, .int .i64 0, .slice none 0 0, .slice none 0 0, .slice none 0 0]] w fun e w' => e = .returned (.bool false) ∧ Below w.heap.size w w' := by
  go_enter Tryz.func64, Tryz.ntmps64
  go_wp2_with (refine wpList_box 47 (.tmp 0) #[.int .i64 0, .int .i64 1, .slice none 0 0, .slice none 0 0, .slice none 0 0, .slice none 0 0, .int .i64 0, .slice none 0 0, .slice none 0 0, .slice none 0 0, .slice none 0 0, .slice none 0 0, .slice none 0 0, .int .i64 0, .slice none 0 0, .slice none 0 0, .int .i64 0, .slice none 0 0, .slice none 0 0, .slice none 0 0] rfl rfl rfl ?_; intro W r g s
               have c1 : W.cell? ⟨w.heap.size, 1, none⟩ = some (.int .i64 1) := (by rw [r.cell]; rfl)
               have B := Lib.hid ((Below.refl _ w).grown g (Nat.le_refl _) (by simp)); clear r g s)
  go_ret
  exact ⟨rfl, B.out⟩
theorem index_add (w : World) (g : Nat) (h : isRow w g 47 #[.int .i64 0, .int .i64 1, .slice none 0 0, .slice none 0 0, .slice none 0 0, .slice none 0 0, .int .i64 0, .slice none 0 0, .slice none 0 0, .slice none 0 0, .slice none 0 0, .slice none 0 0, .slice none 0 0, .int .i64 0, .slice none 0 0, .slice none 0 0, .int .i64 0, .slice none 0 0, .slice none 0 0, .slice none 0 0]) : Calls Tryz.prog 35 #[.slice (some ⟨g, 0, none⟩) 1 1, .func (.func 64) #[] #[]] w fun e w' => e = .returned (.int .i64 (-1)) ∧ Below w.heap.size w w' := by
  have H := Lib.hid h
  clear h
  go_enter Tryz.func35, Tryz.ntmps35
  go_wp2
  refine wp_loop_rounds 2 ?_
  rw [rounds_succ]
  go_wp2_with (first
    | (refine wpList_load_row 47 (.tmp 14) rfl rfl rfl H.out Tryz.underlying47 rfl (by kernel_rfl) ?_)
    | (go_at_call 64; refine (needs1_add _).mono ?_; rintro e w1 ⟨rfl, hb1⟩; have B1 := Lib.hid hb1; clear hb1))
  rw [rounds_succ]
  go_wp2
  go_ret
  exact ⟨rfl, B1.out⟩
theorem needs_nil (w : World) : Calls Tryz.prog 33 #[.slice none 0 0] w fun e w' => e = .returned (.bool true) ∧ w = w' := by
  go_enter Tryz.func33, Tryz.ntmps33; go_wp2; go_ret; exact ⟨rfl, rfl⟩
theorem contains_add (w : World) (g : Nat) (h : isRow w g 47 #[.int .i64 0, .int .i64 1, .slice none 0 0, .slice none 0 0, .slice none 0 0, .slice none 0 0, .int .i64 0, .slice none 0 0, .slice none 0 0, .slice none 0 0, .slice none 0 0, .slice none 0 0, .slice none 0 0, .int .i64 0, .slice none 0 0, .slice none 0 0, .int .i64 0, .slice none 0 0, .slice none 0 0, .slice none 0 0]) : Calls Tryz.prog 10 #[.slice (some ⟨g, 0, none⟩) 1 1, .func (.func 64) #[] #[]] w fun e w' => e = .returned (.bool false) ∧ Below w.heap.size w w' := by
  have H := Lib.hid h
  clear h
  go_enter Tryz.func10, Tryz.ntmps10
  go_wp2_with (go_at_call 35; refine (index_add _ _ H.out).mono ?_; rintro e w1 ⟨rfl, hb1⟩; have B1 := Lib.hid hb1; clear hb1)
  go_ret
  exact ⟨rfl, B1.out⟩
theorem needs_add (w : World) (g : Nat) (h : isRow w g 47 #[.int .i64 0, .int .i64 1, .slice none 0 0, .slice none 0 0, .slice none 0 0, .slice none 0 0, .int .i64 0, .slice none 0 0, .slice none 0 0, .slice none 0 0, .slice none 0 0, .slice none 0 0, .slice none 0 0, .int .i64 0, .slice none 0 0, .slice none 0 0, .int .i64 0, .slice none 0 0, .slice none 0 0, .slice none 0 0]) : Calls Tryz.prog 33 #[.slice (some ⟨g, 0, none⟩) 1 1] w fun e w' => e = .returned (.bool false) ∧ Below w.heap.size w w' := by
  have H := Lib.hid h
  clear h
  go_enter Tryz.func33, Tryz.ntmps33
  go_wp2_with (go_at_call 10; refine (contains_add _ _ H.out).mono ?_; rintro e w1 ⟨rfl, hb1⟩; have B1 := Lib.hid hb1; clear hb1)
  go_ret
  exact ⟨rfl, B1.out⟩
theorem num20 (w : World) (n : Int) : Calls Tryz.prog 6 #[.int .i64 n] w fun e w' => e = .returned (.int .i64 n) ∧ w = w' := by
  go_enter Tryz.func6, Tryz.ntmps6; go_wp2; go_ret; exact ⟨rfl, rfl⟩
/-- bytes that lay there before a row's block was made stay when the row is written -/
theorem Bytes.below2 {w0 w w' : World} {v : Value} {l : List UInt8} (_ : Bytes w v l) (h0 : Bytes w0 v l) (hg : w0.grownBy w none) (hg' : w.grownBy w' (some w0.heap.size)) : Bytes w' v l :=
  Bytes.below h0 ⟨hg'.os.trans hg.os, hg'.tape.trans hg.tape, hg'.output.trans hg.output, Nat.le_trans hg.size hg'.size, fun i hi => (hg'.block i (Nat.lt_of_lt_of_le hi hg.size) (by simp; omega)).trans (hg.block i hi (by simp))⟩
theorem conv_bytes {w : World} {A : Option Addr} {n c : Nat} {l : List UInt8} (h : Bytes w (.slice A n c) l) (h0 : 0 < l.length) : (convert 39 9 (.slice A n c)).run Tryz.prog w = .ok (.string ⟨l.toArray⟩) w := by
  obtain ⟨hl, hm, A', c', he, hc, hA⟩ := h
  cases he
  obtain ⟨a, rfl, hlt, hcell⟩ := hA h0
  exact run_convert_bytes_back w _ _ _ a c l Tryz.underlying39 Tryz.underlying5 Tryz.underlying9 (fun j hj => hcell j _ (by simp [bv, hj]))
theorem knows_eq : ∀ w : World, (binOp .eql 9 (.string ⟨[0, 3, 0, 0, 0, 5].toArray⟩) (.string ⟨#[0, 3, 0, 0, 0, 5]⟩)).run Tryz.prog w = .ok (.bool true) w := fun _ => by kernel_rfl
theorem build_add1 : ∀ w : World, (Instr.build 45 #[(0, .int .i64 1)]).run Tryz.prog w = .ok (.agg #[.int .i64 1, .slice none 0 0, .slice none 0 0, .slice none 0 0, .slice none 0 0, .int .i64 0, .slice none 0 0, .slice none 0 0, .slice none 0 0, .slice none 0 0, .slice none 0 0, .slice none 0 0, .int .i64 0, .slice none 0 0, .slice none 0 0, .int .i64 0, .slice none 0 0, .slice none 0 0, .slice none 0 0]) w := fun _ => by kernel_rfl
theorem build_add2 : ∀ w : World, (Instr.build 47 #[(1, .agg #[.int .i64 1, .slice none 0 0, .slice none 0 0, .slice none 0 0, .slice none 0 0, .int .i64 0, .slice none 0 0, .slice none 0 0, .slice none 0 0, .slice none 0 0, .slice none 0 0, .slice none 0 0, .int .i64 0, .slice none 0 0, .slice none 0 0, .int .i64 0, .slice none 0 0, .slice none 0 0, .slice none 0 0])]).run Tryz.prog w = .ok (.agg #[.int .i64 0, .int .i64 1, .slice none 0 0, .slice none 0 0, .slice none 0 0, .slice none 0 0, .int .i64 0, .slice none 0 0, .slice none 0 0, .slice none 0 0, .slice none 0 0, .slice none 0 0, .slice none 0 0, .int .i64 0, .slice none 0 0, .slice none 0 0, .int .i64 0, .slice none 0 0, .slice none 0 0, .slice none 0 0]) w := fun _ => by kernel_rfl
theorem build_add3 : ∀ w : World, (Instr.buildSlice 28 1 #[(0, .agg #[.int .i64 0, .int .i64 1, .slice none 0 0, .slice none 0 0, .slice none 0 0, .slice none 0 0, .int .i64 0, .slice none 0 0, .slice none 0 0, .slice none 0 0, .slice none 0 0, .slice none 0 0, .slice none 0 0, .int .i64 0, .slice none 0 0, .slice none 0 0, .int .i64 0, .slice none 0 0, .slice none 0 0, .slice none 0 0])]).run Tryz.prog w = .ok (.slice (some ⟨w.heap.size, 0, none⟩) 1 1) (w.alloc (.cells #[.int .i64 0, .int .i64 1, .slice none 0 0, .slice none 0 0, .slice none 0 0, .slice none 0 0, .int .i64 0, .slice none 0 0, .slice none 0 0, .slice none 0 0, .slice none 0 0, .slice none 0 0, .slice none 0 0, .int .i64 0, .slice none 0 0, .slice none 0 0, .int .i64 0, .slice none 0 0, .slice none 0 0, .slice none 0 0] 47)) := fun _ => by kernel_rfl
set_option maxHeartbeats 400000 in
set_option maxRecDepth 8000 in
theorem knows20 (w : World) : Calls Tryz.prog 8 #[] w fun e w' => e = .returned (.bool true) ∧ Below w.heap.size w w' := by
  have hE := knows_eq
  have HN := Lib.hid trivial
  have hb1 := build_add1
  have hb2 := build_add2
  have hb3 := build_add3
  go_enter Tryz.func8, Tryz.ntmps8
  go_wp2_with (first
    | (go_at_call 31; refine (put_remove _).mono ?_; rintro e w1 ⟨_, rfl, ⟨A, c, rfl, hb⟩, hw⟩; have HB := Lib.hid hb; have B1 := Lib.hid hw; clear hb hw)
    | (go_at_call 32; refine (get_nil _).mono ?_; rintro e w2 ⟨rfl, hw⟩; have HB2 := Lib.hid (HB.out.below hw); have B2 := Lib.hid (B1.out.trans (hw.mono B1.out.size)); clear hw)
    | (refine wpList_new 45 #[.int .i64 0, .slice none 0 0, .slice none 0 0, .slice none 0 0, .slice none 0 0, .int .i64 0, .slice none 0 0, .slice none 0 0, .slice none 0 0, .slice none 0 0, .slice none 0 0, .slice none 0 0, .int .i64 0, .slice none 0 0, .slice none 0 0, .int .i64 0, .slice none 0 0, .slice none 0 0, .slice none 0 0] rfl rfl new_prop ?_; intro W3 r3 g3 s3
       have R3 := Lib.hid r3; have G3 := Lib.hid g3; have HB3 := Lib.hid (HB2.out.below (toB g3)); have B3 := Lib.hid (B2.out.grown g3 B2.out.size (by simp)); clear r3 g3 s3)
    | (refine wpList_store_row 45 (.tmp 3) (.tmp 12) w2.heap.size 0 [.int .i64 0, .slice none 0 0, .slice none 0 0, .slice none 0 0, .slice none 0 0, .int .i64 0, .slice none 0 0, .slice none 0 0, .slice none 0 0, .slice none 0 0, .slice none 0 0, .slice none 0 0, .int .i64 0, .slice none 0 0, .slice none 0 0, .int .i64 0, .slice none 0 0, .slice none 0 0, .slice none 0 0] rfl rfl rfl rfl R3.out (Nat.le_refl _) (by kernel_rfl) rfl ?_; intro W4 r4 g4 s4
       have HB4 := Lib.hid (HB3.out.below2 HB2.out G3.out g4); have B4 := Lib.hid (B3.out.grown g4 B3.out.size (fun j hj => by cases hj; exact B2.out.size)); have hcv : (convert 39 9 (.slice A 6 c)).run Tryz.prog W4 = .ok (.string ⟨#[0, 3, 0, 0, 0, 5]⟩) W4 := conv_bytes HB4.out (by decide); clear r4 g4 s4)
    | (go_at_call 6; refine (num20 _ _).mono ?_; rintro e w' ⟨rfl, rfl⟩)
    | (go_at_call 33; have HX := HN.out; clear HX HN; refine (needs_nil _).mono ?_; rintro e w' ⟨rfl, rfl⟩)
    | (go_at_call 33; refine (needs_add _ _ (isRow.new _ _ _)).mono ?_; rintro e w5 ⟨rfl, h5⟩; have B5 := Lib.hid ((B4.out.alloc B4.out.size _).trans (h5.mono (B4.out.alloc B4.out.size _).size)); clear h5))
  go_ret
  exact ⟨rfl, B5.out⟩
end Go.Proofs
