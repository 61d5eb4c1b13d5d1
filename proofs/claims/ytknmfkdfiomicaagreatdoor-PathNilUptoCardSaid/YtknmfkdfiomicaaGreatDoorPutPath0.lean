/- A zero path as bytes: it may not be. -/
import Derived.Test.YtknmfkdfiomicaaGreatDoorPutZero
namespace Go.Proofs
open Go.RowKit
/-- in a list of ops: the load of a part of a row -/
theorem wpList_load_part {P : Program} {ops : Array Oper} {rest : List Oper} {o : Oper} {a : Act} {w : World} {Q : Exit → Act → World → Prop} (ty : TypeId) (x : Operand) (off : Nat) {b : Nat} {t : TypeId} {cs : Array Value} (vs : List Value) {d : TypeDesc}
    (hg : o.guard = none) (hop : o.op = .load ty x) (hx : a.eval x = .pointer (some ⟨b, off, none⟩)) (hr : isRow w b t cs) (hc : ∀ j u, vs[j]? = some u → cs[off + j]? = some u) (hu : P.underlying ty = some d) (hd : d.isRow = true) (hi : (P.info? ty).map (·.size) = some vs.length)
    (h : wpList P ops Q rest (a.put o.dst (.agg vs.toArray)) w) : wpList P ops Q (o :: rest) a w := by
  refine wpList_plain hg fun K' hK' => ?_
  have hrun := run_loadVar_mid (P := P) w b off ty vs d (fun j u hj => by rw [hr.cell]; exact hc j u hj) hu hd hi
  unfold Oper.wp execOp
  simp only [hop, hx, Instr.loadAt, Instr.sureAddr, Sem.run_bind, Sem.run_pure, Result.andThen_ok, hrun]
  exact hK' _ _ h
set_option maxRecDepth 8000 in
theorem path_right_zero (w : World) : Calls Tryz.prog 25 #[.agg #[.slice none 0 0, .slice none 0 0, .slice none 0 0, .int .i64 0, .slice none 0 0, .slice none 0 0, .slice none 0 0]] w fun en w' => en = .returned (.bool false) ∧ Below w.heap.size w w' := by
  go_enter Tryz.func25, Tryz.ntmps25
  go_wp2_with (first
    | (refine wpList_box 36 (.tmp 0) #[.slice none 0 0, .slice none 0 0, .slice none 0 0, .int .i64 0, .slice none 0 0, .slice none 0 0, .slice none 0 0] rfl rfl rfl ?_; intro W1 r1 g1 s1
       have R1 := Lib.hid r1; have B1 := Lib.hid (toB g1); clear r1 g1 s1)
    | (refine wpList_load_part 33 (.tmp 6) 0 [.slice none 0 0, .slice none 0 0, .slice none 0 0, .int .i64 0, .slice none 0 0, .slice none 0 0] rfl rfl rfl R1.out (fun j u hj => by rcases j with _|_|_|_|_|_|j <;> first | (simp at hj; subst hj; rfl) | (simp at hj)) Tryz.underlying33 rfl (by kernel_rfl) ?_)
    | (go_at_call 67; refine (putLeaf_zero _).mono ?_; rintro e w2 ⟨rfl, h2⟩; have B2 := Lib.hid (B1.out.trans (h2.mono B1.out.size)); clear h2))
  go_ret
  exact ⟨rfl, B2.out⟩
set_option maxRecDepth 8000 in
theorem putPath_zero (w : World) : Calls Tryz.prog 88 #[.agg #[.slice none 0 0, .slice none 0 0, .slice none 0 0, .int .i64 0, .slice none 0 0, .slice none 0 0, .slice none 0 0]] w fun en w' => en = .returned (.tuple #[.slice none 0 0, .int .i64 1]) ∧ Below w.heap.size w w' := by
  go_enter Tryz.func88, Tryz.ntmps88
  go_wp2_with (first
    | (refine wpList_box 36 (.tmp 0) #[.slice none 0 0, .slice none 0 0, .slice none 0 0, .int .i64 0, .slice none 0 0, .slice none 0 0, .slice none 0 0] rfl rfl rfl ?_; intro W1 r1 g1 s1
       have R1 := Lib.hid r1; have B1 := Lib.hid (toB g1); clear r1 g1 s1)
    | (refine wpList_load_row 36 (.tmp 1) rfl rfl rfl R1.out Tryz.underlying36 rfl (by kernel_rfl) ?_)
    | (go_at_call 25; refine (path_right_zero _).mono ?_; rintro e w2 ⟨rfl, h2⟩; have B2 := Lib.hid (B1.out.trans (h2.mono B1.out.size)); clear h2))
  go_ret2
  exact ⟨rfl, B2.out⟩
end Go.Proofs
