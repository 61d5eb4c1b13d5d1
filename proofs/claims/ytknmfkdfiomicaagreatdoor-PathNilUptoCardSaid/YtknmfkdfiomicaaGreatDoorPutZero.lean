/- A zero leaf as bytes: it is given up with ErrArg, and that is caught. -/
import Derived.Test.YtknmfkdfiomicaaGreatDoorStep
import Derived.Defers
import Derived.Recover
namespace Go.Proofs
open Go.RowKit
theorem demand_no (n : Int) (w : World) : Calls Tryz.prog 62 #[.bool false, .int .i64 n] w fun e w' => e = .panicked [{ v := .iface 30 (.int .i64 n), recovered := false }] ∧ w = w' := by
  go_enter Tryz.func62, Tryz.ntmps62
  go_wp2
  exact ⟨rfl, rfl, rfl⟩
theorem size_no (A : Option Addr) (n c : Nat) (k : Int) (h : ((n : Int) == k) = false) (w : World) : Calls Tryz.prog 101 #[.slice A n c, .int .i64 k] w fun e w' => e = .panicked [{ v := .iface 30 (.int .i64 1), recovered := false }] ∧ w = w' := by
  go_enter Tryz.func101, Tryz.ntmps101
  go_wp2_with (go_at_call 62; refine (demand_no _ _).mono ?_; rintro e w' ⟨rfl, rfl⟩)
  exact ⟨rfl, rfl, rfl⟩
theorem right_zero (w : World) : Calls Tryz.prog 61 #[.agg #[.slice none 0 0, .slice none 0 0, .slice none 0 0, .int .i64 0, .slice none 0 0, .slice none 0 0]] w fun e w' => e = .panicked [{ v := .iface 30 (.int .i64 1), recovered := false }] ∧ Below w.heap.size w w' := by
  go_enter Tryz.func61, Tryz.ntmps61
  go_wp2_with (go_at_call 101; refine (size_no none 0 0 32 rfl _).mono ?_; rintro e w' ⟨rfl, rfl⟩)
  exact ⟨rfl, rfl, (Below.refl _ _).alloc (Nat.le_refl _) _⟩
theorem assert_errno (n : Int) : ∀ w : World, (Instr.typeAssert (.iface 30 (.int .i64 n)) 20 30 false).run Tryz.prog w = .ok (.int .i64 n) w := fun _ => by kernel_rfl
theorem caught_some (b : Nat) (x n : Int) (older : List PanicEntry) (w : World) (hc : w.cell? ⟨b, 0, none⟩ = some (.int .i64 x)) (hz : w.frozen? ⟨b, 0, none⟩ = false) :
    CallsD Tryz.prog 60 #[.pointer (some ⟨b, 0, none⟩)] (.panicking ({ v := .iface 30 (.int .i64 n), recovered := false } :: older)) w fun e u' w' =>
      e = .returned (.tuple #[]) ∧ u' = .panicking ({ v := .iface 30 (.int .i64 n), recovered := true } :: older) ∧ w' = w.setCell ⟨b, 0, none⟩ (.int .i64 n) := by
  refine callsD_of_wpS Tryz.func60 rfl fun c₀ cs hu => ?_
  apply wpS_seq
  apply wpS_region
  simp [wpOpsS, go_sem, recoverD, hu, Tryz.ntmps60, Exit.thenS]
  apply wpS_seq
  apply wpS_region
  simp [wpOpsS, go_sem, Exit.thenS]
  refine wpS_cond (t := true) (by simp [Act.eval, Array.replicate]) ?_
  simp only [if_true]
  apply wpS_region
  simp [wpOpsS, go_sem, assert_errno, hc, hz, bodyPostS, results, Tryz.results60]
theorem caught_none (b : Nat) (w : World) :
    CallsD Tryz.prog 60 #[.pointer (some ⟨b, 0, none⟩)] .returning w fun e u' w' => e = .returned (.tuple #[]) ∧ u' = .returning ∧ w' = w := by
  refine callsD_of_wpS Tryz.func60 rfl fun c₀ cs hu => ?_
  apply wpS_seq
  apply wpS_region
  simp [wpOpsS, go_sem, recoverD, hu, Tryz.ntmps60, Exit.thenS]
  apply wpS_seq
  apply wpS_region
  simp [wpOpsS, go_sem, Exit.thenS]
  refine wpS_cond (t := false) (by simp [Act.eval, Array.replicate]) ?_
  simp only [Bool.false_eq_true, if_false]
  refine wpS_of_wp (wp_skip ?_)
  cases c₀
  simp_all [bodyPostS, results, Tryz.results60]
theorem putLeaf_zero (w : World) : Calls Tryz.prog 67 #[.agg #[.slice none 0 0, .slice none 0 0, .slice none 0 0, .int .i64 0, .slice none 0 0, .slice none 0 0]] w fun e w' => e = .returned (.tuple #[.slice none 0 0, .int .i64 1]) ∧ Below w.heap.size w w' := by
  go_enter_defers Tryz.func67, Tryz.ntmps67
  go_wp2_with (go_at_call 61; refine (right_zero _).mono ?_; rintro e w' ⟨rfl, hb⟩)
  have hc : w'.cell? ⟨w.heap.size + 1, 0, none⟩ = some (.int .i64 0) := (hb.cell (by simp)).trans (by simp [go_sem])
  have hz : w'.frozen? ⟨w.heap.size + 1, 0, none⟩ = false := (hb.frozen (by simp)).trans (by simp [go_sem])
  have hB := (((Below.refl _ w).alloc (Nat.le_refl _) (.cells #[.slice none 0 0, .slice none 0 0, .slice none 0 0, .int .i64 0, .slice none 0 0, .slice none 0 0] 33)).alloc (by simp) (.cells #[.int .i64 0] 30)).trans (hb.mono (by simp; omega))
  refine leaves_cons (f := 60) (args := #[.pointer (some ⟨w.heap.size + 1, 0, none⟩)]) (by simp) (by simp [go_sem]) ?_
  refine (caught_some (w.heap.size + 1) 0 1 [] _ hc hz).mono ?_
  rintro e u' w'' ⟨rfl, rfl, rfl⟩
  simp [Leaves, settle, results, Tryz.results67, go_sem, hc]
  exact hB.setCell (by simp) _
end Go.Proofs
