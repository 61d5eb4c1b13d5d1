/- path.read over a reader that has no bytes left: no round. -/
import Derived.Test.YtknmfkdfiomicaaGreatDoorReader0
import Derived.Test.YtknmfkdfiomicaaGreatDoorRange0
namespace Go.Proofs
open Go.RowKit
theorem left_nil (w : World) (b : Nat) (e : Int) (h : Reader w b (.slice none 0 0) e) : Calls Tryz.prog 135 #[.pointer (some ⟨b, 0, none⟩)] w fun en w' => en = .returned (.int .i64 0) ∧ w = w' := by
  have h0 : w.cell? ⟨b, 0, none⟩ = some (.slice none 0 0) := by rw [h.cell]; rfl
  clear h
  go_enter Tryz.func135, Tryz.ntmps135; go_wp2; go_ret; exact ⟨rfl, rfl⟩
theorem read_any (w : World) (p : Option Addr) : Calls Tryz.prog 87 #[.pointer p] w fun en w' => ∃ g, en = .returned (.func (.func 134) #[] #[.pointer (some ⟨g, 0, none⟩)]) ∧ g = w.heap.size ∧ w' = w.alloc (.cells #[.pointer p] 152) := by
  have hmf : ∀ (fn : Fn) (first cap : Array Value) (w : World), (Instr.makeFunc fn first cap).run Tryz.prog w = .ok (.func fn first cap) w := fun _ _ _ _ => rfl
  go_enter Tryz.func87, Tryz.ntmps87
  go_wp2
  go_ret
  exact ⟨_, rfl, rfl, rfl⟩
theorem read1_nil (w : World) (y : Value) (g b : Nat) (e : Int) (hg : w.cell? ⟨g, 0, none⟩ = some (.pointer (some ⟨b, 0, none⟩))) (h : Reader w b (.slice none 0 0) e) :
    Calls Tryz.prog 134 #[y, .pointer (some ⟨g, 0, none⟩)] w fun en w' => en = .returned (.tuple #[]) ∧ w = w' := by
  have H := Lib.hid h
  clear h
  go_enter Tryz.func134, Tryz.ntmps134
  go_wp2
  refine wp_loop_rounds 1 ?_
  rw [rounds_succ]
  go_wp2_with (go_at_call 135; refine (left_nil _ _ _ H.out).mono ?_; rintro e w' ⟨rfl, rfl⟩)
  go_end0
  exact ⟨rfl, rfl⟩
end Go.Proofs
