/- The law of a range over a closure that makes no round. -/
import Derived.Test.YtknmfkdfiomicaaGreatDoorRange0
import Derived.RangeFuncRecord
import Derived.RangeFuncOwn
namespace Go.Proofs
open Go.RowKit in
/-- a range over a closure that makes no round -/
theorem wp_rangeFunc_none {P : Program} {g : Operand} {ps : Array Tmp} {assign body : Code} {Q : Exit → Act → World → Prop} {a : Act} {w : World} {f : FuncId} {lb : Array Value}
    (hg : a.eval g = .func (.func f) #[] lb) (hcl : Callable P f)
    (hc : ∀ y W, Below w.heap.size w W → Calls P f (#[y] ++ lb) W fun e w' => e = .returned (.tuple #[]) ∧ W = w')
    (h : ∀ W, Below w.heap.size w W → W.heap[w.heap.size]? = some (.deferred (some [])) → Q .normal { a with defers := { target := .collected w.heap.size, args := #[] } :: a.defers } W) :
    (Code.rangeFunc g ps assign body).wp P Q a w := by
  refine wp_rangeFunc fun fn => ?_
  have hE := run_enterLoop_outer (P := P) (w := w) fn a.tmps ps assign body
  generalize hW : World.alloc (World.alloc w _) _ = W at hE
  have hB : Below w.heap.size w W := hW ▸ (((Below.refl _ w).alloc (Nat.le_refl _) _).alloc (by simp) _)
  refine ⟨_, _, W, { target := .fn (.func f) lb, args := #[.func (.yield (w.heap.size + 1)) #[] #[]] }, W, f, _, W, hE, ?_, ?_, (hc (.func (.yield (w.heap.size + 1)) #[] #[]) W hB).mono ?_⟩
  · have hy : a.eval (.const (.func (.yield (w.heap.size + 1)) #[] #[])) = .func (.yield (w.heap.size + 1)) #[] #[] := rfl
    unfold resolve rangeCall
    simp only [hg, Deferred.ofValue]
    simp [hy, Sem.run_pure]
  · simp [invoke]
    exact hcl _ _
  · rintro e w₃ ⟨rfl, rfl⟩
    have hl : W.heap[w.heap.size + 1]? = some (.loop { state := .ready, pending := none, fn := fn, tmps := a.tmps, params := ps, assign := assign, body := body, defers := w.heap.size }) := by
      subst hW
      have := heap_alloc_new (w.alloc (.deferred (some []))) (.loop { state := .ready, pending := none, fn := fn, tmps := a.tmps, params := ps, assign := assign, body := body, defers := w.heap.size })
      rwa [World.size_alloc] at this
    have hd : W.heap[w.heap.size]? = some (.deferred (some [])) := by
      subst hW
      exact (Below.heap_alloc _ _ _ (by simp)).trans (heap_alloc_new w _)
    refine ⟨_, rfl, _, run_endLoop hl (by simp), h _ ?_ ?_⟩
    · exact hB.grown (grownBy_putObj' W (w.heap.size + 1) _) hB.size (fun j hj => by cases hj; omega)
    · rw [World.putObj_heap_other (by omega)]; exact hd
end Go.Proofs
