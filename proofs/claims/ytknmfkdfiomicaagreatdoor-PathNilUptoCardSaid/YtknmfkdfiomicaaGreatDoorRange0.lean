/- A range over a function whose iterator comes back: the statement, without a fence. -/
import Derived.Test.YtknmfkdfiomicaaGreatDoorStep
import Derived.RangeFuncIn
import Derived.RangeFuncRecord
namespace Go.Proofs
theorem wp_rangeFunc {P : Program} {g : Operand} {ps : Array Tmp} {assign body : Code} {Q : Exit → Act → World → Prop} {a : Act} {w : World}
    (h : ∀ fn, ∃ (l : Nat) (mark : List Deferred) (w₁ : World) (d : Deferred) (w₁' : World) (f : FuncId) (args : Array Value) (w₂ : World),
      (Instr.enterLoop fn a.tmps ps assign body none).run P w = .ok (l, mark) w₁ ∧
      (resolve a.eval (rangeCall g l) 0).run P w₁ = .ok d w₁' ∧
      (invoke d.target d.args).run P w₁' = .ok (.enter f args) w₂ ∧
      Calls P f args w₂ fun e w₃ => ∃ v, e = .returned v ∧ ∃ w₄, (Instr.endLoop l).run P w₃ = .ok none w₄ ∧ Q .normal { a with defers := mark ++ a.defers } w₄) :
    (Code.rangeFunc g ps assign body).wp P Q a w := by
  intro b k cs
  obtain ⟨l, mark, w₁, d, w₁', f, args, w₂, he, hres, hinv, hcall⟩ := h b.fn
  have hat : ∀ (a : Act) (t : List Item), b.at a t = ({ b with roundOf := none } : Frame).atR a t := fun a t => by simp [Frame.at, Frame.atR]
  have henter := stepR_rangeFunc (P := P) (b := { b with roundOf := none }) (a := a) (k := k) (cs := cs) (w := w) he hres hinv
  obtain ⟨e, w₃, fr, ⟨v, rfl, w₄, hend, hq⟩, hcomes, hfn, hleave⟩ := hcall (({ b with roundOf := none } : Frame).atR { a with defers := mark ++ a.defers } (.inRangeFunc l :: k) :: cs)
  refine ⟨.normal, _, w₄, hq, ?_⟩
  show Steps P (lone (b.at a (.code (.rangeFunc g ps assign body) :: k)) cs w) (lone (b.at { a with defers := mark ++ a.defers } k) cs w₄)
  rw [hat, hat]
  have h3 := step_leave_returned (cs := cs) (c := ({ b with roundOf := none } : Frame).atR { a with defers := mark ++ a.defers } (.inRangeFunc l :: k)) hleave
  rw [finish_atR_inRangeFunc] at h3
  have h4 := stepR_endRangeFunc (b := { b with roundOf := none }) (a := { a with defers := mark ++ a.defers }) (k := k) (cs := cs) hend
  exact .head henter (Steps.trans hcomes (.head h3 (.one h4)))
end Go.Proofs
