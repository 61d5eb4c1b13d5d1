/- A function that holds a range over a function: its contract from its body, outside of every fence; its return. -/
import Derived.Test.YtknmfkdfiomicaaGreatDoorRange0b
import Derived.RangeFuncLeaves
namespace Go.Proofs
open Go.RowKit
theorem calls_of_wp_marks {P : Program} {f : FuncId} {fn : Func} {c : Code} {args : Array Value} {w : World} {R : Ending → World → Prop} (hf : P.funcs[f]? = some fn) (hb : fn.body = some c)
    (h : c.wp P (bodyPostM Fence.wide 0 P fn R) { tmps := args ++ Array.replicate (fn.ntmps - args.size) undef, defers := [] } w) : Calls P f args w R :=
  (callsIn_wide (n := 0)).1 (callsIn_of_wp_marks hf hb trivial (wpIn_wide.2 h))
theorem isRow.putObj {w : World} {b r : Nat} {t : TypeId} {cs : Array Value} {o : Obj} (h : isRow w b t cs) (hr : b ≠ r) : isRow (w.putObj r o) b t cs := (World.putObj_heap_other hr).trans h
/-- the way out with one mark: a plain post -/
theorem leaves_mark {P : Program} {fn : Func} {R : Ending → World → Prop} {tmps : Array Value} {w : World} {r : Nat} {v : Value} {n : Nat}
    (hD : w.heap[r]? = some (.deferred (some []))) (hv : (results fn tmps).run P (w.putObj r (.deferred none)) = .ok v (w.putObj r (.deferred none))) (hR : R (.returned v) (w.putObj r (.deferred none))) :
    bodyPostM Fence.wide n P fn R .ret ⟨tmps, [{ target := .collected r, args := #[] }]⟩ w :=
  ⟨by simp, .inl ⟨_, _, rfl, run_takeDeferred hD, ⟨v, hv, hR⟩⟩⟩
theorem results_row2 {P : Program} {fn : Func} {a : Array Value} {w : World} {p q : Tmp} {ty t : TypeId} {g : Nat} {cs : Array Value} {d : TypeDesc} {v : Value} (h : fn.results = #[.cell p ty, .tmp q])
    (hp : a.getD p undef = .pointer (some ⟨g, 0, none⟩)) (hq : a.getD q undef = v) (hr : isRow w g t cs)
    (hu : P.underlying ty = some d) (hd : (match d with | .struct _ | .array _ _ => true | _ => false) = true) (hi : (P.info? ty).map (·.size) = some cs.size) :
    (results fn a).run P w = .ok (.tuple #[.agg cs, v]) w := by
  have hp' : a[p]?.getD undef = .pointer (some ⟨g, 0, none⟩) := by simpa using hp
  have hq' : a[q]?.getD undef = v := by simpa using hq
  simp [results, h, hp', hq', asAddr, run_loadVar_row w g t ty cs (0, 0) d hr hu hd hi]
theorem below_mark {k : Nat} {w w' : World} {r : Nat} {o : Obj} (h : Below k w w') (hk : k ≤ w'.heap.size) (hr : k ≤ r) : Below k w (w'.putObj r o) :=
  h.grown (grownBy_putObj' w' r o) hk (fun j hj => by cases hj; exact hr)
end Go.Proofs
