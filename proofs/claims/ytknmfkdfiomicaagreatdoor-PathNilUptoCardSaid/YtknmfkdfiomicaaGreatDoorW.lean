/- Words over memory for this seat's contracts: rows, bytes, blocks known whole, and what a call may leave. -/
import Derived.Test.YtknmfkdfiomicaaGreatDoorProg
import Derived.Test.YtknmfkdfiomicaaGreatDoorInv
import Derived.Lib.Hide
import Derived.Laws.EntriesVeiled
import Derived.Outline
import Derived.Handy
import Derived.Deep.MidRow
namespace Go.Proofs
open Go.RowKit
theorem Tryz.mixed : Tryz.prog.follows .mixedOrders = true := by kernel_rfl
/-- the widest slice that can be -/
def lim : Nat := 140737488355328
/-- block b is just these cells -/
def isRow (w : World) (b : Nat) (t : TypeId) (cs : Array Value) : Prop := w.heap[b]? = some (.cells cs t (0, 0))
section
variable {w w' : World} {b : Nat} {cs : Array Value} {t : TypeId}
theorem isRow.cell (h : isRow w b t cs) (i : Nat) : w.cell? ⟨b, i, none⟩ = cs[i]? := by unfold isRow at h; simp [World.cell?, h]
theorem isRow.free (h : isRow w b t cs) (i : Nat) : w.frozen? ⟨b, i, none⟩ = false := by unfold isRow at h; simp [World.frozen?, h]
theorem isRow.lt (h : isRow w b t cs) : b < w.heap.size := by
  rcases Nat.lt_or_ge b w.heap.size with hlt | hge
  · exact hlt
  · unfold isRow at h; rw [Array.getElem?_eq_none hge] at h; cases h
theorem isRow.below {k : Nat} (h : isRow w b t cs) (hb : Below k w w') (hB : b < k) : isRow w' b t cs := (hb.block b hB).trans h
theorem isRow.grown (h : isRow w b t cs) {row : Option Nat} (hg : w.grownBy w' row) (hr : some b ≠ row) : isRow w' b t cs := (hg.block b h.lt hr).trans h
theorem isRow.new (w : World) (t : TypeId) (cs : Array Value) : isRow (w.alloc (.cells cs t)) w.heap.size t cs := heap_alloc_new w _
theorem isRow.alloc (h : isRow w b t cs) (o : Obj) : isRow (w.alloc o) b t cs := (Below.heap_alloc w o b h.lt).trans h
theorem isRow.drew (h : isRow w b t cs) : isRow w.drew b t cs := h
theorem isRow.set (h : isRow w b t cs) (i : Nat) (v : Value) : isRow (w.setCell ⟨b, i, none⟩ v) b t (cs.setIfInBounds i v) := by
  unfold isRow at *; simp [World.setCell, Array.getElem?_modify, h]
theorem isRow.far (h : isRow w b t cs) {p : Addr} (hp : b ≠ p.block) (v : Value) : isRow (w.setCell p v) b t cs := (Below.heap_setCell w p v b hp).trans h
end
theorem toGrown {w w' : World} (h : Below w.heap.size w w') (row : Option Nat) : w.grownBy w' row :=
  ⟨h.os, h.tape, h.output, h.size, fun k hk _ => h.block k hk⟩
theorem below_drewN {B : Nat} {a w : World} (h : Below B a w) (n : Nat) : Below B a (w.drewN n) := ⟨h.os, h.tape, h.output, h.size, h.block⟩
theorem plan_end {P : Program} {ops : Array Oper} {Q : Exit → Act → World → Prop} {row : Option Nat} {a : Act} {w : World} (h : Q .normal a w) : planRun P ops (NoPanic Q) row [] a w := h
/-- some value is handed back of which p holds; nothing that was has turned -/
def Some_ (w : World) (p : Value → World → Prop) (e : Ending) (w' : World) : Prop := ∃ v, e = .returned v ∧ p v w' ∧ Below w.heap.size w w'
section
variable {P : Program} {ops : Array Oper} {Q : Exit → Act → World → Prop} {row : Option Nat} {rest : List Seg} {a : Act} {w : World} {o : Oper} {i : Nat}
theorem plan_callB {f : FuncId} {xs : Array Operand} {ts : Array TypeId} {args : List Value} {p : Value → World → Prop}
    (ho' : nth ops.toList i = some o) (hw : Region.wanted o (yielded ops a.tmps) = true) (hop : o.op = .call { callee := .value (.func f), args := xs, argTypes := ts })
    (hcl : Callable P f) (hc : Calls P f args.toArray w (Some_ w p)) (hargs : xs.toList.map a.eval = args)
    (hR : ∀ v w', p v w' → Below w.heap.size w w' → planRun P ops Q row rest (a.put o.dst v) w') : planRun P ops Q row (.eff i :: rest) a w :=
  plan_call ho' hw hop hcl hc hargs fun _ _ ⟨v, he, hp, hb⟩ => ⟨v, he, toGrown hb row, hR v _ hp hb⟩
theorem plan_effL (ho' : nth ops.toList i = some o) (h : wpList P ops (Exit.then (fun a' w' => w.grownBy w' row ∧ planRun P ops Q row rest a' w') Q) [o] a w) : planRun P ops Q row (.eff i :: rest) a w := by
  have ho := nth_ops ho'
  unfold planRun wpOp
  simp only [ho]
  unfold wpList at h
  split
  · rename_i hw
    rw [if_pos hw] at h
    rcases h with h | ⟨h1, h2⟩
    · exact .inl (Oper.wp_congrQ (fun _ _ _ h => h) (fun h => h) (fun _ _ h => h) h)
    · exact .inr ⟨h1, h2⟩
  · rename_i hw
    rw [if_neg hw] at h
    exact h
theorem plan_store {ty : TypeId} {x y : Operand} {g off : Nat} {t : TypeId} {cs : Array Value} {vs : List Value}
    (ho' : nth ops.toList i = some o) (hw : Region.wanted o (yielded ops a.tmps) = true) (hop : o.op = .store ty x y) (hx : a.eval x = .pointer (some ⟨g, off, none⟩)) (hy : a.eval y = .agg vs.toArray)
    (hr : isRow w g t cs) (hl : off + vs.length ≤ cs.size) (hi : (P.info? ty).map (·.size) = some vs.length) (h1 : vs.all (·.oneCell') = true)
    (h : ∀ w', isRow w' g t (cs.toList.take off ++ vs ++ cs.toList.drop (off + vs.length)).toArray → w.grownBy w' (some g) → w'.heap.size = w.heap.size → planRun P ops Q row rest (a.put o.dst undef) w') : planRun P ops Q row (.last i :: rest) a w := by
  have ho := nth_ops ho'
  unfold planRun wpOp
  simp only [ho, hw, if_true]
  refine .inl ?_
  have hrun := run_storeCells_at (P := P) g off t vs 0 cs w hr (by omega) (by simpa using h1)
  have hst : (Instr.storeAt ty (.pointer (some ⟨g, off, none⟩)) (.agg vs.toArray)).run P w = .ok () (w.setRow g (cs.toList.take off ++ vs ++ cs.toList.drop (off + vs.length)).toArray) := by
    cases hq : P.info? ty with
    | none => simp [hq] at hi
    | some i =>
      have hs : vs.length = i.size := by simp [hq] at hi; omega
      simp only [Nat.add_zero] at hrun
      simp only [Instr.storeAt, Instr.sureAddr, Sem.run_bind, Sem.run_pure, Result.andThen_ok]
      simp [storeVar, sizeOf, typeInfo, hq, Value.cells, hs]
      rw [hrun]
      simp [hs]
  unfold Oper.wp execOp
  simp only [hop, hx, hy, Sem.run_bind, hst, Result.andThen_ok]
  exact h _ (setRow_heap w g cs _ t _ hr) ⟨rfl, rfl, rfl, by simp [World.setRow], fun k _ hk => setRow_other w g k _ (fun e => hk (by rw [e]))⟩ (by simp [World.setRow])
end
/-- in a quiet stretch: a struct's load, all its cells at once -/
theorem quiet_load {P : Program} {ops : Array Oper} {row : Option Nat} {w : World} {Q' : Act → Prop} {i : Nat} {is : List Nat} {a : Act} {o : Oper} (ty : TypeId) (x : Operand) (b off : Nat) (cs : List Value) {d : TypeDesc}
    (ho' : nth ops.toList i = some o) (hw : Region.wanted o (yielded ops a.tmps) = true) (hop : o.op = .load ty x) (hx : a.eval x = .pointer (some ⟨b, off, none⟩))
    (hc : ∀ j u, cs[j]? = some u → w.cell? ⟨b, off + j, none⟩ = some u) (hr : some b ≠ row) (hu : P.underlying ty = some d) (hd : d.isRow = true) (hi : (P.info? ty).map (·.size) = some cs.length)
    (h : wpQuiet P ops (fun w' => ∃ x, w' = later row w x) Q' (is.filterMap (ops[·]?)) (a.put o.dst (.agg cs.toArray))) :
    wpQuiet P ops (fun w' => ∃ x, w' = later row w x) Q' ((i :: is).filterMap (ops[·]?)) a := by
  refine quiet_next ho' ?_
  unfold wpQuiet
  rw [if_pos hw]
  refine ⟨_, ?_, h⟩
  rintro w' ⟨x', rfl⟩
  unfold Oper.quietAt execOp
  have hrun := run_loadVar_mid (P := P) (later row w x') b off ty cs d (fun j u hj => later_cell (p := ⟨b, off + j, none⟩) (hc j u hj) hr x') hu hd hi
  simp only [hop, hx, Instr.loadAt, Instr.sureAddr, Sem.run_bind, Sem.run_pure, Result.andThen_ok, hrun]
  exact ⟨rfl, rfl⟩
theorem ret_row {P : Program} {fn : Func} {R : Ending → World → Prop} {a : Act} {w : World} {p : Tmp} {ty t : TypeId} {g : Nat} {cs : Array Value} {d : TypeDesc} (h : fn.results = #[.cell p ty])
    (hp : a.tmps.getD p undef = .pointer (some ⟨g, 0, none⟩)) (hr : isRow w g t cs)
    (hu : P.underlying ty = some d) (hd : (match d with | .struct _ | .array _ _ => true | _ => false) = true) (hi : (P.info? ty).map (·.size) = some cs.size)
    (hdf : a.defers = []) (hR : R (.returned (.agg cs)) w) : bodyPost P fn R .ret a w :=
  bodyPost_ret (results_cell_row h _ w g t cs _ d hp hr hu hd hi) hdf hR
theorem Tryz.u8 : (Tryz.prog.info? 5).map (fun i => (i.zero, i.size, i.bytes)) = some (some (.int .u8 0), 1, 1) := by kernel_rfl
/-- a new slice of bytes is handed back -/
def NewBytes (w : World) (l : List UInt8) : Ending → World → Prop := Some_ w fun v w' => ∃ A c, v = .slice A l.length c ∧ Bytes w' (.slice A l.length c) l
theorem row_of_isRow {w : World} {g : Nat} {t : TypeId} {xs : List Value} {n size : Nat} (h : isRow w g t xs.toArray) (hl : xs.length = n * size) (hn : n ≤ maxLen) : Row w size (.slice (some ⟨g, 0, none⟩) n n) n xs :=
  ⟨hl, hn, _, _, rfl, Nat.le_refl _, fun _ => ⟨_, rfl, h.lt, fun j u hj => by rw [add_plain', Nat.zero_add, h.cell]; simpa using hj⟩⟩
theorem le_maxLen {n : Nat} (h : n ≤ lim) : n ≤ maxLen := by simp only [lim, maxLen] at *; omega
theorem to47 {n : Nat} (h : n ≤ lim) : n ≤ 140737488355328 := by unfold lim at h; exact h
theorem one_maxLen : 1 ≤ maxLen := by unfold maxLen; exact Nat.le_of_ble_eq_true rfl
theorem own_below {w w' : World} {base : Nat} {e : TypeId} {size : Nat} {v : Value} {n : Nat} {xs : List Value} (h : w.ownsRow base e size v n xs) (hb : Below w.heap.size w w') : w'.ownsRow base e size v n xs := by
  refine h.kept (toGrown hb none) ?_
  cases v.ownBlock
  · exact .inl rfl
  · exact .inr (by simp)
theorem bytes_of_own {w : World} {base : Nat} {e : TypeId} {v : Value} {l : List UInt8} (h : w.ownsRow base e 1 v l.length (l.map bv)) : ∃ A c, v = .slice A l.length c ∧ Bytes w v l := by
  have hr := row_of_own h
  have hr' := hr
  obtain ⟨_, _, A, c, rfl, _⟩ := hr'
  exact ⟨A, c, rfl, hr⟩
end Go.Proofs
