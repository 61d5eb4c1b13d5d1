import Derived.Test.YtknmfkdfiomicaaGreatDoorW
import Derived.Test.YtknmfkdfiomicaaGreatDoorInv
import Derived.Maps.RangeWalk
import Derived.ScopeJumps
import Derived.WalkMore
namespace Go.Proofs
open Go.RowKit Go.Maps
section
variable {P : Program} {ops : Array Oper} {Q : Exit → Act → World → Prop} {K : Act → World → Prop} {a : Act} {w : World} {o : Oper} {i : Nat}
/-- one op of a region, by the tactics of a list -/
theorem op_list (ho : ops[i]? = some o) (h : wpList P ops (Exit.then K Q) [o] a w) : wpOp P ops Q i K a w := by
  unfold wpOp
  simp only [ho]
  unfold wpList at h
  split
  · rename_i hw
    rw [if_pos hw] at h
    rcases h with h | ⟨h1, h2⟩
    · exact .inl (Oper.wp_congrQ (fun _ _ _ h => h) (fun h => h) (fun _ _ h => h) h)
    · exact .inr ⟨h1, h2⟩
  · rename_i hw
    rw [if_neg hw] at h
    exact h
/-- one op of a region: a call -/
theorem op_call {f : FuncId} {xs : Array Operand} {ts : Array TypeId} {args : List Value} {p : Value → World → Prop}
    (ho : ops[i]? = some o) (hw : Region.wanted o (yielded ops a.tmps) = true) (hop : o.op = .call { callee := .value (.func f), args := xs, argTypes := ts })
    (hcl : Callable P f) (hc : Calls P f args.toArray w (Some_ w p)) (hargs : xs.toList.map a.eval = args)
    (hR : ∀ v w', p v w' → Below w.heap.size w w' → K (a.put o.dst v) w') : wpOp P ops Q i K a w := by
  unfold wpOp
  simp only [ho, hw, if_true]
  refine .inl ?_
  have hargs' : args.toArray = xs.map a.eval := by subst hargs; apply Array.ext'; simp
  rw [hargs'] at hc
  have he : (execOp a.eval o).run P w = .ok (.enter f (xs.map a.eval)) w := by
    unfold execOp
    rw [hop]
    simp [resolve, invoke, Act.eval, go_sem]
    exact hcl _ _
  unfold Oper.wp
  rw [he]
  simp only [Oper.upon]
  refine hc.mono fun e w' ⟨v, he, hp, hb⟩ => ?_
  subst he
  exact hR v w' hp hb
/-- one op of a region: a value -/
theorem op_run {v : Value} {w' : World} (ho : ops[i]? = some o) (hw : Region.wanted o (yielded ops a.tmps) = true) (hr : (execOp a.eval o).run P w = .ok (.value v) w') (h : K (a.put o.dst v) w') : wpOp P ops Q i K a w := by
  unfold wpOp
  simp only [ho, hw, if_true]
  refine .inl ?_
  unfold Oper.wp
  rw [hr]
  exact h
/-- one op of a region: m[k] = v, in a map of the call's own -/
theorem op_insert {H : Type} {m x v : Operand} {t k e : TypeId} {R : Value → Option (DataW H × List MemPlace)} {b n : Nat} {D : DataW H} {key val : Value} {kl : Lit} {d : DataW H} {ps : List MemPlace}
    (ho : ops[i]? = some o) (hw : Region.wanted o (yielded ops a.tmps) = true) (hop : o.op = Op.insert t m x v) (Ky : Maps.Keyed P k) (ht : P.underlying t = some (.map k e)) (hm : a.eval m = .map (some b)) (hx : a.eval x = key) (hv : a.eval v = val)
    (hown : w.ownsMap P k R b n D) (hn : n < maxLen) (hkey : keyOf P k key = some kl) (hval : R val = some (d, ps))
    (hK : ∀ w', w'.ownsMap P k R b (n + 1) (D.put kl d) → w.grownBy w' (some b) → K (a.put o.dst undef) w') : wpOp P ops Q i K a w := by
  obtain ⟨w', hrun, r1, r2⟩ := hown.update Ky ht hn hkey hval
  unfold wpOp
  simp only [ho, hw, if_true]
  refine .inl ?_
  unfold Oper.wp
  simp [execOp, hop, hm, hx, hv, hrun, Result.andThen]
  exact hK _ r1 r2
end
theorem toB {a b : World} (h : a.grownBy b none) : Below a.heap.size a b := ⟨h.os, h.tape, h.output, h.size, fun i hi => h.block i hi (by simp)⟩
/-- an op that waits for all of the first n -/
theorem after_all {S : Nat → Bool} {es : Array Edge} (n : Nat) (hb : ∀ e ∈ es, Region.binds .any e = true → S e.on = true) (hc : ((List.range n).all fun j => es.toList.any fun e => e.on == j && Region.binds .any e) = true) : ∀ j, j < n → S j = true := by
  intro j hj
  have h1 := List.all_eq_true.1 hc j (List.mem_range.2 hj)
  obtain ⟨e, he, h2⟩ := List.any_eq_true.1 h1
  simp at h2
  have := hb e (Array.mem_toList_iff.1 he) h2.2
  rw [h2.1] at this
  exact this
/-- in a list of ops: a whole row's load -/
theorem wpList_load_row {P : Program} {ops : Array Oper} {rest : List Oper} {o : Oper} {a : Act} {w : World} {Q : Exit → Act → World → Prop} (ty : TypeId) (x : Operand) {b : Nat} {t : TypeId} {cs : Array Value} {d : TypeDesc}
    (hg : o.guard = none) (hop : o.op = .load ty x) (hx : a.eval x = .pointer (some ⟨b, 0, none⟩)) (hr : isRow w b t cs) (hu : P.underlying ty = some d) (hd : d.isRow = true) (hi : (P.info? ty).map (·.size) = some cs.size)
    (h : wpList P ops Q rest (a.put o.dst (.agg cs)) w) : wpList P ops Q (o :: rest) a w := by
  refine wpList_plain hg fun K' hK' => ?_
  have hrun := run_loadVar_mid (P := P) w b 0 ty cs.toList d (fun j u hj => by rw [Nat.zero_add, hr.cell]; simpa using hj) hu hd (by simpa using hi)
  unfold Oper.wp execOp
  simp only [hop, hx, Instr.loadAt, Instr.sureAddr, Sem.run_bind, Sem.run_pure, Result.andThen_ok, hrun]
  exact hK' _ _ h
/-- in a list of ops: a whole row's load, behind a guard that is on -/
theorem wpList_load_at {P : Program} {ops : Array Oper} {rest : List Oper} {o : Oper} {a : Act} {w : World} {Q : Exit → Act → World → Prop} (ty : TypeId) (x : Operand) {b : Nat} {t : TypeId} {cs : Array Value} {d : TypeDesc}
    (hw : Region.wanted o (yielded ops a.tmps) = true) (hop : o.op = .load ty x) (hx : a.eval x = .pointer (some ⟨b, 0, none⟩)) (hr : isRow w b t cs) (hu : P.underlying ty = some d) (hd : d.isRow = true) (hi : (P.info? ty).map (·.size) = some cs.size)
    (h : wpList P ops Q rest (a.put o.dst (.agg cs)) w) : wpList P ops Q (o :: rest) a w := by
  have hrun := run_loadVar_mid (P := P) w b 0 ty cs.toList d (fun j u hj => by rw [Nat.zero_add, hr.cell]; simpa using hj) hu hd (by simpa using hi)
  unfold wpList
  rw [if_pos hw]
  refine .inl ?_
  unfold Oper.wp execOp
  simp only [hop, hx, Instr.loadAt, Instr.sureAddr, Sem.run_bind, Sem.run_pure, Result.andThen_ok, hrun]
  exact h
/-- in a list of ops: a new variable, behind a name -/
theorem wpList_new {P : Program} {ops : Array Oper} {rest : List Oper} {o : Oper} {a : Act} {w : World} {Q : Exit → Act → World → Prop} (t : TypeId) (cs : Array Value) (hg : o.guard = none) (hop : o.op = .alloc t)
    (hrun : ∀ w : World, (Instr.alloc t true (.tuple #[])).run P w = .ok (.pointer (some ⟨w.heap.size, 0, none⟩)) (w.alloc (.cells cs t)))
    (h : ∀ W : World, isRow W w.heap.size t cs → w.grownBy W none → W.heap.size = w.heap.size + 1 → wpList P ops Q rest (a.put o.dst (.pointer (some ⟨w.heap.size, 0, none⟩))) W) : wpList P ops Q (o :: rest) a w := by
  refine wpList_plain hg fun K' hK' => ?_
  unfold Oper.wp execOp
  simp only [hop, Sem.run_bind, hrun, Result.andThen_ok]
  exact hK' _ _ (h _ (isRow.new w t cs) (World.grownBy_alloc _ _ _) (World.size_alloc _ _))
/-- in a list of ops: a struct's box, behind a name -/
theorem wpList_box {P : Program} {ops : Array Oper} {rest : List Oper} {o : Oper} {a : Act} {w : World} {Q : Exit → Act → World → Prop} (t : TypeId) (x : Operand) (cs : Array Value) (hg : o.guard = none) (hop : o.op = .box t x) (hx : a.eval x = .agg cs)
    (h : ∀ W : World, isRow W w.heap.size t cs → w.grownBy W none → W.heap.size = w.heap.size + 1 → wpList P ops Q rest (a.put o.dst (.pointer (some ⟨w.heap.size, 0, none⟩))) W) : wpList P ops Q (o :: rest) a w := by
  refine wpList_plain hg fun K' hK' => ?_
  have hrun : (Instr.box t (.agg cs)).run P w = .ok (.pointer (some ⟨w.heap.size, 0, none⟩)) (w.alloc (.cells cs t)) := rfl
  unfold Oper.wp execOp
  simp only [hop, hx, Sem.run_bind, hrun, Result.andThen_ok]
  exact hK' _ _ (h _ (isRow.new w t cs) (World.grownBy_alloc _ _ _) (World.size_alloc _ _))
/-- in a list of ops: a struct's store, behind a name -/
theorem wpList_store_row {P : Program} {ops : Array Oper} {rest : List Oper} {o : Oper} {a : Act} {w : World} {Q : Exit → Act → World → Prop} (ty : TypeId) (x y : Operand) (g off : Nat) {t : TypeId} {cs : Array Value} (vs : List Value)
    (hg : o.guard = none) (hop : o.op = .store ty x y) (hx : a.eval x = .pointer (some ⟨g, off, none⟩)) (hy : a.eval y = .agg vs.toArray)
    (hr : isRow w g t cs) (hl : off + vs.length ≤ cs.size) (hi : (P.info? ty).map (·.size) = some vs.length) (h1 : vs.all (·.oneCell') = true)
    (h : ∀ w', isRow w' g t (cs.toList.take off ++ vs ++ cs.toList.drop (off + vs.length)).toArray → w.grownBy w' (some g) → w'.heap.size = w.heap.size → wpList P ops Q rest (a.put o.dst undef) w') : wpList P ops Q (o :: rest) a w := by
  refine wpList_plain hg fun K' hK' => ?_
  have hrun := run_storeCells_at (P := P) g off t vs 0 cs w hr (by omega) (by simpa using h1)
  have hst : (Instr.storeAt ty (.pointer (some ⟨g, off, none⟩)) (.agg vs.toArray)).run P w = .ok () (w.setRow g (cs.toList.take off ++ vs ++ cs.toList.drop (off + vs.length)).toArray) := by
    cases hq : P.info? ty with
    | none => simp [hq] at hi
    | some i =>
      have hs : vs.length = i.size := by simp [hq] at hi; omega
      simp only [Nat.add_zero] at hrun
      simp only [Instr.storeAt, Instr.sureAddr, Sem.run_bind, Sem.run_pure, Result.andThen_ok]
      simp [storeVar, sizeOf, typeInfo, hq, Value.cells, hs]
      rw [hrun]
      simp [hs]
  unfold Oper.wp execOp
  simp only [hop, hx, hy, Sem.run_bind, hst, Result.andThen_ok]
  exact hK' _ _ (h _ (setRow_heap w g cs _ t _ hr) ⟨rfl, rfl, rfl, by simp [World.setRow], fun k _ hk => setRow_other w g k _ (fun e => hk (by rw [e]))⟩ (by simp [World.setRow]))
/-- in a list of ops: a cell's store, behind a name -/
theorem wpList_store1 {P : Program} {ops : Array Oper} {rest : List Oper} {o : Oper} {a : Act} {w : World} {Q : Exit → Act → World → Prop} (ty : TypeId) (x y : Operand) (g off : Nat) {t : TypeId} {cs : Array Value} (v : Value)
    (hg : o.guard = none) (hop : o.op = .store ty x y) (hx : a.eval x = .pointer (some ⟨g, off, none⟩)) (hy : a.eval y = v) (hv : v.cells = #[v]) (h1 : v.oneCell' = true)
    (hr : isRow w g t cs) (hl : off < cs.size) (hi : (P.info? ty).map (·.size) = some 1)
    (h : ∀ w', isRow w' g t (cs.setIfInBounds off v) → w.grownBy w' (some g) → w'.heap.size = w.heap.size → wpList P ops Q rest (a.put o.dst undef) w') : wpList P ops Q (o :: rest) a w := by
  refine wpList_plain hg fun K' hK' => ?_
  have hrun := run_storeCells_at (P := P) g off t [v] 0 cs w hr (by simp; omega) (by simpa using h1)
  have hst : (Instr.storeAt ty (.pointer (some ⟨g, off, none⟩)) v).run P w = .ok () (w.setRow g (cs.toList.take off ++ [v] ++ cs.toList.drop (off + 1)).toArray) := by
    cases hq : P.info? ty with
    | none => simp [hq] at hi
    | some i =>
      have hs : i.size = 1 := by simpa [hq] using hi
      simp only [Nat.add_zero] at hrun
      simp only [Instr.storeAt, Instr.sureAddr, Sem.run_bind, Sem.run_pure, Result.andThen_ok]
      simp [storeVar, sizeOf, typeInfo, hq, hs, hv]
      simp at hrun
      rw [hrun]
  have he : (cs.toList.take off ++ [v] ++ cs.toList.drop (off + 1)).toArray = cs.setIfInBounds off v := by
    apply Array.ext'
    simp [List.set_eq_take_append_cons_drop, hl]
  unfold Oper.wp execOp
  simp only [hop, hx, hy, Sem.run_bind, hst, Result.andThen_ok]
  exact hK' _ _ (h _ (he ▸ setRow_heap w g cs _ t _ hr) ⟨rfl, rfl, rfl, by simp [World.setRow], fun k _ hk => setRow_other w g k _ (fun e => hk (by rw [e]))⟩ (by simp [World.setRow]))
/-- two results: a struct in a cell of the call's own, and a plain one -/
theorem ret_row2 {P : Program} {fn : Func} {R : Ending → World → Prop} {a : Act} {w : World} {p q : Tmp} {ty t : TypeId} {g : Nat} {cs : Array Value} {d : TypeDesc} {v : Value} (h : fn.results = #[.cell p ty, .tmp q])
    (hp : a.tmps.getD p undef = .pointer (some ⟨g, 0, none⟩)) (hq : a.tmps.getD q undef = v) (hr : isRow w g t cs)
    (hu : P.underlying ty = some d) (hd : (match d with | .struct _ | .array _ _ => true | _ => false) = true) (hi : (P.info? ty).map (·.size) = some cs.size)
    (hdf : a.defers = []) (hR : R (.returned (.tuple #[.agg cs, v])) w) : bodyPost P fn R .ret a w := by
  refine bodyPost_ret ?_ hdf hR
  have hp' : a.tmps[p]?.getD undef = .pointer (some ⟨g, 0, none⟩) := by simpa using hp
  have hq' : a.tmps[q]?.getD undef = v := by simpa using hq
  simp [results, h, hp', hq', asAddr, run_loadVar_row w g t ty cs (0, 0) d hr hu hd hi]
/-- a scope whose gotos all go forward to one label: the rest is walked where the goto stands -/
theorem wp_scope_fwd {P : Program} {a : Act} {w : World} {Q : Exit → Act → World → Prop} {c rest : Code} (l : Nat) (hf : findLabel c l = some rest)
    (h : c.wp P (Exit.jump l (fun a w => rest.wp P (Exit.noGoto Q) a w) Q) a w) : (Code.scope c).wp P Q a w :=
  wp_scope_jumps l _ (fun _ _ => 0) hf h fun a w hJ => Code.wp_mono (fun e a w he => (by cases e <;> first | exact he | exact he.elim)) hJ
end Go.Proofs
