/- Regions that draw their order, where makes float beside calls: a fact about each operation's value, whatever the order. -/
import Derived.Test.YtknmfkdfiomicaaGreatDoorStep
namespace Go.Proofs
open Go.RowKit
/-- which operation writes the slot -/
def slotOf (Dl : List (Option Nat)) (t : Nat) : Option Nat := (Dl[t]?).getD none
def flowSlot (S : Nat → Bool) (vals : Nat → Value) (d : Option Nat) (u : Value) : Value :=
  match d with
  | some j => if S j then vals j else u
  | none => u
def flowFrame (Dl : List (Option Nat)) (base : List Value) (S : Nat → Bool) (vals : Nat → Value) : List Value := List.zipWith (flowSlot S vals) Dl base
def flowOK (ops : Array Oper) (Dl : List (Option Nat)) (n : Nat) : Bool :=
  Dl.length == n && ((List.range ops.size).all fun i => match (ops[i]?).bind (·.dst) with | some t => decide (t < n) && slotOf Dl t == some i | none => true) &&
    ((List.range n).all fun t => match slotOf Dl t with | some j => (ops[j]?).bind (·.dst) == some t | none => true)
def upd (vals : Nat → Value) (i : Nat) (v : Value) : Nat → Value := fun j => if j = i then v else vals j
section
variable {P : Program} {ops : Array Oper} {Q : Exit → Act → World → Prop} {Dl : List (Option Nat)} {base : List Value} {df : List Deferred}
theorem flowFrame_get {S : Nat → Bool} {vals : Nat → Value} (hl : Dl.length = base.length) (t : Nat) : (flowFrame Dl base S vals)[t]? = (base[t]?).map fun u => flowSlot S vals (slotOf Dl t) u := by
  unfold flowFrame slotOf
  rw [List.getElem?_zipWith]
  rcases Nat.lt_or_ge t base.length with h | h
  · rw [List.getElem?_eq_getElem h, List.getElem?_eq_getElem (by omega)]; rfl
  · rw [List.getElem?_eq_none h, List.getElem?_eq_none (by omega)]; rfl
theorem flow_put {S : Nat → Bool} {vals : Nat → Value} {i : Nat} {o : Oper} (hf : flowOK ops Dl base.length = true) (ho : ops[i]? = some o) (v : Value) :
    (⟨(flowFrame Dl base S vals).toArray, df⟩ : Act).put o.dst v = ⟨(flowFrame Dl base (fun j => S j || j == i) (upd vals i v)).toArray, df⟩ := by
  simp only [flowOK, Bool.and_eq_true, beq_iff_eq, List.all_eq_true, List.mem_range] at hf
  obtain ⟨⟨hl, h1⟩, h2⟩ := hf
  have hi := (Array.getElem?_eq_some_iff.1 ho).1
  have h1i := h1 i hi
  simp only [ho, Option.bind_some] at h1i
  have key : ∀ t, t < base.length → (slotOf Dl t = some i ↔ o.dst = some t) := by
    intro t ht
    constructor
    · intro h
      have := h2 t ht
      simpa [h, ho] using this
    · intro h
      simp only [h, Bool.and_eq_true, decide_eq_true_eq, beq_iff_eq] at h1i
      exact h1i.2
  have hslot : ∀ t u, t < base.length → o.dst ≠ some t → flowSlot (fun j => S j || j == i) (upd vals i v) (slotOf Dl t) u = flowSlot S vals (slotOf Dl t) u := by
    intro t u ht hne
    cases hs : slotOf Dl t with
    | none => rfl
    | some j =>
      have hji : j ≠ i := fun e => hne ((key t ht).1 (by rw [hs, e]))
      simp [flowSlot, upd, hji]
  unfold Act.put
  cases hd : o.dst with
  | none =>
    simp only
    congr 2
    apply List.ext_getElem?
    intro t
    rw [flowFrame_get hl, flowFrame_get hl]
    rcases Nat.lt_or_ge t base.length with h | h
    · rw [List.getElem?_eq_getElem h]
      simp only [Option.map_some]
      rw [hslot t _ h (by rw [hd]; simp)]
    · rw [List.getElem?_eq_none h]; rfl
  | some d =>
    simp only [List.setIfInBounds_toArray]
    congr 2
    apply List.ext_getElem?
    intro t
    have hlen : (flowFrame Dl base S vals).length = base.length := by unfold flowFrame; rw [List.length_zipWith]; omega
    rw [List.getElem?_set, flowFrame_get hl, flowFrame_get hl]
    by_cases hdt : d = t
    · subst hdt
      have hdn : d < base.length := by
        simp only [hd, Bool.and_eq_true, decide_eq_true_eq] at h1i
        exact h1i.1
      rw [if_pos rfl, if_pos (by rw [hlen]; exact hdn), List.getElem?_eq_getElem hdn]
      simp [flowSlot, (key d hdn).2 hd, upd]
    · rw [if_neg hdt]
      rcases Nat.lt_or_ge t base.length with h | h
      · rw [List.getElem?_eq_getElem h]
        simp only [Option.map_some]
        rw [hslot t _ h (by rw [hd]; simpa using hdt)]
      · rw [List.getElem?_eq_none h]; rfl
theorem flow_eval {S : Nat → Bool} {vals : Nat → Value} (hl : Dl.length = base.length) {t : Nat} (ht : t < base.length) :
    (⟨(flowFrame Dl base S vals).toArray, df⟩ : Act).eval (.tmp t) = flowSlot S vals (slotOf Dl t) base[t] := by
  unfold Act.eval
  simp only [Array.getD_eq_getD_getElem?, List.getElem?_toArray]
  rw [flowFrame_get hl, List.getElem?_eq_getElem ht]
  rfl
/-- WHATEVER ORDER, by a fact on each operation's value. -/
theorem wp_region_flow {id : Nat} {w : World} (Φ : Nat → Value → World → Prop) (Dl : List (Option Nat)) (base : List Value) (hm : P.follows .mixedOrders = true) (hf : (forwardOK ops && flowOK ops Dl base.length) = true)
    (step : ∀ (i : Nat) (o : Oper), ops[i]? = some o → ∀ (a : Act) (w1 : World) (vals : Nat → Value), Below w.heap.size w w1 →
      (∀ e ∈ o.after, Region.binds .any e = true → Φ e.on (vals e.on) w1 ∧ ∀ t, slotOf Dl t = some e.on → a.eval (.tmp t) = vals e.on) →
      (∀ t u, slotOf Dl t = none → base[t]? = some u → a.eval (.tmp t) = u) → (∀ j d, (ops[j]?).bind (·.dst) = some d → yielded ops a.tmps j = match a.eval (.tmp d) with | .bool b => some b | _ => none) →
      wpOp P ops Q i (fun a' w' => ∃ v, a' = a.put o.dst v ∧ Below w.heap.size w w' ∧ Φ i v w' ∧ ∀ j u, Φ j u w1 → Φ j u w') a w1)
    (fin : ∀ (vals : Nat → Value) (w1 : World), Below w.heap.size w w1 → (∀ j, j < ops.size → Φ j (vals j) w1) → Q .normal ⟨(List.zipWith (fun d u => match d with | some j => vals j | none => u) Dl base).toArray, df⟩ w1) :
    (Code.region id ops true).wp P Q ⟨base.toArray, df⟩ w := by
  simp only [Bool.and_eq_true] at hf
  obtain ⟨hf1, hf2⟩ := hf
  have hl : Dl.length = base.length := by
    simp only [flowOK, Bool.and_eq_true, beq_iff_eq] at hf2
    exact hf2.1.1
  have hkeys := hf2
  simp only [flowOK, Bool.and_eq_true, beq_iff_eq, List.all_eq_true, List.mem_range] at hkeys
  refine wp_region_inv (fun S a w1 => Below w.heap.size w w1 ∧ ∃ vals, a = ⟨(flowFrame Dl base S vals).toArray, df⟩ ∧ ∀ j, S j = true → Φ j (vals j) w1) hm hf1 ⟨(Below.refl _ _).drew, fun _ => undef, ?_, fun j h => by cases h⟩ ?_ ?_
  · congr 2
    apply List.ext_getElem?
    intro t
    rw [flowFrame_get hl]
    rcases Nat.lt_or_ge t base.length with h | h
    · rw [List.getElem?_eq_getElem h]
      simp only [Option.map_some]
      cases slotOf Dl t <;> rfl
    · rw [List.getElem?_eq_none h]; rfl
  · rintro S a w1 i o ho hS hb ⟨hB, vals, rfl, hΦ⟩
    refine wpOp_mono ?_ (step i o ho _ w1 vals hB (fun e he hbd => ⟨hΦ _ (hb e he hbd), fun t hs => ?_⟩) (fun t u hs hu => ?_) (fun j d hd => ?_))
    · rintro a' w' ⟨v, rfl, hB', hi, hmono⟩
      refine ⟨hB', upd vals i v, flow_put hf2 ho v, fun j hj => ?_⟩
      by_cases hji : j = i
      · subst hji; simpa [upd] using hi
      · simp [hji] at hj
        simpa [upd, hji] using hmono j _ (hΦ j hj)
    · have ht : t < base.length := by
        rcases Nat.lt_or_ge t Dl.length with h | h
        · omega
        · unfold slotOf at hs; rw [List.getElem?_eq_none h] at hs; cases hs
      rw [flow_eval hl ht, hs]
      simp [flowSlot, hb e he hbd]
    · obtain ⟨ht, hu⟩ := List.getElem?_eq_some_iff.1 hu
      rw [flow_eval hl ht, hs]
      exact hu
    · have hdn : d < base.length := by
        have hj : j < ops.size := by
          rcases Nat.lt_or_ge j ops.size with h | h
          · exact h
          · rw [Array.getElem?_eq_none h] at hd; cases hd
        have := hkeys.1.2 j hj
        simp only [hd, Bool.and_eq_true, decide_eq_true_eq] at this
        exact this.1
      unfold yielded
      rw [hd, flow_eval hl hdn]
      simp only [Option.bind_some, List.getElem?_toArray]
      rw [flowFrame_get hl, List.getElem?_eq_getElem hdn]
      simp only [Option.map_some]
      cases flowSlot S vals (slotOf Dl d) base[d] <;> rfl
  · rintro S a w1 hS ⟨hB, vals, rfl, hΦ⟩
    have := fin vals w1 hB (fun j hj => hΦ j (hS j hj))
    have he : flowFrame Dl base S vals = List.zipWith (fun d u => match d with | some j => vals j | none => u) Dl base := by
      apply List.ext_getElem?
      intro t
      rw [flowFrame_get hl, List.getElem?_zipWith]
      rcases Nat.lt_or_ge t base.length with h | h
      · rw [List.getElem?_eq_getElem h, List.getElem?_eq_getElem (by omega)]
        simp only [Option.map_some]
        have hs : slotOf Dl t = Dl[t] := by unfold slotOf; rw [List.getElem?_eq_getElem (by omega)]; rfl
        rw [← hs]
        cases hst : slotOf Dl t with
        | none => rfl
        | some j =>
          have h3 := hkeys.2 t h
          simp only [hst, beq_iff_eq] at h3
          have hj : j < ops.size := by
            rcases Nat.lt_or_ge j ops.size with h' | h'
            · exact h'
            · rw [Array.getElem?_eq_none h'] at h3; cases h3
          simp [flowSlot, hS j hj]
      · rw [List.getElem?_eq_none h, List.getElem?_eq_none (by omega)]; rfl
    rw [he]
    exact this
end
section
variable {P : Program} {ops : Array Oper} {Q : Exit → Act → World → Prop} {K : Act → World → Prop} {a : Act} {w : World} {o : Oper} {i : Nat}
theorem op_move {x : Operand} {v : Value} (ho : ops[i]? = some o) (hw : Region.wanted o (yielded ops a.tmps) = true) (hop : o.op = .move x) (hx : a.eval x = v) (h : K (a.put o.dst v) w) : wpOp P ops Q i K a w :=
  op_run ho hw (by unfold execOp; simp only [hop, hx]; rfl) h
theorem op_assign {x : Operand} {v : Value} (ho : ops[i]? = some o) (hw : Region.wanted o (yielded ops a.tmps) = true) (hop : o.op = .assign x) (hx : a.eval x = v) (h : K (a.put o.dst v) w) : wpOp P ops Q i K a w :=
  op_run ho hw (by unfold execOp; simp only [hop, hx]; rfl) h
theorem op_extract {x : Operand} {n : Nat} {v : Value} {vs : Array Value} (ho : ops[i]? = some o) (hw : Region.wanted o (yielded ops a.tmps) = true) (hop : o.op = .extract x n) (hx : a.eval x = .tuple vs)
    (hv : ∀ w : World, (Instr.extract (.tuple vs) n).run P w = .ok v w) (h : K (a.put o.dst v) w) : wpOp P ops Q i K a w :=
  op_run ho hw (by unfold execOp; simp only [hop, hx, Sem.run_bind, hv, Result.andThen_ok]; rfl) h
theorem op_make {t : TypeId} {l c : Operand} {n m : Nat} {cs : Array Value} {e : TypeId} (ho : ops[i]? = some o) (hw : Region.wanted o (yielded ops a.tmps) = true) (hop : o.op = .makeSlice t l c) (hx : a.eval l = .int .i64 n) (hy : a.eval c = .int .i64 m)
    (hrun : ∀ w : World, (Instr.makeSlice t (.int .i64 n) (.int .i64 m)).run P w = .ok (.slice (some ⟨w.heap.size, 0, none⟩) n m) (w.alloc (.cells cs e)))
    (h : K (a.put o.dst (.slice (some ⟨w.heap.size, 0, none⟩) n m)) (w.alloc (.cells cs e))) : wpOp P ops Q i K a w :=
  op_run ho hw (by unfold execOp; simp only [hop, hx, hy, Sem.run_bind, hrun, Result.andThen_ok]; rfl) h
theorem op_alloc {t : TypeId} {cs : Array Value} (ho : ops[i]? = some o) (hw : Region.wanted o (yielded ops a.tmps) = true) (hop : o.op = .alloc t)
    (hrun : ∀ w : World, (Instr.alloc t true (.tuple #[])).run P w = .ok (.pointer (some ⟨w.heap.size, 0, none⟩)) (w.alloc (.cells cs t)))
    (h : K (a.put o.dst (.pointer (some ⟨w.heap.size, 0, none⟩))) (w.alloc (.cells cs t))) : wpOp P ops Q i K a w :=
  op_run ho hw (by unfold execOp; simp only [hop, Sem.run_bind, hrun, Result.andThen_ok]; rfl) h
/-- a call whose one answer is known -/
theorem op_call1 {f : FuncId} {xs : Array Operand} {ts : Array TypeId} {args : List Value} {v0 : Value} (ho : ops[i]? = some o) (hw : Region.wanted o (yielded ops a.tmps) = true) (hop : o.op = .call { callee := .value (.func f), args := xs, argTypes := ts })
    (hcl : Callable P f) (hc : Calls P f args.toArray w fun e w' => e = .returned v0 ∧ Below w.heap.size w w') (hargs : xs.toList.map a.eval = args)
    (hR : ∀ w', Below w.heap.size w w' → K (a.put o.dst v0) w') : wpOp P ops Q i K a w :=
  op_call (p := fun v _ => v = v0) ho hw hop hcl (hc.mono fun _ _ ⟨he, hb⟩ => ⟨_, he, rfl, hb⟩) hargs fun _ w' hv hb => hv ▸ hR w' hb
/-- a whole row's load: in a region -/
theorem op_load_row {ty : TypeId} {x : Operand} {b : Nat} {t : TypeId} {cs : Array Value} {d : TypeDesc} (ho : ops[i]? = some o) (hw : Region.wanted o (yielded ops a.tmps) = true) (hop : o.op = .load ty x)
    (hx : a.eval x = .pointer (some ⟨b, 0, none⟩)) (hr : isRow w b t cs) (hu : P.underlying ty = some d) (hd : d.isRow = true) (hi : (P.info? ty).map (·.size) = some cs.size)
    (h : K (a.put o.dst (.agg cs)) w) : wpOp P ops Q i K a w := by
  have hrun := run_loadVar_mid (P := P) w b 0 ty cs.toList d (fun j u hj => by rw [Nat.zero_add, hr.cell]; simpa using hj) hu hd (by simpa using hi)
  refine op_run ho hw ?_ h
  unfold execOp
  simp only [hop, hx, Instr.loadAt, Instr.sureAddr, Sem.run_bind, Sem.run_pure, Result.andThen_ok, hrun]
/-- a struct's store: in a region -/
theorem op_store {ty : TypeId} {x y : Operand} {g off : Nat} {t : TypeId} {cs : Array Value} (vs : List Value) (ho : ops[i]? = some o) (hw : Region.wanted o (yielded ops a.tmps) = true) (hop : o.op = .store ty x y)
    (hx : a.eval x = .pointer (some ⟨g, off, none⟩)) (hy : a.eval y = .agg vs.toArray)
    (hr : isRow w g t cs) (hl : off + vs.length ≤ cs.size) (hi : (P.info? ty).map (·.size) = some vs.length) (h1 : vs.all (·.oneCell') = true)
    (h : ∀ w', isRow w' g t (cs.toList.take off ++ vs ++ cs.toList.drop (off + vs.length)).toArray → w.grownBy w' (some g) → w'.heap.size = w.heap.size → K (a.put o.dst undef) w') : wpOp P ops Q i K a w := by
  unfold wpOp
  simp only [ho, hw, if_true]
  refine .inl ?_
  have hrun := run_storeCells_at (P := P) g off t vs 0 cs w hr (by omega) (by simpa using h1)
  have hst : (Instr.storeAt ty (.pointer (some ⟨g, off, none⟩)) (.agg vs.toArray)).run P w = .ok () (w.setRow g (cs.toList.take off ++ vs ++ cs.toList.drop (off + vs.length)).toArray) := by
    cases hq : P.info? ty with
    | none => simp [hq] at hi
    | some i =>
      have hs : vs.length = i.size := by simp [hq] at hi; omega
      simp only [Nat.add_zero] at hrun
      simp only [Instr.storeAt, Instr.sureAddr, Sem.run_bind, Sem.run_pure, Result.andThen_ok]
      simp [storeVar, sizeOf, typeInfo, hq, Value.cells, hs]
      rw [hrun]
      simp [hs]
  unfold Oper.wp execOp
  simp only [hop, hx, hy, Sem.run_bind, hst, Result.andThen_ok]
  exact h _ (setRow_heap w g cs _ t _ hr) ⟨rfl, rfl, rfl, by simp [World.setRow], fun k _ hk => setRow_other w g k _ (fun e => hk (by rw [e]))⟩ (by simp [World.setRow])
end
end Go.Proofs
