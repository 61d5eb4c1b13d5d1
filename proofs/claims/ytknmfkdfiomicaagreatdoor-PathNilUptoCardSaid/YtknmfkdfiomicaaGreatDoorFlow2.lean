/- A stretch of a plan in which some operations float: a fact about each one's value, whatever the order. Appends onto a new empty slice. -/
import Derived.Test.YtknmfkdfiomicaaGreatDoorFlow
namespace Go.Proofs
open Go.RowKit
def flowOKs (ops : Array Oper) (Dl : List (Option Nat)) (n : Nat) (is : List Nat) : Bool :=
  Dl.length == n && (is.all fun i => match (ops[i]?).bind (·.dst) with | some t => decide (t < n) && slotOf Dl t == some i | none => true) &&
    ((List.range n).all fun t => match slotOf Dl t with | some j => is.contains j && (ops[j]?).bind (·.dst) == some t | none => true)
/-- for each operation of the stretch: what a step owes -/
def FlowSteps (P : Program) (ops : Array Oper) (Q : Exit → Act → World → Prop) (row : Option Nat) (is : List Nat) (Φ : Nat → Value → World → Prop) (Dl : List (Option Nat)) (base : List Value) (w : World) : List Nat → Prop
  | [] => True
  | i :: l => (∀ (o : Oper), ops[i]? = some o → ∀ (a' : Act) (w' : World) (vals : Nat → Value), w.grownBy w' row →
      (∀ j, (o.after.toList.any fun e => Region.binds .any e && e.on == j) = true → is.contains j = true → Φ j (vals j) w' ∧ ∀ t, slotOf Dl t = some j → a'.eval (.tmp t) = vals j) →
      (∀ t u, slotOf Dl t = none → base[t]? = some u → a'.eval (.tmp t) = u) → (∀ j d, (ops[j]?).bind (·.dst) = some d → yielded ops a'.tmps j = match a'.eval (.tmp d) with | .bool b => some b | _ => none) →
      wpOp P ops Q i (fun a'' w'' => ∃ v, a'' = a'.put o.dst v ∧ w.grownBy w'' row ∧ Φ i v w'' ∧ ∀ j u, is.contains j = true → Φ j u w' → Φ j u w'') a' w') ∧ FlowSteps P ops Q row is Φ Dl base w l
section
variable {P : Program} {ops : Array Oper} {Q : Exit → Act → World → Prop} {Dl : List (Option Nat)} {base : List Value} {df : List Deferred} {row : Option Nat}
theorem FlowSteps.get {is : List Nat} {Φ : Nat → Value → World → Prop} {w : World} : ∀ {l : List Nat}, FlowSteps P ops Q row is Φ Dl base w l → ∀ i, i ∈ l → ∀ (o : Oper), ops[i]? = some o → ∀ (a' : Act) (w' : World) (vals : Nat → Value), w.grownBy w' row →
      (∀ j, (o.after.toList.any fun e => Region.binds .any e && e.on == j) = true → is.contains j = true → Φ j (vals j) w' ∧ ∀ t, slotOf Dl t = some j → a'.eval (.tmp t) = vals j) →
      (∀ t u, slotOf Dl t = none → base[t]? = some u → a'.eval (.tmp t) = u) → (∀ j d, (ops[j]?).bind (·.dst) = some d → yielded ops a'.tmps j = match a'.eval (.tmp d) with | .bool b => some b | _ => none) →
      wpOp P ops Q i (fun a'' w'' => ∃ v, a'' = a'.put o.dst v ∧ w.grownBy w'' row ∧ Φ i v w'' ∧ ∀ j u, is.contains j = true → Φ j u w' → Φ j u w'') a' w'
  | [], _, i, hi => by cases hi
  | x :: l, h, i, hi => by
    rcases List.mem_cons.1 hi with rfl | hi
    · exact h.1
    · exact h.2.get i hi
theorem flow_put' {is : List Nat} {S : Nat → Bool} {vals : Nat → Value} {i : Nat} {o : Oper} (hf : flowOKs ops Dl base.length is = true) (ho : ops[i]? = some o) (hi : is.contains i = true) (v : Value) :
    (⟨(flowFrame Dl base S vals).toArray, df⟩ : Act).put o.dst v = ⟨(flowFrame Dl base (fun j => S j || j == i) (upd vals i v)).toArray, df⟩ := by
  simp only [flowOKs, Bool.and_eq_true, beq_iff_eq, List.all_eq_true, List.mem_range] at hf
  obtain ⟨⟨hl, h1⟩, h2⟩ := hf
  have h1i := h1 i (by simpa using hi)
  simp only [ho, Option.bind_some] at h1i
  have key : ∀ t, t < base.length → (slotOf Dl t = some i ↔ o.dst = some t) := by
    intro t ht
    constructor
    · intro h
      have := h2 t ht
      simp only [h, ho, Bool.and_eq_true, beq_iff_eq, Option.bind_some] at this
      exact this.2
    · intro h
      simp only [h, Bool.and_eq_true, decide_eq_true_eq, beq_iff_eq] at h1i
      exact h1i.2
  have hslot : ∀ t u, t < base.length → o.dst ≠ some t → flowSlot (fun j => S j || j == i) (upd vals i v) (slotOf Dl t) u = flowSlot S vals (slotOf Dl t) u := by
    intro t u ht hne
    cases hs : slotOf Dl t with
    | none => rfl
    | some j =>
      have hji : j ≠ i := fun e => hne ((key t ht).1 (by rw [hs, e]))
      simp [flowSlot, upd, hji]
  unfold Act.put
  cases hd : o.dst with
  | none =>
    simp only
    congr 2
    apply List.ext_getElem?
    intro t
    rw [flowFrame_get hl, flowFrame_get hl]
    rcases Nat.lt_or_ge t base.length with h | h
    · rw [List.getElem?_eq_getElem h]
      simp only [Option.map_some]
      rw [hslot t _ h (by rw [hd]; simp)]
    · rw [List.getElem?_eq_none h]; rfl
  | some d =>
    simp only [List.setIfInBounds_toArray]
    congr 2
    apply List.ext_getElem?
    intro t
    have hlen : (flowFrame Dl base S vals).length = base.length := by unfold flowFrame; rw [List.length_zipWith]; omega
    rw [List.getElem?_set, flowFrame_get hl, flowFrame_get hl]
    by_cases hdt : d = t
    · subst hdt
      have hdn : d < base.length := by
        simp only [hd, Bool.and_eq_true, decide_eq_true_eq] at h1i
        exact h1i.1
      rw [if_pos rfl, if_pos (by rw [hlen]; exact hdn), List.getElem?_eq_getElem hdn]
      simp [flowSlot, (key d hdn).2 hd, upd]
    · rw [if_neg hdt]
      rcases Nat.lt_or_ge t base.length with h | h
      · rw [List.getElem?_eq_getElem h]
        simp only [Option.map_some]
        rw [hslot t _ h (by rw [hd]; simpa using hdt)]
      · rw [List.getElem?_eq_none h]; rfl
theorem flow_dep {is : List Nat} {o : Oper} {S : Nat → Bool} (hb : ∀ e ∈ o.after, Region.binds .any e = true → is.contains e.on = true → S e.on = true) {j : Nat} (hj : (o.after.toList.any fun e => Region.binds .any e && e.on == j) = true) (hc : is.contains j = true) : S j = true := by
  obtain ⟨e, he, h⟩ := List.any_eq_true.1 hj
  simp only [Bool.and_eq_true, beq_iff_eq] at h
  obtain ⟨h1, rfl⟩ := h
  exact hb e (Array.mem_toList_iff.1 he) h1 hc
theorem plan_lastL {i : Nat} {rest : List Seg} {a : Act} {w : World} {o : Oper} (ho' : nth ops.toList i = some o) (h : wpList P ops (Exit.then (fun a' w' => planRun P ops Q row rest a' w') Q) [o] a w) : planRun P ops Q row (.last i :: rest) a w :=
  op_list (nth_ops ho') h
/-- A STRETCH THAT FLOATS, by a fact on each operation's value -/
theorem plan_flow {is : List Nat} {rest : List Seg} {w : World} (row' : Option Nat) (hrr : ∀ w' : World, w.grownBy w' row' → w.grownBy w' row) (Φ : Nat → Value → World → Prop) (Dl : List (Option Nat)) (base : List Value) (hlow : ((List.range ops.size).all fun j => match (ops[j]?).bind (·.dst) with | some d => decide (d < base.length) | none => true) = true) (hf : flowOKs ops Dl base.length is = true)
    (step : FlowSteps P ops (NoPanic Q) row' is Φ Dl base w is)
    (fin : ∀ (vals : Nat → Value) (w' : World), w.grownBy w' row' → (∀ j, is.contains j = true → Φ j (vals j) w') → planRun P ops (NoPanic Q) row rest ⟨(List.zipWith (fun d u => match d with | some j => vals j | none => u) Dl base).toArray, df⟩ w') :
    planRun P ops (NoPanic Q) row (.flow is :: rest) ⟨base.toArray, df⟩ w := by
  have hf0 := hf
  simp only [flowOKs, Bool.and_eq_true, beq_iff_eq, List.all_eq_true, List.mem_range] at hf
  obtain ⟨⟨hl, h1⟩, h2⟩ := hf
  refine ⟨fun S a' w' => w.grownBy w' row' ∧ ∃ vals, a' = ⟨(flowFrame Dl base S vals).toArray, df⟩ ∧ ∀ j, is.contains j = true → S j = true → Φ j (vals j) w', ⟨grownBy.refl' w row', fun _ => undef, ?_, fun j _ h => by cases h⟩, fun S a' w' h => hrr _ h.1, ?_, ?_⟩
  · congr 2
    apply List.ext_getElem?
    intro t
    rw [flowFrame_get hl]
    rcases Nat.lt_or_ge t base.length with h | h
    · rw [List.getElem?_eq_getElem h]
      simp only [Option.map_some]
      cases slotOf Dl t <;> rfl
    · rw [List.getElem?_eq_none h]; rfl
  · rintro S a' w' i o hi ho hS hb ⟨hB, vals, rfl, hΦ⟩
    refine wpOp_mono ?_ (step.get i (by simpa using hi) o ho _ w' vals hB (fun j hj hce => ⟨hΦ _ hce (flow_dep hb hj hce), fun t hs => ?_⟩) (fun t u hs hu => ?_) (fun j d hd => ?_))
    · rintro a'' w'' ⟨v, rfl, hB', hi', hmono⟩
      refine ⟨hB', upd vals i v, flow_put' hf0 ho hi v, fun j hcj hj => ?_⟩
      by_cases hji : j = i
      · subst hji; simpa [upd] using hi'
      · simp [hji] at hj
        simpa [upd, hji] using hmono j _ hcj (hΦ j hcj hj)
    · have ht : t < base.length := by
        rcases Nat.lt_or_ge t Dl.length with h | h
        · omega
        · unfold slotOf at hs; rw [List.getElem?_eq_none h] at hs; cases hs
      rw [flow_eval hl ht, hs]
      simp [flowSlot, flow_dep hb hj hce]
    · obtain ⟨ht, hu⟩ := List.getElem?_eq_some_iff.1 hu
      rw [flow_eval hl ht, hs]
      exact hu
    · have hdn : d < base.length := by
        have hj : j < ops.size := by
          rcases Nat.lt_or_ge j ops.size with h | h
          · exact h
          · rw [Array.getElem?_eq_none h] at hd; cases hd
        have := List.all_eq_true.1 hlow j (List.mem_range.2 hj)
        simpa [hd] using this
      unfold yielded
      rw [hd, flow_eval hl hdn]
      simp only [Option.bind_some, List.getElem?_toArray]
      rw [flowFrame_get hl, List.getElem?_eq_getElem hdn]
      simp only [Option.map_some]
      cases flowSlot S vals (slotOf Dl d) base[d] <;> rfl
  · rintro S a' w' hS ⟨hB, vals, rfl, hΦ⟩
    have := fin vals w' hB (fun j hj => hΦ j hj (hS j hj))
    have he : flowFrame Dl base S vals = List.zipWith (fun d u => match d with | some j => vals j | none => u) Dl base := by
      apply List.ext_getElem?
      intro t
      rw [flowFrame_get hl, List.getElem?_zipWith]
      rcases Nat.lt_or_ge t base.length with h | h
      · rw [List.getElem?_eq_getElem h, List.getElem?_eq_getElem (by omega)]
        simp only [Option.map_some]
        have hs : slotOf Dl t = Dl[t] := by unfold slotOf; rw [List.getElem?_eq_getElem (by omega)]; rfl
        rw [← hs]
        cases hst : slotOf Dl t with
        | none => rfl
        | some j =>
          have h3 := h2 t h
          simp only [hst, Bool.and_eq_true, beq_iff_eq] at h3
          simp [flowSlot, hS j h3.1]
      · rw [List.getElem?_eq_none h, List.getElem?_eq_none (by omega)]; rfl
    rw [he]
    exact this
end
section
variable {P : Program} {w : World}
/-- append onto a new empty slice: a copy in new memory -/
theorem run_append_fresh (t ty e : TypeId) (i : TypeInfo) (z : Value) (size bytes : Nat) (ht : P.underlying t = some (.slice e)) (hi : P.info? e = some i) (hz : i.zero = some z)
    (hsize : i.size = size) (hby : i.bytes = bytes) (hzs : z.cells.size = size) (hsz : 0 < size) (g : Addr)
    (A : Option Addr) (m c : Nat) (news : List Value) (hr : Row w size (.slice A m c) m news) (hbytes : m * bytes ≤ 140737488355328) :
    ∃ v' w', (Builtin.append_ #[t, t] ty #[.slice (some g) 0 0, .slice A m c]).run P w = .ok v' w' ∧ Row w' size v' m news ∧ w.grownBy w' none := by
  obtain ⟨hl, hm, A', c', hv, hc, hA⟩ := hr
  simp only [Value.slice.injEq] at hv
  obtain ⟨rfl, _, rfl⟩ := hv
  have h63 : m ≤ 9223372036854775807 := by simp only [maxLen] at hm; omega
  subst hsize
  subst hby
  rcases Nat.eq_zero_or_pos m with h0 | h0
  · subst h0
    have hn : news = [] := List.eq_nil_of_length_eq_zero (by simpa using hl)
    subst hn
    refine ⟨.slice (some g) 0 0, w, ?_, ⟨by simp, Nat.zero_le _, _, _, rfl, Nat.le_refl _, fun h => absurd h (Nat.lt_irrefl 0)⟩, grownBy.refl' _ _⟩
    cases A with
    | none => simp [Builtin.append_, run_underlying ht, sizeOf, typeInfo, hi, Builtin.lenOf, Builtin.firstCells, storeCells]
    | some a => simp [Builtin.append_, run_underlying ht, sizeOf, typeInfo, hi, Builtin.lenOf, Builtin.firstCells, loadCells, loadCellsFrom, storeCells]
  · obtain ⟨a, rfl, hlt, hcell⟩ := hA h0
    have hrun := run_append_grow (P := P) w t ty e i z ht hi hz g 0 0 [] (by simp) (by simp) a m c news hl hcell (by omega) (by omega) (growslice_fits (by omega) (by simpa using hbytes))
    simp only [Nat.zero_add] at hrun
    refine ⟨_, _, hrun, ?_, ⟨rfl, rfl, rfl, by simp, fun k hk _ => Below.heap_alloc w.drew _ k hk⟩⟩
    have hcap := grownCap_ge w m 0 e
    refine ⟨hl, hm, _, _, rfl, hcap, fun _ => ⟨_, rfl, by simp, fun j u hu => ?_⟩⟩
    rw [add_plain', Nat.zero_add]
    have hin := (List.getElem?_eq_some_iff.1 hu).1
    have hb := heap_alloc_new w.drew (.cells (([] : List Value).toArray ++ news.toArray ++ Builtin.zeroCells z.cells (grownCap w m 0 e - m)) e)
    rw [World.size_drew] at hb
    simp only [World.cell?, hb]
    simp only [List.append_toArray, List.nil_append, Array.getElem?_append, List.size_toArray, hin, if_true, List.getElem?_toArray]
    exact hu
end
section
variable {P : Program} {ops : Array Oper} {Q : Exit → Act → World → Prop} {K : Act → World → Prop} {a : Act} {w : World} {o : Oper} {i : Nat}
theorem op_append_fresh {s x : Operand} {t e : TypeId} {inf : TypeInfo} {z : Value} {size bytes : Nat} {g : Addr} {A : Option Addr} {m c : Nat} {news : List Value}
    (ho : ops[i]? = some o) (hw : Region.wanted o (yielded ops a.tmps) = true) (hop : o.op = .call { callee := .builtin .append, args := #[s, x], argTypes := #[t, t] })
    (ht : P.underlying t = some (.slice e)) (hi : P.info? e = some inf) (hz : inf.zero = some z) (hsize : inf.size = size) (hby : inf.bytes = bytes) (hzs : z.cells.size = size) (hsz : 0 < size)
    (hs : a.eval s = .slice (some g) 0 0) (hx : a.eval x = .slice A m c) (hr : Row w size (.slice A m c) m news) (hbytes : m * bytes ≤ 140737488355328)
    (h : ∀ v' w', Row w' size v' m news → w.grownBy w' none → K (a.put o.dst v') w') : wpOp P ops Q i K a w := by
  obtain ⟨v', w', hrun, h2, h3⟩ := run_append_fresh (P := P) t o.type e inf z size bytes ht hi hz hsize hby hzs hsz g A m c news hr hbytes
  refine op_run ho hw (v := v') (w' := w') ?_ (h v' w' h2 h3)
  unfold execOp
  simp only [hop, resolve, invoke, builtin, Sem.run_bind, Sem.run_pure, Result.andThen_ok, List.map_toArray, List.map_cons, List.map_nil, hs, hx, hrun]
theorem op_buildSlice {t : TypeId} {n : Nat} {xs : Array (Nat × Operand)} {v : World → Value} {cs : Array Value} {e : TypeId} {vs : Array (Nat × Value)} (ho : ops[i]? = some o) (hw : Region.wanted o (yielded ops a.tmps) = true) (hop : o.op = .buildSlice t n xs)
    (hx : xs.map (fun (k, x) => (k, a.eval x)) = vs)
    (hrun : ∀ w : World, (Instr.buildSlice t n vs).run P w = .ok (v w) (w.alloc (.cells cs e)))
    (h : K (a.put o.dst (v w)) (w.alloc (.cells cs e))) : wpOp P ops Q i K a w :=
  op_run ho hw (by unfold execOp; subst hx; simp only [hop, Sem.run_bind]; rw [hrun]; rfl) h
end
end Go.Proofs
