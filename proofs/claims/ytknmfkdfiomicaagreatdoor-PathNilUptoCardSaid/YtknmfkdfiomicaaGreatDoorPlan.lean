import Derived.Test.YtknmfkdfiomicaaGreatDoorV
import Derived.OrdersHeld
import Derived.Deep.Quiet
import Derived.Deep.RegionHeld3
namespace Go.Proofs
open Go.RowKit

theorem grownBy.refl' (w : World) (row : Option Nat) : w.grownBy w row := ⟨rfl, rfl, rfl, Nat.le_refl _, fun _ _ _ => rfl⟩
theorem grownBy.trans' {a b c : World} {row : Option Nat} (h : a.grownBy b row) (k : b.grownBy c row) : a.grownBy c row :=
  ⟨k.os.trans h.os, k.tape.trans h.tape, k.output.trans h.output, Nat.le_trans h.size k.size,
   fun i hi hr => (k.block i (Nat.lt_of_lt_of_le hi h.size) hr).trans (h.block i hi hr)⟩

open Classical in
/-- A world that has come of 'w', nothing that was there having changed but block 'row'. -/
noncomputable def later (row : Option Nat) (w x : World) : World := if w.grownBy x row then x else w
theorem later_grown (row : Option Nat) (w x : World) : w.grownBy (later row w x) row := by
  unfold later; split
  · assumption
  · exact grownBy.refl' w row
theorem later_of {row : Option Nat} {w x : World} (h : w.grownBy x row) : later row w x = x := if_pos h
theorem later_cell {row : Option Nat} {w : World} {p : Addr} {u : Value} (h : w.cell? p = some u) (hr : some p.block ≠ row) (x : World) : (later row w x).cell? p = some u :=
  (later_grown row w x).cell h hr

inductive Seg where
  | quiet (is : List Nat)
  | eff (i : Nat)
  | last (i : Nat)
  | flow (is : List Nat)

section
variable (P : Program) (ops : Array Oper) (Q : Exit → Act → World → Prop) (row : Option Nat)
def planRun : List Seg → Act → World → Prop
  | [], a, w => Q .normal a w
  | .quiet is :: rest, a, w => wpQuiet P ops (fun w' => ∃ x, w' = later row w x) (fun a' => planRun rest a' w) (is.filterMap (ops[·]?)) a
  | .eff i :: rest, a, w => wpOp P ops Q i (fun a' w' => w.grownBy w' row ∧ planRun rest a' w') a w
  | .last i :: rest, a, w => wpOp P ops Q i (fun a' w' => planRun rest a' w') a w
  | .flow is :: rest, a, w => ∃ I : (Nat → Bool) → Act → World → Prop, I (fun _ => false) a w ∧ (∀ S a' w', I S a' w' → w.grownBy w' row) ∧
      (∀ S a' w' i o, is.contains i = true → ops[i]? = some o → S i = false → (∀ e ∈ o.after, Region.binds .any e = true → is.contains e.on = true → S e.on = true) → I S a' w' →
        wpOp P ops Q i (fun a'' w'' => I (fun j => S j || j == i) a'' w'') a' w') ∧
      (∀ S a' w', (∀ i, is.contains i = true → S i = true) → I S a' w' → planRun rest a' w')

def edgeAny (j : Nat) (p : Nat → Bool) : Bool := ((ops[j]?).map fun o => o.after.any fun e => Region.binds .any e && p e.on).getD false
def coveredBy (is : List Nat) : Nat → Nat → Nat → Bool
  | 0, _, _ => false
  | f + 1, j, i => edgeAny ops j fun t => t == i || (is.contains t && coveredBy is f t i)
def flowSegOK (is : List Nat) (listed : Array Bool) : Bool :=
  (is.all fun i => decide (i < ops.size) && !listed.getD i true && !edgeAny ops i fun t => !(listed.getD t false || (is.contains t && decide (t < i)))) && decide is.Nodup && listed.size == ops.size &&
    (List.range ops.size).all fun j => listed.getD j true || is.contains j || (edgeAny ops j fun t => !listed.getD t true && !is.contains t) || is.all fun i => coveredBy ops is is.length j i

def quietOK : List Nat → Array Bool → Bool
  | [], _ => true
  | i :: is, listed => decide (i < ops.size) && Region.free .any ops listed i && (Region.ready .any ops listed).contains i && quietOK is (listed.setIfInBounds i true)
def marked : List Nat → Array Bool → Array Bool
  | [], listed => listed
  | i :: is, listed => marked is (listed.setIfInBounds i true)
/-- 'late': only forced operations are still to come. -/
def planOK : List Seg → Bool → Array Bool → Bool
  | [], _, listed => Region.ready .any ops listed == []
  | .quiet is :: rest, late, listed => !late && quietOK ops is listed && planOK rest late (marked is listed)
  | .eff i :: rest, late, listed => !late && Region.ready .any ops listed == [i] && planOK rest late (listed.setIfInBounds i true)
  | .last i :: rest, _, listed => Region.ready .any ops listed == [i] && planOK rest true (listed.setIfInBounds i true)
  | .flow is :: rest, late, listed => !late && flowSegOK ops is listed && planOK rest late (marked is listed)
def planLen : List Seg → Nat
  | [] => 0
  | .quiet is :: rest => is.length + planLen rest
  | .eff _ :: rest => 1 + planLen rest
  | .last _ :: rest => 1 + planLen rest
  | .flow is :: rest => is.length + planLen rest
end

section
variable {P : Program} {ops : Array Oper} {Q : Exit → Act → World → Prop} {row : Option Nat}


/-- Whatever order is picked from here on; behind each operation that is 'early' S holds. -/
def wpAnyG (P : Program) (ops : Array Oper) (Q : Exit → Act → World → Prop) (early : Nat → Bool) (S : World → Prop) : Nat → Array Bool → Act → World → Prop
  | 0, listed, a, w => Region.ready .any ops listed = [] ∧ Q .normal a w
  | fuel + 1, listed, a, w =>
    (Region.ready .any ops listed = [] → Q .normal a w) ∧
    ∀ i ∈ Region.ready .any ops listed, wpOp P ops Q i (fun a' w' => (early i = true → S w') ∧ wpAnyG P ops Q early S fuel (listed.setIfInBounds i true) a' w') a w

theorem wpAny_of_G {early : Nat → Bool} {S : World → Prop} : ∀ (fuel : Nat) (listed : Array Bool) (a : Act) (w : World), wpAnyG P ops Q early S fuel listed a w → wpAny P .any ops Q fuel listed a w
  | 0, _, _, _, h => h
  | fuel + 1, _, _, _, h => ⟨h.1, fun i hi => wpOp_mono (fun a' w' h' => wpAny_of_G fuel _ a' w' h'.2) (h.2 i hi)⟩

theorem wpAnyG_mono {early : Nat → Bool} {S S' : World → Prop} (hS : ∀ w, S w → S' w) : ∀ (fuel : Nat) (listed : Array Bool) (a : Act) (w : World),
    wpAnyG P ops Q early S fuel listed a w → wpAnyG P ops Q early S' fuel listed a w
  | 0, _, _, _, h => h
  | fuel + 1, _, _, _, h => ⟨h.1, fun i hi => wpOp_mono (fun a' w' h' => ⟨fun he => hS _ (h'.1 he), wpAnyG_mono hS fuel _ a' w' h'.2⟩) (h.2 i hi)⟩

/-- Every operation that is not early waits for every one that is. -/
def lateOK (ops : Array Oper) (early : Nat → Bool) : Bool :=
  (List.range ops.size).all fun j => early j || ((List.range ops.size).all fun i => !early i || ((ops[j]?).map fun o => o.after.any fun e => Region.binds .any e && e.on == i).getD false)

theorem lateOK_spec {early : Nat → Bool} (h : lateOK ops early = true) {listed : Array Bool} {i j : Nat} (hi : i ∈ Region.ready .any ops listed) (he : early i = true)
    (hj : j ∈ Region.ready .any ops listed) : early j = true := by
  by_cases hej : early j = true
  · exact hej
  exfalso
  obtain ⟨_, oj, hoj, hall⟩ := mem_ready.1 hj
  obtain ⟨hun, oi, hoi, _⟩ := mem_ready.1 hi
  have hjs : j < ops.size := (Array.getElem?_eq_some_iff.1 hoj).1
  have his : i < ops.size := (Array.getElem?_eq_some_iff.1 hoi).1
  simp only [lateOK, List.all_eq_true, List.mem_range] at h
  have h1 := h j hjs
  simp only [hej, Bool.false_or, List.all_eq_true, List.mem_range] at h1
  have h2 := h1 i his
  simp only [he, Bool.not_true, Bool.false_or, hoj, Option.map_some, Option.getD_some] at h2
  obtain ⟨e, hemem, hb⟩ := Array.any_eq_true'.1 h2
  simp only [Bool.and_eq_true, beq_iff_eq] at hb
  have h3 := hall e hemem hb.1
  rw [hb.2] at h3
  rcases Nat.lt_or_ge i listed.size with h' | h'
  · simp [h'] at hun h3; rw [hun] at h3; cases h3
  · simp [Array.getElem?_eq_none h'] at h3

theorem wpAnyG_first {early : Nat → Bool} {S : World → Prop} (hlate : lateOK ops early = true) {i : Nat} {oi : Oper} {v : Value} (hi : ops[i]? = some oi) (hei : early i = true)
    (hsel : ∀ (j : Nat) (o : Oper) cs b, ops[j]? = some o → o.op ≠ .select cs b)
    (hQ : ∀ c a w, Q (.panic c) (a.put oi.dst v) w → Q (.panic c) a w) :
    ∀ (fuel : Nat) (listed : Array Bool) (a : Act) (w : World),
      (∀ j oj, ops[j]? = some oj → j ≠ i → listed.getD j true = false → (∀ e ∈ oj.after, Region.binds .any e = true → e.on ≠ i) → oi.apart ops oj = true) →
      i ∈ Region.ready .any ops listed → YieldsIf P ops S oi v a → S w →
      wpAnyG P ops Q early S fuel (listed.setIfInBounds i true) (a.put oi.dst v) w → wpAnyG P ops Q early S (fuel + 1) listed a w := by
  intro fuel
  induction fuel with
  | zero =>
    intro listed a w _ hr hy hS H
    refine ⟨fun h => (by rw [h] at hr; cases hr), fun j hj => ?_⟩
    by_cases hji : j = i
    · subst hji; exact hy.wpOp hi hS ⟨fun _ => hS, H⟩
    · have := ready_mono hj hji
      rw [H.1] at this
      cases this
  | succ fuel ih =>
    intro listed a w hfree hr hy hS H
    refine ⟨fun h => (by rw [h] at hr; cases hr), fun j hj => ?_⟩
    by_cases hji : j = i
    · subst hji; exact hy.wpOp hi hS ⟨fun _ => hS, H⟩
    · have h1 := H.2 j (ready_mono hj hji)
      obtain ⟨hjun, oj, hoj, hall⟩ := mem_ready.1 hj
      have hej : early j = true := lateOK_spec hlate hr hei hj
      have hnot : ∀ e ∈ oj.after, Region.binds .any e = true → e.on ≠ i := fun e he hb heq => by
        have h1 := hall e he hb
        have h0 := (mem_ready.1 hr).1
        rw [heq] at h1
        rcases Nat.lt_or_ge i listed.size with h' | h'
        · simp [h'] at h0 h1; rw [h0] at h1; cases h1
        · simp [Array.getElem?_eq_none h'] at h1
      have h2 := wpOp_putIf hoj (hfree j oj hoj hji hjun hnot) (fun cs b => hsel i oi cs b hi) (fun cs b => hsel j oj cs b hoj) hQ hy h1
      have hfree' : ∀ k ok, ops[k]? = some ok → k ≠ i → (listed.setIfInBounds j true).getD k true = false →
          (∀ e ∈ ok.after, Region.binds .any e = true → e.on ≠ i) → oi.apart ops ok = true := fun k ok hk hki hun hno => by
        refine hfree k ok hk hki ?_ hno
        by_cases hjk : j = k
        · subst hjk; exact hjun
        · rw [getD_set_ne true hjk] at hun; exact hun
      refine wpOp_mono (fun a' w' h3 => ⟨fun _ => h3.2.1 hej, ih (listed.setIfInBounds j true) a' w' hfree' (ready_mono hr (Ne.symm hji)) h3.1 (h3.2.1 hej) ?_⟩) h2
      rw [Array.setIfInBounds_comm _ _ hji]
      exact h3.2.2

/-- The class of worlds that come of w. -/
def LC (row : Option Nat) (w : World) : World → Prop := fun w' => w.grownBy w' row

/-- Operations that hand back a value or halt: no call, no store. -/
def valueOp : Op → Bool
  | .move _ | .assign _ | .pick .. | .alloc _ | .box .. | .build .. | .buildSlice .. | .load .. | .waits _ | .nilCheck _ | .binOp .. | .unOp .. | .convert ..
  | .makeInterface .. | .makeFunc .. | .slice .. | .fieldAddr .. | .field .. | .indexAddr .. | .index .. | .lookup .. | .typeAssert .. | .extract .. => true
  | .call { callee := .builtin .len, .. } | .call { callee := .builtin .cap, .. } | .call { callee := .builtin .real, .. } | .call { callee := .builtin .imag, .. } => true
  | _ => false

theorem run_v (s : Sem Value) (w : World) : ∀ n w', (do pure (Next.value (← s)) : Sem Next).run P w = .ok n w' → ∃ u, n = .value u := by
  intro n w' h
  simp only [Sem.run_bind] at h
  cases hs : s.run P w with
  | ok x w1 => simp [hs] at h; exact ⟨x, h.1.symm⟩
  | halt x w1 => simp [hs] at h

theorem valueOp_spec {o : Oper} (ho : valueOp o.op = true) (ρ : Operand → Value) (w : World) : ∀ n w', (execOp ρ o).run P w = .ok n w' → ∃ u, n = .value u := by
  intro n w' h
  obtain ⟨dst, op, type, pos, after, guard⟩ := o
  simp only at ho
  cases op
  case move => simp [execOp] at h; exact ⟨_, h.1.symm⟩
  case assign => simp [execOp] at h; exact ⟨_, h.1.symm⟩
  case pick c a b =>
    simp only [execOp, Sem.run_bind] at h
    cases hs : (asBool (ρ c)).run P w with
    | ok x w1 => simp [hs] at h; exact ⟨_, h.1.symm⟩
    | halt x w1 => simp [hs] at h
  case nilCheck x =>
    simp only [execOp] at h
    generalize ρ x = vx at h
    split at h
    · simp [runtimePanic] at h
    · simp [runtimePanic] at h
    · simp [runtimePanic] at h
    · split at h
      · simp [runtimePanic] at h
      · simp only [Sem.run_bind] at h
        generalize Sem.run P program w = r0 at h
        cases r0 with
        | halt x w1 => simp at h
        | ok p w1 =>
          simp only [Result.andThen_ok] at h
          generalize Sem.run P (nilAhead _ _ _ _) w1 = r1 at h
          cases r1 with
          | halt x w2 => simp at h
          | ok b w2 =>
            simp only [Result.andThen_ok] at h
            split at h
            · simp [unsupported] at h
            · simp at h; exact ⟨_, h.1.symm⟩
      · simp at h; exact ⟨_, h.1.symm⟩
    · simp at h; exact ⟨_, h.1.symm⟩
  case call c =>
    obtain ⟨callee, args, argTypes⟩ := c
    cases callee
    case builtin b =>
      cases b <;> simp only [valueOp, Bool.false_eq_true] at ho
      all_goals
        simp only [execOp, resolve, invoke, Sem.run_bind, Sem.run_pure, Result.andThen_ok, builtin] at h
        generalize Sem.run P _ w = r at h
        cases r with
        | ok x w1 => simp at h; exact ⟨_, h.1.symm⟩
        | halt x w1 => simp at h
    all_goals simp [valueOp] at ho
  all_goals first
    | exact run_v _ w n w' h
    | (simp [valueOp] at ho; done)

theorem quiet_yields {o : Oper} (ho : valueOp o.op = true) {v : Value} {a : Act} {w : World}
    (h : ∀ w', (∃ x, w' = later row w x) → o.quietAt P a (fun w' => ∃ x, w' = later row w x) w' v)
    (hwt : Region.wanted o (yielded ops a.tmps) = true) : YieldsIf P ops (LC row w) o v a := by
  refine .inl ⟨hwt, fun w' hw' => ?_⟩
  have hq := h w' ⟨w', (later_of hw').symm⟩
  unfold Oper.quietAt at hq
  have h1 := valueOp_spec (P := P) ho a.eval w'
  generalize (execOp a.eval o).run P w' = r at hq h1
  cases r with
  | ok n w'' =>
    obtain ⟨u, rfl⟩ := h1 n w'' rfl
    simp only [Oper.quietUpon] at hq
    obtain ⟨rfl, rfl⟩ := hq; rfl
  | halt x w'' => cases x <;> simp only [Oper.quietUpon] at hq

def valuesOK (ops : Array Oper) (is : List Nat) : Bool := is.all fun i => ((ops[i]?).map fun o => valueOp o.op).getD false

theorem wpAnyG_quiet {early : Nat → Bool} (hlate : lateOK ops early = true) (hs : Region.noSelect ops = true) {w : World} {fuel : Nat} {Q' : Act → Prop} : ∀ (is : List Nat) (listed : Array Bool) (a : Act),
    quietOK ops is listed = true → valuesOK ops is = true → is.all early = true →
    wpQuiet P ops (fun w' => ∃ x, w' = later row w x) Q' (is.filterMap (ops[·]?)) a →
    (∀ a', Q' a' → wpAnyG P ops (NoPanic Q) early (LC row w) fuel (marked is listed) a' w) →
    wpAnyG P ops (NoPanic Q) early (LC row w) (is.length + fuel) listed a w
  | [], listed, a, _, _, _, h, hk => by
    rw [show ([] : List Nat).length + fuel = fuel from Nat.zero_add _]
    exact hk a h
  | i :: is, listed, a, hok, hv, hea, h, hk => by
    simp only [quietOK, Bool.and_eq_true, decide_eq_true_eq] at hok
    obtain ⟨⟨⟨hi, hf⟩, hr⟩, hrest⟩ := hok
    have hi' : ops[i]? = some ops[i] := Array.getElem?_eq_getElem hi
    simp only [valuesOK, List.all_cons, hi', Option.map_some, Option.getD_some, Bool.and_eq_true] at hv
    simp only [List.all_cons, Bool.and_eq_true] at hea
    simp only [List.filterMap_cons, hi'] at h
    rw [show (i :: is).length + fuel = (is.length + fuel) + 1 by simp; omega]
    unfold wpQuiet at h
    by_cases hw : Region.wanted ops[i] (yielded ops a.tmps) = true
    · rw [if_pos hw] at h
      obtain ⟨v, hq, hn⟩ := h
      exact wpAnyG_first hlate hi' hea.1 (Region.noSelect_spec hs) (fun _ _ _ h => h) _ _ _ _ (Region.free_spec hi' hf) (by simpa using hr) (quiet_yields hv.1 hq hw) (grownBy.refl' w row)
        (wpAnyG_quiet hlate hs is _ _ hrest hv.2 hea.2 hn hk)
    · rw [if_neg hw] at h
      exact wpAnyG_first hlate hi' hea.1 (Region.noSelect_spec hs) (fun _ _ _ h => h) _ _ _ _ (Region.free_spec hi' hf) (by simpa using hr) (.inr ⟨by simpa using hw, rfl⟩) (grownBy.refl' w row)
        (wpAnyG_quiet hlate hs is _ _ hrest hv.2 hea.2 h hk)


def segsOK (ops : Array Oper) (early : Nat → Bool) : List Seg → Bool
  | [] => true
  | .quiet is :: rest => valuesOK ops is && is.all early && segsOK ops early rest
  | .eff i :: rest => early i && segsOK ops early rest
  | .last i :: rest => !early i && segsOK ops early rest
  | .flow is :: rest => is.all early && segsOK ops early rest

theorem wpAnyG_late {early : Nat → Bool} {S : World → Prop} : ∀ (l : List Seg) (listed : Array Bool) (a : Act) (w : World),
    planOK ops l true listed = true → segsOK ops early l = true → planRun P ops (NoPanic Q) row l a w → wpAnyG P ops (NoPanic Q) early S (planLen l) listed a w
  | [], listed, a, w, hok, hv, h => by
    simp only [planOK, beq_iff_eq] at hok
    exact ⟨hok, h⟩
  | .quiet is :: rest, listed, a, w, hok, hv, h => by simp [planOK] at hok
  | .eff i :: rest, listed, a, w, hok, hv, h => by simp [planOK] at hok
  | .flow is :: rest, listed, a, w, hok, hv, h => by simp [planOK] at hok
  | .last i :: rest, listed, a, w, hok, hv, h => by
    simp only [planOK, Bool.and_eq_true, beq_iff_eq] at hok
    simp only [segsOK, Bool.and_eq_true, Bool.not_eq_true'] at hv
    rw [show planLen (Seg.last i :: rest) = planLen rest + 1 by simp [planLen]; omega]
    refine ⟨fun h0 => (by rw [hok.1] at h0; cases h0), fun j hj => ?_⟩
    have : j = i := by rw [hok.1] at hj; simpa using hj
    subst this
    exact wpOp_mono (fun a' w' h' => ⟨fun he => (by rw [hv.1] at he; cases he), wpAnyG_late rest _ a' w' hok.2 hv.2 h'⟩) h

theorem marked_size : ∀ (is : List Nat) (listed : Array Bool), (marked is listed).size = listed.size
  | [], _ => rfl
  | i :: is, listed => by simp [marked, marked_size is]
theorem marked_get : ∀ (is : List Nat) (listed : Array Bool) (j : Nat), j < listed.size → (marked is listed).getD j true = (listed.getD j true || is.contains j)
  | [], listed, j, _ => by simp [marked]
  | i :: is, listed, j, hj => by
    rw [marked, marked_get is _ j (by simpa using hj)]
    by_cases hij : i = j
    · subst hij; simp [hj]
    · rw [getD_set_ne true hij]
      have : decide (j = i) = false := by simp; exact fun h => hij h.symm
      simp [this]
theorem edgeAny_spec {j : Nat} {o : Oper} {p : Nat → Bool} (ho : ops[j]? = some o) : edgeAny ops j p = true ↔ ∃ e ∈ o.after, Region.binds .any e = true ∧ p e.on = true := by
  unfold edgeAny
  rw [ho]
  simp only [Option.map_some, Option.getD_some, Array.any_eq_true', Bool.and_eq_true]
theorem getD_in {l : Array Bool} {t : Nat} (h : t < l.size) : l.getD t false = l.getD t true := by simp [h]
theorem getD_lt {l : Array Bool} {t : Nat} (h : l.getD t false = true) : t < l.size := by
  rcases Nat.lt_or_ge t l.size with h' | h'
  · exact h'
  · simp [Array.getElem?_eq_none h'] at h
theorem covered_spec {is : List Nat} {S : Nat → Bool} (hdc : ∀ i o, is.contains i = true → S i = true → ops[i]? = some o → ∀ e ∈ o.after, Region.binds .any e = true → is.contains e.on = true → S e.on = true) {i : Nat} (hi : is.contains i = true) :
    ∀ (f j : Nat) (o : Oper), ops[j]? = some o → (∀ e ∈ o.after, Region.binds .any e = true → is.contains e.on = true → S e.on = true) → (∀ t, is.contains t = true → t < ops.size) → coveredBy ops is f j i = true → S i = true
  | 0, _, _, _, _, _, h => by simp [coveredBy] at h
  | f + 1, j, o, ho, he, hlt, h => by
    simp only [coveredBy] at h
    obtain ⟨e, hem, hb, hp⟩ := (edgeAny_spec ho).1 h
    simp only [Bool.or_eq_true, beq_iff_eq, Bool.and_eq_true] at hp
    rcases hp with rfl | ⟨hc, hcov⟩
    · exact he e hem hb hi
    · have ht := hlt _ hc
      exact covered_spec hdc hi f e.on ops[e.on] (Array.getElem?_eq_getElem ht) (hdc e.on _ hc (he e hem hb hc) (Array.getElem?_eq_getElem ht)) hlt hcov
theorem wpAnyG_flow {early : Nat → Bool} {is : List Nat} {listed : Array Bool} {fuel : Nat} {w : World} (I : (Nat → Bool) → Act → World → Prop) (hok : flowSegOK ops is listed = true) (hIw : ∀ S a' w', I S a' w' → w.grownBy w' row)
    (step : ∀ S a' w' i o, is.contains i = true → ops[i]? = some o → S i = false → (∀ e ∈ o.after, Region.binds .any e = true → is.contains e.on = true → S e.on = true) → I S a' w' →
      wpOp P ops (NoPanic Q) i (fun a'' w'' => I (fun j => S j || j == i) a'' w'') a' w')
    (hk : ∀ S a' w', (∀ i, is.contains i = true → S i = true) → I S a' w' → wpAnyG P ops (NoPanic Q) early (LC row w) fuel (marked is listed) a' w') :
    ∀ (k : Nat) (S : Nat → Bool) (l' : Array Bool) (a' : Act) (w' : World), l'.size = ops.size → (∀ i, i < ops.size → l'.getD i true = (listed.getD i true || (is.contains i && S i))) → is.countP (fun i => !S i) = k →
      (∀ i o, is.contains i = true → S i = true → ops[i]? = some o → ∀ e ∈ o.after, Region.binds .any e = true → is.contains e.on = true → S e.on = true) → I S a' w' →
      wpAnyG P ops (NoPanic Q) early (LC row w) (k + fuel) l' a' w' := by
  simp only [flowSegOK, Bool.and_eq_true, List.all_eq_true, decide_eq_true_eq, Bool.not_eq_true', beq_iff_eq, List.mem_range] at hok
  obtain ⟨⟨⟨h1, hnd⟩, hls⟩, h2⟩ := hok
  have hlt : ∀ t, is.contains t = true → t < ops.size := fun t ht => (h1 t (by simpa using ht)).1.1
  intro k
  induction k with
  | zero =>
    intro S l' a' w' hs hl hc hdc hI
    have hall : ∀ i, is.contains i = true → S i = true := by
      intro i hi
      have := List.countP_eq_zero.1 hc i (by simpa using hi)
      simpa using this
    have he : l' = marked is listed := by
      apply Array.ext
      · rw [marked_size, hs, hls]
      · intro j hj1 hj2
        have e1 := hl j (by omega)
        have e2 := marked_get is listed j (by omega)
        have e3 : (is.contains j && S j) = is.contains j := by
          cases hcj : is.contains j with
          | false => rfl
          | true => simp [hall j hcj]
        rw [e3] at e1
        simp [hj1] at e1
        rw [Array.getD_eq_getD_getElem?, Array.getElem?_eq_getElem hj2] at e2
        simp at e2
        rw [e1, e2]
    subst he
    rw [Nat.zero_add]
    exact hk S a' w' hall hI
  | succ k ih =>
    intro S l' a' w' hs hl hc hdc hI
    rw [show k + 1 + fuel = (k + fuel) + 1 by omega]
    have hnotall : ¬ ∀ i, is.contains i = true → S i = true := by
      intro hall
      have : is.countP (fun i => !S i) = 0 := List.countP_eq_zero.2 fun i hi => by simp [hall i (by simpa using hi)]
      omega
    refine ⟨fun h0 => ?_, fun i hi => ?_⟩
    · exfalso
      apply hnotall
      intro i
      induction i using Nat.strongRecOn with
      | _ i ihi =>
        intro hci
        cases hSi : S i with
        | true => rfl
        | false =>
          exfalso
          have hi := hlt i hci
          obtain ⟨⟨_, hun⟩, hed⟩ := h1 i (by simpa using hci)
          have hmem : i ∈ Region.ready .any ops l' := by
            refine mem_ready.2 ⟨by rw [hl i hi, hun, hSi]; simp, ops[i], Array.getElem?_eq_getElem hi, fun e he hb => ?_⟩
            have h3 : (listed.getD e.on false || (is.contains e.on && decide (e.on < i))) = true := by
              cases hp : (listed.getD e.on false || (is.contains e.on && decide (e.on < i))) with
              | true => rfl
              | false =>
                have := (edgeAny_spec (ops := ops) (p := fun t => !(listed.getD t false || (is.contains t && decide (t < i)))) (Array.getElem?_eq_getElem hi)).2 ⟨e, he, hb, by rw [hp]; rfl⟩
                rw [this] at hed; cases hed
            simp only [Bool.or_eq_true, Bool.and_eq_true, decide_eq_true_eq] at h3
            rcases h3 with h3 | ⟨h3, h4⟩
            · have hlo := getD_lt h3
              rw [getD_in (by omega), hl e.on (by omega), ← getD_in hlo, h3]; rfl
            · have hlo := hlt _ h3
              rw [getD_in (by omega), hl e.on hlo, h3, ihi e.on h4 h3]; simp
          rw [h0] at hmem; cases hmem
    · obtain ⟨hun, o, ho, hall⟩ := mem_ready.1 hi
      have his := (Array.getElem?_eq_some_iff.1 ho).1
      rw [hl i his] at hun
      have hEd : ∀ e ∈ o.after, Region.binds .any e = true → is.contains e.on = true → S e.on = true := by
        intro e he hb hce
        have h3 := hall e he hb
        have hlo := hlt _ hce
        have h4 := (h1 e.on (by simpa using hce)).1.2
        rw [getD_in (by omega), hl e.on hlo, h4, hce] at h3
        simpa using h3
      have hin : is.contains i = true := by
        cases hci : is.contains i with
        | true => rfl
        | false =>
          exfalso
          have h3 := h2 i his
          simp only [Bool.or_eq_true] at h3
          have hnl : listed.getD i true = false := by rw [hci] at hun; simpa using hun
          rw [hnl, hci] at h3
          simp only [Bool.false_eq_true, false_or] at h3
          rcases h3 with h3 | h3
          · obtain ⟨e, he, hb, hp⟩ := (edgeAny_spec ho).1 h3
            simp only [Bool.and_eq_true, Bool.not_eq_true'] at hp
            have h4 := hall e he hb
            have hlo := getD_lt h4
            rw [getD_in hlo, hl e.on (by omega), hp.1, hp.2] at h4; cases h4
          · apply hnotall
            intro i' hi'
            exact covered_spec hdc hi' _ i o ho hEd hlt (List.all_eq_true.1 h3 i' (by simpa using hi'))
      have hSi : S i = false := by rw [hin] at hun; simpa using (Bool.or_eq_false_iff.1 hun).2
      refine wpOp_mono (fun a'' w'' hI' => ⟨fun _ => hIw _ _ _ hI', ?_⟩) (step S a' w' i o hin ho hSi hEd hI)
      refine ih (fun j => S j || j == i) _ a'' w'' (by simpa using hs) (fun j hj => ?_) ?_ ?_ hI'
      · by_cases hji : i = j
        · subst hji
          have : i < l'.size := by omega
          simp [this]
          exact .inr (by simpa using hin)
        · rw [getD_set_ne true hji, hl j hj]
          have : (j == i) = false := by simp; exact fun h => hji h.symm
          simp [this]
      · have key : ∀ (l : List Nat), l.Nodup → i ∈ l → l.countP (fun j => !(S j || j == i)) + 1 = l.countP (fun j => !S j) := by
          intro l
          induction l with
          | nil => intro _ h; cases h
          | cons x l ihl =>
            intro hnd hm
            rw [List.countP_cons, List.countP_cons]
            obtain ⟨hx, hnd⟩ := List.nodup_cons.1 hnd
            rcases List.mem_cons.1 hm with rfl | hm
            · have h5 : l.countP (fun j => !(S j || j == i)) = l.countP (fun j => !S j) := by
                refine List.countP_congr fun y hy => ?_
                have : (y == i) = false := by simp; exact fun h => hx (h ▸ hy)
                simp [this]
              rw [h5]; simp [hSi]
            · have := ihl hnd hm
              have hne : (x == i) = false := by simp; exact fun h => hx (h ▸ hm)
              simp only [hne, Bool.or_false]
              omega
        have := key is hnd (by simpa using hin)
        omega
      · intro i' o' hci' hSi' ho' e he hb hce
        simp only [Bool.or_eq_true, beq_iff_eq] at hSi' ⊢
        rcases hSi' with h3 | rfl
        · exact .inl (hdc i' o' hci' h3 ho' e he hb hce)
        · rw [ho] at ho'; cases ho'
          exact .inl (hEd e he hb hce)

theorem wpAnyG_of_plan {early : Nat → Bool} (hlate : lateOK ops early = true) (hs : Region.noSelect ops = true) : ∀ (l : List Seg) (late : Bool) (listed : Array Bool) (a : Act) (w : World),
    planOK ops l late listed = true → segsOK ops early l = true → planRun P ops (NoPanic Q) row l a w → wpAnyG P ops (NoPanic Q) early (LC row w) (planLen l) listed a w
  | [], late, listed, a, w, hok, hv, h => by
    simp only [planOK, beq_iff_eq] at hok
    exact ⟨hok, h⟩
  | .quiet is :: rest, late, listed, a, w, hok, hv, h => by
    simp only [planOK, Bool.and_eq_true] at hok
    simp only [segsOK, Bool.and_eq_true] at hv
    exact wpAnyG_quiet hlate hs is listed a hok.1.2 hv.1.1 hv.1.2 h fun a' h' => wpAnyG_of_plan hlate hs rest late _ a' w hok.2 hv.2 h'
  | .eff i :: rest, late, listed, a, w, hok, hv, h => by
    simp only [planOK, Bool.and_eq_true, beq_iff_eq] at hok
    simp only [segsOK, Bool.and_eq_true] at hv
    rw [show planLen (Seg.eff i :: rest) = planLen rest + 1 by simp [planLen]; omega]
    refine ⟨fun h0 => (by rw [hok.1.2] at h0; cases h0), fun j hj => ?_⟩
    have : j = i := by rw [hok.1.2] at hj; simpa using hj
    subst this
    refine wpOp_mono (fun a' w' h' => ⟨fun _ => h'.1, ?_⟩) h
    exact wpAnyG_mono (fun w'' h'' => grownBy.trans' h'.1 h'') _ _ _ _ (wpAnyG_of_plan hlate hs rest late _ a' w' hok.2 hv.2 h'.2)
  | .flow is :: rest, late, listed, a, w, hok, hv, h => by
    simp only [planOK, Bool.and_eq_true] at hok
    simp only [segsOK, Bool.and_eq_true] at hv
    obtain ⟨I, h0, hIw, step, fin⟩ := h
    rw [show planLen (Seg.flow is :: rest) = is.length + planLen rest from rfl]
    have hls : listed.size = ops.size := by
      have := hok.1.2
      simp only [flowSegOK, Bool.and_eq_true, beq_iff_eq] at this
      exact this.1.2
    refine wpAnyG_flow (row := row) (fuel := planLen rest) I hok.1.2 hIw step (fun S a' w' hall hI => ?_) is.length (fun _ => false) listed a w hls (fun i hi => by simp) (by simp) (fun _ _ _ h => by cases h) h0
    exact wpAnyG_mono (fun w'' h'' => grownBy.trans' (hIw S a' w' hI) h'') _ _ _ _ (wpAnyG_of_plan hlate hs rest late _ a' w' hok.2 hv.2 (fin S a' w' hall hI))
  | .last i :: rest, late, listed, a, w, hok, hv, h =>
    wpAnyG_late (.last i :: rest) listed a w (by simpa [planOK] using hok) hv h

/-- how the region's operations fall into early and late ones -/
def earlyOf : List Seg → Nat → Bool
  | [], _ => false
  | .quiet is :: rest, i => is.contains i || earlyOf rest i
  | .eff j :: rest, i => i == j || earlyOf rest i
  | .last _ :: rest, i => earlyOf rest i
  | .flow is :: rest, i => is.contains i || earlyOf rest i
/-- All that is asked of a plan. -/
def planChecks (ops : Array Oper) (l : List Seg) : Bool :=
  Region.noSelect ops && lateOK ops (earlyOf l) && segsOK ops (earlyOf l) l && planOK ops l false (Array.replicate ops.size false) && planLen l == ops.size

/-- A REGION THAT DRAWS ITS ORDER, BY A PLAN. -/
theorem wp_region_plan {id : Nat} {a : Act} {w : World} (l : List Seg) (row : Option Nat) (hm : P.follows .mixedOrders = true) (hl : planChecks ops l = true)
    (h : planRun P ops (NoPanic Q) row l a w.drew) : (Code.region id ops true).wp P Q a w := by
  simp only [planChecks, Bool.and_eq_true, beq_iff_eq] at hl
  obtain ⟨⟨⟨⟨h1, h2⟩, h3⟩, h4⟩, h5⟩ := hl
  refine wp_region_noPanic (wp_region_any hm ?_)
  have := wpAny_of_G _ _ _ _ (wpAnyG_of_plan (row := row) h2 h1 l false _ a _ h4 h3 h)
  rw [h5] at this
  exact this

/-- The i-th of a list that is written out, by looking. -/
def nth {α : Type} : List α → Nat → Option α
  | [], _ => none
  | x :: _, 0 => some x
  | _ :: l, i + 1 => nth l i
theorem nth_eq {α : Type} : ∀ (l : List α) (i : Nat), nth l i = l[i]?
  | [], _ => by simp [nth]
  | x :: _, 0 => by simp [nth]
  | _ :: l, i + 1 => by simp [nth, nth_eq l i]
theorem nth_ops {ops : Array Oper} {i : Nat} {o : Oper} (h : nth ops.toList i = some o) : ops[i]? = some o := by
  rw [nth_eq] at h; simpa using h

theorem plan_quiet {is : List Nat} {rest : List Seg} {a : Act} {w : World}
    (h : wpQuiet P ops (fun w' => ∃ x, w' = later row w x) (fun a' => planRun P ops Q row rest a' w) (is.filterMap (ops[·]?)) a) : planRun P ops Q row (.quiet is :: rest) a w := h
theorem quiet_next {C : World → Prop} {Q' : Act → Prop} {i : Nat} {is : List Nat} {o : Oper} {a : Act} (ho' : nth ops.toList i = some o) (h : wpQuiet P ops C Q' (o :: is.filterMap (ops[·]?)) a) :
    wpQuiet P ops C Q' ((i :: is).filterMap (ops[·]?)) a := by
  have ho := nth_ops ho'
  rw [List.filterMap_cons]
  simp only [ho]
  exact h
theorem quiet_end {C : World → Prop} {Q' : Act → Prop} {a : Act} (h : Q' a) : wpQuiet P ops C Q' (([] : List Nat).filterMap (ops[·]?)) a := h

/-- A function whose Go body is entered when it is called. -/
def Callable (P : Program) (f : FuncId) : Prop := ∀ args w, (callFunc f args).run P w = .ok (.enter f args) w
theorem callable {f : FuncId} {fn : Func} (hf : P.funcs[f]? = some fn) (hname : (fn.name == "runtime.NumGoroutine") = false) (hb : fn.body.isSome = true) : Callable P f := by
  intro args w
  obtain ⟨c, hc⟩ := Option.isSome_iff_exists.1 hb
  have h1 : fn.name ≠ "runtime.NumGoroutine" := by simpa using hname
  simp [callFunc, hf, h1, hc]

theorem plan_call {i : Nat} {rest : List Seg} {a : Act} {w : World} {o : Oper} {f : FuncId} {xs : Array Operand} {ts : Array TypeId} {args : List Value} {R : Ending → World → Prop}
    (ho' : nth ops.toList i = some o) (hw : Region.wanted o (yielded ops a.tmps) = true) (hop : o.op = .call { callee := .value (.func f), args := xs, argTypes := ts })
    (hcl : Callable P f) (hc : Calls P f args.toArray w R) (hargs : xs.toList.map a.eval = args)
    (hR : ∀ e w', R e w' → ∃ v, e = .returned v ∧ w.grownBy w' row ∧ planRun P ops Q row rest (a.put o.dst v) w') : planRun P ops Q row (.eff i :: rest) a w := by
  have ho := nth_ops ho'
  unfold planRun wpOp
  simp only [ho, hw, if_true]
  refine .inl ?_
  have hargs' : args.toArray = xs.map a.eval := by subst hargs; apply Array.ext'; simp
  rw [hargs'] at hc
  have he : (execOp a.eval o).run P w = .ok (.enter f (xs.map a.eval)) w := by
    unfold execOp
    rw [hop]
    simp [resolve, invoke, Act.eval, go_sem]
    exact hcl _ _
  unfold Oper.wp
  rw [he]
  simp only [Oper.upon]
  refine hc.mono fun e w' hr => ?_
  obtain ⟨v, rfl, h1, h2⟩ := hR e w' hr
  exact ⟨h1, h2⟩

theorem Oper.wp_congrQ {o : Oper} {a : Act} {w : World} {K K' : Act → World → Prop} {Q' : Exit → Act → World → Prop} (hp : ∀ c a w, Q (.panic c) a w → Q' (.panic c) a w)
    (hl : LetsOut Q → LetsOut Q') (h : ∀ a w, K a w → K' a w) (hh : o.wp P a w K Q) : o.wp P a w K' Q' := by
  unfold Oper.wp at *
  generalize (execOp a.eval o).run P w = r at *
  cases r with
  | ok n w' =>
    cases n <;> simp only [Oper.upon] at hh ⊢ <;>
      first
        | exact h _ _ hh
        | exact Calls.mono hh (fun e w'' he => by cases e <;> first | exact h _ _ he | exact hp _ _ _ he | exact hl he)
        | exact Rows.mono hh (fun _ _ he => h _ _ he)
  | halt x w' => cases x <;> simp only [Oper.upon] at hh ⊢ <;> first | exact hp _ _ _ hh | exact hh

theorem plan_last {i : Nat} {rest : List Seg} {a : Act} {w : World} {o : Oper} (ho' : nth ops.toList i = some o)
    (h : wpList P ops (Exit.then (planRun P ops Q row rest) Q) [o] a w) : planRun P ops Q row (.last i :: rest) a w := by
  have ho := nth_ops ho'
  unfold planRun wpOp
  simp only [ho]
  unfold wpList at h
  split
  · rename_i hw
    rw [if_pos hw] at h
    rcases h with h | ⟨h1, h2⟩
    · exact .inl (Oper.wp_congrQ (fun _ _ _ h => h) (fun h => h) (fun _ _ h => h) h)
    · exact .inr ⟨h1, h2⟩
  · rename_i hw
    rw [if_neg hw] at h
    exact h
end
end Go.Proofs
