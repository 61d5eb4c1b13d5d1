import Derived.Test.YtknmfkdfiomicaaGreatDoorPlan
namespace Go.Proofs
open Go.RowKit
theorem countP_lt {α : Type} {p q : α → Bool} (h : ∀ y, q y = true → p y = true) {x : α} (hp : p x = true) (hq : q x = false) : ∀ (l : List α), x ∈ l → l.countP q < l.countP p
  | [], hx => by cases hx
  | y :: l, hx => by
    have hle : l.countP q ≤ l.countP p := List.countP_mono_left fun z _ hz => h z hz
    rw [List.countP_cons, List.countP_cons]
    by_cases hxy : x = y
    · subst hxy; simp only [hp, hq]; simp; omega
    · have hx' : x ∈ l := by cases hx with
        | head => exact absurd rfl hxy
        | tail _ h => exact h
      have ih := countP_lt h hp hq l hx'
      by_cases hqy : q y = true
      · simp [hqy, h y hqy]; omega
      · simp [hqy]; split <;> omega

section
variable {P : Program} {ops : Array Oper} {Q : Exit → Act → World → Prop}

/-- Each operation waits for earlier ones alone. -/
def forwardOK (ops : Array Oper) : Bool :=
  (List.range ops.size).all fun i => ((ops[i]?).map fun o => o.after.all fun e => !Region.binds .any e || decide (e.on < i)).getD false

theorem ready_some (hf : forwardOK ops = true) {listed : Array Bool} (hs : listed.size = ops.size) (h : Region.ready .any ops listed = []) : ∀ i, i < ops.size → listed.getD i true = true := by
  intro i
  induction i using Nat.strongRecOn with
  | _ i ih =>
    intro hi
    rcases hb : listed.getD i true with _ | _
    · exfalso
      have hmem : i ∈ Region.ready .any ops listed := by
        refine mem_ready.2 ⟨hb, ops[i], Array.getElem?_eq_getElem hi, fun e he hbd => ?_⟩
        simp only [forwardOK, List.all_eq_true, List.mem_range] at hf
        have h1 := hf i hi
        simp only [Array.getElem?_eq_getElem hi, Option.map_some, Option.getD_some] at h1
        have h2 := Array.all_eq_true_iff_forall_mem.1 h1 e he
        simp only [hbd, Bool.not_true, Bool.false_or, decide_eq_true_eq] at h2
        have h3 := ih e.on h2 (by omega)
        have h4 : e.on < listed.size := by omega
        simp [h4] at h3 ⊢
        exact h3
      rw [h] at hmem; cases hmem
    · rfl

/-- WHATEVER ORDER: an invariant over which operations have come up. -/
theorem wp_region_inv {id : Nat} {a : Act} {w : World} (I : (Nat → Bool) → Act → World → Prop) (hm : P.follows .mixedOrders = true) (hf : forwardOK ops = true)
    (h0 : I (fun _ => false) a w.drew)
    (step : ∀ (S : Nat → Bool) (a : Act) (w : World) (i : Nat) (o : Oper), ops[i]? = some o → S i = false → (∀ e ∈ o.after, Region.binds .any e = true → S e.on = true) → I S a w →
      wpOp P ops Q i (fun a' w' => I (fun j => S j || j == i) a' w') a w)
    (fin : ∀ (S : Nat → Bool) (a : Act) (w : World), (∀ i, i < ops.size → S i = true) → I S a w → Q .normal a w) : (Code.region id ops true).wp P Q a w := by
  refine wp_region_any hm ?_
  have key : ∀ (fuel : Nat) (S : Nat → Bool) (listed : Array Bool) (a : Act) (w : World), listed.size = ops.size → (∀ i, i < ops.size → listed.getD i true = S i) →
      (List.range ops.size).countP (fun i => !S i) ≤ fuel → I S a w → wpAny P .any ops Q fuel listed a w := by
    intro fuel
    induction fuel with
    | zero =>
      intro S listed a w hs hl hc hI
      have hall : ∀ i, i < ops.size → S i = true := by
        intro i hi
        have := List.countP_eq_zero.1 (Nat.le_zero.1 hc) i (List.mem_range.2 hi)
        simpa using this
      refine ⟨?_, fin S a w hall hI⟩
      apply List.eq_nil_iff_forall_not_mem.2
      intro i hi
      obtain ⟨h1, o, ho, _⟩ := mem_ready.1 hi
      have his := (Array.getElem?_eq_some_iff.1 ho).1
      rw [hl i his, hall i his] at h1
      cases h1
    | succ fuel ih =>
      intro S listed a w hs hl hc hI
      refine ⟨fun h => ?_, fun i hi => ?_⟩
      · exact fin S a w (fun i hi => by rw [← hl i hi]; exact ready_some hf hs h i hi) hI
      · obtain ⟨h1, o, ho, hall⟩ := mem_ready.1 hi
        have his := (Array.getElem?_eq_some_iff.1 ho).1
        have hSi : S i = false := by rw [← hl i his]; exact h1
        refine wpOp_mono (fun a' w' hI' => ?_) (step S a w i o ho hSi (fun e he hb => ?_) hI)
        · refine ih _ _ a' w' (by simpa using hs) (fun j hj => ?_) ?_ hI'
          · by_cases hji : i = j
            · subst hji
              have : i < listed.size := by omega
              simp [this]
            · rw [getD_set_ne true hji, hl j hj]
              have : (j == i) = false := by simp; exact fun h => hji h.symm
              simp [this]
          · have hlt : (List.range ops.size).countP (fun j => !(S j || j == i)) < (List.range ops.size).countP (fun j => !S j) := by
              refine countP_lt (x := i) (fun y hy => ?_) (by simp [hSi]) (by simp) _ (List.mem_range.2 his)
              simp at hy ⊢
              exact hy.1
            omega
        · have h2 := hall e he hb
          have he' : e.on < ops.size := by
            rcases Nat.lt_or_ge e.on listed.size with h' | h'
            · omega
            · simp [Array.getElem?_eq_none h'] at h2
          rw [← hl _ he']
          have h4 : e.on < listed.size := by omega
          simp [h4] at h2 ⊢
          exact h2
  refine key ops.size (fun _ => false) _ a _ (by simp) (fun i hi => by simp [hi]) ?_ h0
  exact Nat.le_trans List.countP_le_length (by simp)

theorem wpAnyG_inv {early : Nat → Bool} {S0 : World → Prop} (I : (Nat → Bool) → Act → World → Prop) (hf : forwardOK ops = true) (hIS : ∀ S a w, I S a w → S0 w)
    (step : ∀ (S : Nat → Bool) (a : Act) (w : World) (i : Nat) (o : Oper), ops[i]? = some o → S i = false → (∀ e ∈ o.after, Region.binds .any e = true → S e.on = true) → I S a w →
      wpOp P ops Q i (fun a' w' => I (fun j => S j || j == i) a' w') a w)
    (fin : ∀ (S : Nat → Bool) (a : Act) (w : World), (∀ i, i < ops.size → S i = true) → I S a w → Q .normal a w) :
    ∀ (fuel : Nat) (S : Nat → Bool) (listed : Array Bool) (a : Act) (w : World), listed.size = ops.size → (∀ i, i < ops.size → listed.getD i true = S i) →
      (List.range ops.size).countP (fun i => !S i) ≤ fuel → I S a w → wpAnyG P ops Q early S0 fuel listed a w := by
  intro fuel
  induction fuel with
  | zero =>
    intro S listed a w hs hl hc hI
    have hall : ∀ i, i < ops.size → S i = true := by
      intro i hi
      have := List.countP_eq_zero.1 (Nat.le_zero.1 hc) i (List.mem_range.2 hi)
      simpa using this
    refine ⟨?_, fin S a w hall hI⟩
    apply List.eq_nil_iff_forall_not_mem.2
    intro i hi
    obtain ⟨h1, o, ho, _⟩ := mem_ready.1 hi
    have his := (Array.getElem?_eq_some_iff.1 ho).1
    rw [hl i his, hall i his] at h1
    cases h1
  | succ fuel ih =>
    intro S listed a w hs hl hc hI
    refine ⟨fun h => ?_, fun i hi => ?_⟩
    · exact fin S a w (fun i hi => by rw [← hl i hi]; exact ready_some hf hs h i hi) hI
    · obtain ⟨h1, o, ho, hall⟩ := mem_ready.1 hi
      have his := (Array.getElem?_eq_some_iff.1 ho).1
      have hSi : S i = false := by rw [← hl i his]; exact h1
      refine wpOp_mono (fun a' w' hI' => ⟨fun _ => hIS _ _ _ hI', ?_⟩) (step S a w i o ho hSi (fun e he hb => ?_) hI)
      · refine ih _ _ a' w' (by simpa using hs) (fun j hj => ?_) ?_ hI'
        · by_cases hji : i = j
          · subst hji
            have : i < listed.size := by omega
            simp [this]
          · rw [getD_set_ne true hji, hl j hj]
            have : (j == i) = false := by simp; exact fun h => hji h.symm
            simp [this]
        · have hlt : (List.range ops.size).countP (fun j => !(S j || j == i)) < (List.range ops.size).countP (fun j => !S j) := by
            refine countP_lt (x := i) (fun y hy => ?_) (by simp [hSi]) (by simp) _ (List.mem_range.2 his)
            simp at hy ⊢
            exact hy.1
          omega
      · have h2 := hall e he hb
        have he' : e.on < ops.size := by
          rcases Nat.lt_or_ge e.on listed.size with h' | h'
          · omega
          · simp [Array.getElem?_eq_none h'] at h2
        rw [← hl _ he']
        have h4 : e.on < listed.size := by omega
        simp [h4] at h2 ⊢
        exact h2

/-- a plan's stretch, and then whatever K says -/
def planTo (P : Program) (ops : Array Oper) (Q : Exit → Act → World → Prop) (row : Option Nat) (K : Act → World → Prop) : List Seg → Act → World → Prop
  | [], a, w => K a w
  | .quiet is :: rest, a, w => wpQuiet P ops (fun w' => ∃ x, w' = later row w x) (fun a' => planTo P ops Q row K rest a' w) (is.filterMap (ops[·]?)) a
  | .eff i :: rest, a, w => wpOp P ops Q i (fun a' w' => w.grownBy w' row ∧ planTo P ops Q row K rest a' w') a w
  | .last _ :: _, _, _ => False
  | .flow _ :: _, _, _ => False
def markedOf : List Seg → Array Bool → Array Bool
  | [], listed => listed
  | .quiet is :: rest, listed => markedOf rest (marked is listed)
  | .eff i :: rest, listed => markedOf rest (listed.setIfInBounds i true)
  | .last _ :: rest, listed => markedOf rest listed
  | .flow _ :: rest, listed => markedOf rest listed
def planToOK (ops : Array Oper) : List Seg → Array Bool → Bool
  | [], _ => true
  | .quiet is :: rest, listed => quietOK ops is listed && valuesOK ops is && planToOK ops rest (marked is listed)
  | .eff i :: rest, listed => Region.ready .any ops listed == [i] && planToOK ops rest (listed.setIfInBounds i true)
  | .last _ :: _, _ => false
  | .flow _ :: _, _ => false

theorem wpAnyG_of_planTo {row : Option Nat} {K : Act → World → Prop} {early : Nat → Bool} (hearly : ∀ i, early i = true) (hlate : lateOK ops early = true) (hs : Region.noSelect ops = true) (fuel : Nat) :
    ∀ (l : List Seg) (listed : Array Bool) (a : Act) (w : World), planToOK ops l listed = true → planTo P ops (NoPanic Q) row K l a w →
      (∀ a' w', K a' w' → wpAnyG P ops (NoPanic Q) early (LC row w') fuel (markedOf l listed) a' w') → wpAnyG P ops (NoPanic Q) early (LC row w) (planLen l + fuel) listed a w
  | [], listed, a, w, _, h, hk => by rw [show planLen [] + fuel = fuel from Nat.zero_add _]; exact hk a w h
  | .quiet is :: rest, listed, a, w, hok, h, hk => by
    simp only [planToOK, Bool.and_eq_true] at hok
    rw [show planLen (Seg.quiet is :: rest) + fuel = is.length + (planLen rest + fuel) by simp [planLen]; omega]
    exact wpAnyG_quiet hlate hs is listed a hok.1.1 hok.1.2 (List.all_eq_true.2 fun i _ => hearly i) h fun a' h' => wpAnyG_of_planTo hearly hlate hs fuel rest _ a' w hok.2 h' hk
  | .eff i :: rest, listed, a, w, hok, h, hk => by
    simp only [planToOK, Bool.and_eq_true, beq_iff_eq] at hok
    rw [show planLen (Seg.eff i :: rest) + fuel = (planLen rest + fuel) + 1 by simp [planLen]; omega]
    refine ⟨fun h0 => (by rw [hok.1] at h0; cases h0), fun j hj => ?_⟩
    have : j = i := by rw [hok.1] at hj; simpa using hj
    subst this
    refine wpOp_mono (fun a' w' h' => ⟨fun _ => h'.1, ?_⟩) h
    exact wpAnyG_mono (fun w'' h'' => grownBy.trans' h'.1 h'') _ _ _ _ (wpAnyG_of_planTo hearly hlate hs fuel rest _ a' w' hok.2 h'.2 hk)
  | .last i :: rest, listed, a, w, hok, h, hk => by simp [planToOK] at hok
  | .flow is :: rest, listed, a, w, hok, h, hk => by simp [planToOK] at hok

/-- A REGION THAT DRAWS ITS ORDER: a plan's stretch, and an invariant over what is left. -/
theorem wp_region_plan_inv {id : Nat} {a : Act} {w : World} (l : List Seg) (row : Option Nat) (D : Nat → Bool) (hm : P.follows .mixedOrders = true)
    (hl : (Region.noSelect ops && forwardOK ops && planToOK ops l (Array.replicate ops.size false) && (markedOf l (Array.replicate ops.size false)).size == ops.size &&
      ((List.range ops.size).all fun i => (markedOf l (Array.replicate ops.size false)).getD i true == D i) && planLen l + (List.range ops.size).countP (fun i => !D i) == ops.size) = true)
    (I : World → (Nat → Bool) → Act → World → Prop)
    (h : planTo P ops (NoPanic Q) row (fun a' w' => I w' D a' w') l a w.drew)
    (hIS : ∀ w0 S a w, I w0 S a w → w0.grownBy w row)
    (step : ∀ (w0 : World) (S : Nat → Bool) (a : Act) (w : World) (i : Nat) (o : Oper), ops[i]? = some o → S i = false → (∀ e ∈ o.after, Region.binds .any e = true → S e.on = true) → I w0 S a w →
      wpOp P ops (NoPanic Q) i (fun a' w' => I w0 (fun j => S j || j == i) a' w') a w)
    (fin : ∀ (w0 : World) (S : Nat → Bool) (a : Act) (w : World), (∀ i, i < ops.size → S i = true) → I w0 S a w → Q .normal a w) : (Code.region id ops true).wp P Q a w := by
  simp only [Bool.and_eq_true, beq_iff_eq, List.all_eq_true, List.mem_range] at hl
  obtain ⟨⟨⟨⟨⟨h1, h2⟩, h3⟩, h4⟩, h5⟩, h6⟩ := hl
  refine wp_region_noPanic (wp_region_any hm ?_)
  have hlate : lateOK ops (fun _ => true) = true := by simp [lateOK]
  have key := wpAny_of_G _ _ _ _ (wpAnyG_of_planTo (Q := Q) (row := row) (early := fun _ => true) (fun _ => rfl) hlate h1 ((List.range ops.size).countP (fun i => !D i)) l (Array.replicate ops.size false) a w.drew h3 h
    (fun a' w' hI => wpAnyG_inv (I w') h2 (fun S a w h => hIS w' S a w h) (step w') (fin w') _ D _ a' w' h4 h5 (Nat.le_refl _) hI))
  rw [h6] at key
  exact key
end
end Go.Proofs
