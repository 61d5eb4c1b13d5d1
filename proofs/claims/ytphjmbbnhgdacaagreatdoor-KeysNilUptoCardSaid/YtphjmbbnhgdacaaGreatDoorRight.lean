/- What a bare proposal is: keys.Proposal.right. -/
import Derived.Test.YtphjmbbnhgdacaaGreatDoorStep
import Derived.Maps.RangeWalk
import Derived.LoopTactic
namespace Go.Proofs
open Go.RowKit Go.Maps
theorem bareLeaf_zero (w : World) : Calls Tryz.prog 36 #[.agg #[.slice none 0 0, .slice none 0 0, .slice none 0 0, .int .i64 0, .slice none 0 0, .slice none 0 0]] w
    (Some_ w fun v _ => v = .bool true) := by
  go_enter Tryz.func36, Tryz.ntmps36
  go_wp2
  go_ret
  exact ⟨_, rfl, rfl, (Below.refl _ _).alloc (Nat.le_refl _) _⟩
theorem bareLeaf_in : Callable Tryz.prog 36 := callable Tryz.func36 (by kernel_rfl) (by kernel_rfl)
theorem keyed_int : Keyed Tryz.prog 3 := int_keyed Tryz.underlying3
/-- what every entry but the kind's own says -/
def OKm (k : Int) (D : DataW Unit) : Prop := ∀ x : Int, x = k ∨ D.atKey (.int .i64 x) (.lit (.bool true)) = .lit (.bool true)
theorem OKm.start (k : Int) : OKm k (.map []) := fun _ => .inr rfl
theorem OKm.put {k : Int} {D : DataW Unit} (h : OKm k D) (hD : IsMap D) (x : Int) (b : Bool) (hb : x = k ∨ b = true) : OKm k (D.put (.int .i64 x) (.lit (.bool b))) := by
  intro y
  by_cases hy : y = x
  · subst hy
    rcases hb with hb | hb
    · exact .inl hb
    · subst hb
      exact .inr (atKey_put_same (k := .int .i64 y) hD trivial _ _)
  · rcases h y with h' | h'
    · exact .inl h'
    · refine .inr ?_
      rw [atKey_put_other (fun e => hy (by injection e))]
      exact h'
/-- how many have been laid -/
def laid (S : Nat → Bool) : Nat := (S 14).toNat + (S 18).toNat + (S 22).toNat + (S 31).toNat + (S 36).toNat
set_option maxRecDepth 4000 in
def rightT (k idx : Int) (B : Nat) (c9 c21 c22 c25 c41 c42 : Value) : Array Value := List.toArray (.agg #[.int .i64 k, .slice none 0 0, .slice none 0 0, .slice none 0 0, .slice none 0 0, .int .i64 0, .slice none 0 0, .slice none 0 0, .slice none 0 0, .slice none 0 0, .slice none 0 0, .slice none 0 0, .int .i64 0, .slice none 0 0, .slice none 0 0, .int .i64 idx, .slice none 0 0, .slice none 0 0, .slice none 0 0] :: .pointer (some ⟨B, 0, none⟩) :: .bool false :: .pointer (some ⟨B + 1, 0, none⟩) :: undef :: undef :: undef :: .pointer (some ⟨B, 1, none⟩) :: .agg #[.slice none 0 0, .slice none 0 0, .slice none 0 0, .slice none 0 0, .int .i64 0, .slice none 0 0, .slice none 0 0, .slice none 0 0] :: c9 :: .pointer (some ⟨B + 1, 0, none⟩) :: .slice none 0 0 :: .int .i64 0 :: .pointer (some ⟨B + 1, 7, none⟩) :: .slice none 0 0 :: .int .i64 0 :: .int .i64 0 :: .bool true :: .bool true :: .pointer (some ⟨B + 1, 1, none⟩) :: .agg #[.slice none 0 0, .slice none 0 0, .slice none 0 0, .int .i64 0, .slice none 0 0, .slice none 0 0] :: c21 :: c22 :: .pointer (some ⟨B, 9, none⟩) :: .agg #[.slice none 0 0, .slice none 0 0, .slice none 0 0, .int .i64 0, .slice none 0 0, .slice none 0 0] :: c25 :: .pointer (some ⟨B, 15, none⟩) :: .int .i64 idx :: .bool (idx == 0) :: .pointer (some ⟨B, 16, none⟩) :: .slice none 0 0 :: .int .i64 0 :: .pointer (some ⟨B, 17, none⟩) :: .slice none 0 0 :: .int .i64 0 :: .int .i64 0 :: .bool true :: .pointer (some ⟨B, 18, none⟩) :: .slice none 0 0 :: .int .i64 0 :: .bool true :: c41 :: c42 :: undef :: undef :: undef :: undef :: undef :: undef :: undef :: undef :: undef :: undef :: undef :: undef :: undef :: undef :: undef :: undef :: undef :: undef :: undef :: undef :: undef :: undef :: undef :: undef :: undef :: undef :: undef :: undef :: undef :: undef :: undef :: undef :: undef :: undef :: undef :: undef :: undef :: undef :: undef :: undef :: undef :: undef :: undef :: undef :: undef :: undef :: undef :: undef :: undef :: undef :: undef :: undef :: undef :: undef :: undef :: undef :: undef :: undef :: undef :: undef :: undef :: undef :: undef :: undef :: undef :: undef :: undef :: undef :: undef :: undef :: [])
def rightD : Nat → Bool := fun i => !([0, 12, 13, 14, 17, 18, 22, 31, 36, 37, 38].contains i)
def rightI (ws : World) (k idx : Int) (w0 : World) (S : Nat → Bool) (a : Act) (w : World) : Prop :=
  w0.grownBy w none ∧ (Below ws.heap.size ws w0 ∧ isRow w0 ws.heap.size 45 #[.int .i64 k, .slice none 0 0, .slice none 0 0, .slice none 0 0, .slice none 0 0, .int .i64 0, .slice none 0 0, .slice none 0 0, .slice none 0 0, .slice none 0 0, .slice none 0 0, .slice none 0 0, .int .i64 0, .slice none 0 0, .slice none 0 0, .int .i64 idx, .slice none 0 0, .slice none 0 0, .slice none 0 0]) ∧ (∀ j, rightD j = true → S j = true) ∧ ∃ c9 c21 c22 c25 c41 c42, a = ⟨rightT k idx ws.heap.size c9 c21 c22 c25 c41 c42, []⟩ ∧
    (S 12 = true → c21 = .bool true) ∧ (S 13 = true → c22 = .bool true) ∧ (S 17 = true → c25 = .bool true) ∧
    (S 0 = true → S 38 = false → ∃ b n D, c9 = .map (some b) ∧ w0.heap.size ≤ b ∧ w.ownsMap Tryz.prog 3 (plainElem (H := Unit) Tryz.prog 4) b n D ∧ n ≤ laid S ∧ OKm k D) ∧
    (S 37 = true → c41 = c9) ∧ (S 37 = true → ∀ j, j < 37 → S j = true) ∧ (S 38 = true → S 37 = true) ∧
    (S 38 = true → ∃ b r n D, w0.heap.size ≤ b ∧ w0.heap.size ≤ r ∧ c42 = .pointer (some ⟨r, 0, none⟩) ∧ w.ranges Tryz.prog 3 (plainElem (H := Unit) Tryz.prog 4) b r n D (Maps.has D) (Maps.size D) ∧ OKm k D)
theorem laid_lt {S : Nat → Bool} {n : Nat} (h : n ≤ laid S) : n < maxLen := by
  have : laid S ≤ 5 := by unfold laid; have := Bool.toNat_le (S 14); have := Bool.toNat_le (S 18); have := Bool.toNat_le (S 22); have := Bool.toNat_le (S 31); have := Bool.toNat_le (S 36); omega
  have : 5 < maxLen := by unfold maxLen; exact Nat.le_of_ble_eq_true rfl
  omega
theorem laid_step14 {S : Nat → Bool} {n : Nat} (hS : S 14 = false) (h : n ≤ laid S) : n + 1 ≤ laid (fun j => S j || j == 14) := by
  unfold laid at *; simp [hS] at *; omega
theorem laid_step18 {S : Nat → Bool} {n : Nat} (hS : S 18 = false) (h : n ≤ laid S) : n + 1 ≤ laid (fun j => S j || j == 18) := by
  unfold laid at *; simp [hS] at *; omega
theorem laid_step22 {S : Nat → Bool} {n : Nat} (hS : S 22 = false) (h : n ≤ laid S) : n + 1 ≤ laid (fun j => S j || j == 22) := by
  unfold laid at *; simp [hS] at *; omega
theorem laid_step31 {S : Nat → Bool} {n : Nat} (hS : S 31 = false) (h : n ≤ laid S) : n + 1 ≤ laid (fun j => S j || j == 31) := by
  unfold laid at *; simp [hS] at *; omega
theorem laid_step36 {S : Nat → Bool} {n : Nat} (hS : S 36 = false) (h : n ≤ laid S) : n + 1 ≤ laid (fun j => S j || j == 36) := by
  unfold laid at *; simp [hS] at *; omega
structure BB where
  b : Bool
theorem plainElem_bool_back {P : Program} {e : TypeId} (he : P.underlying e = some .bool) {v : Value} {y : DataW Unit × List MemPlace} (h : plainElem (H := Unit) P e v = some y) : ∃ c : BB, v = .bool c.b ∧ y.1 = .lit (.bool c.b) := by
  unfold plainElem at h
  rw [he] at h
  cases v <;> try cases h
  exact ⟨⟨_⟩, rfl, rfl⟩
theorem toB {a b : World} (h : a.grownBy b none) : Below a.heap.size a b := ⟨h.os, h.tape, h.output, h.size, fun i hi => h.block i hi (by simp)⟩
theorem right_left {S : Nat → Bool} {i : Nat} (hD : ∀ j, rightD j = true → S j = true) (hi : S i = false) : i = 0 ∨ i = 12 ∨ i = 13 ∨ i = 14 ∨ i = 17 ∨ i = 18 ∨ i = 22 ∨ i = 31 ∨ i = 36 ∨ i = 37 ∨ i = 38 := by
  have h : rightD i = false := by
    cases h : rightD i
    · rfl
    · rw [hD i h] at hi; cases hi
  simp [rightD] at h
  omega

set_option maxHeartbeats 400000 in
theorem right_bare (k idx : Int) (w : World) (h : k = 0 ∧ idx = 0 ∨ k = 3 ∧ idx = 5) :
    Calls Tryz.prog 12 #[.agg #[.int .i64 k, .slice none 0 0, .slice none 0 0, .slice none 0 0, .slice none 0 0, .int .i64 0, .slice none 0 0, .slice none 0 0, .slice none 0 0, .slice none 0 0, .slice none 0 0, .slice none 0 0, .int .i64 0, .slice none 0 0, .slice none 0 0, .int .i64 idx, .slice none 0 0, .slice none 0 0, .slice none 0 0]] w (Some_ w fun v _ => v = .bool (k == 3)) := by
  have H := Lib.hid h; clear h
  go_enter Tryz.func12, Tryz.ntmps12
  go_wp2_with fail
  refine wp_region_plan_inv [.quiet [1, 2, 3, 4, 5, 6, 7, 8, 9, 10, 11, 15, 16, 19, 20, 21, 23, 24, 25, 26, 27, 28, 29, 30, 32, 33, 34, 35]] none rightD Tryz.mixed (by kernel_rfl) (rightI w k idx) ?_ (fun w0 S a w1 h => h.1) ?_ ?_
  · generalize hW : World.drew _ = W
    have hr1 : isRow W w.heap.size 45 #[.int .i64 k, .slice none 0 0, .slice none 0 0, .slice none 0 0, .slice none 0 0, .int .i64 0, .slice none 0 0, .slice none 0 0, .slice none 0 0, .slice none 0 0, .slice none 0 0, .slice none 0 0, .int .i64 0, .slice none 0 0, .slice none 0 0, .int .i64 idx, .slice none 0 0, .slice none 0 0, .slice none 0 0] := by
      subst hW
      exact ((isRow.new w _ _).alloc _).drew
    have hr2 : isRow W (w.heap.size + 1) 43 #[.slice none 0 0, .slice none 0 0, .slice none 0 0, .slice none 0 0, .int .i64 0, .slice none 0 0, .slice none 0 0, .slice none 0 0] := by
      subst hW
      have h := isRow.new (w.alloc (.cells #[.int .i64 k, .slice none 0 0, .slice none 0 0, .slice none 0 0, .slice none 0 0, .int .i64 0, .slice none 0 0, .slice none 0 0, .slice none 0 0, .slice none 0 0, .slice none 0 0, .slice none 0 0, .int .i64 0, .slice none 0 0, .slice none 0 0, .int .i64 idx, .slice none 0 0, .slice none 0 0, .slice none 0 0] 45)) 43 #[.slice none 0 0, .slice none 0 0, .slice none 0 0, .slice none 0 0, .int .i64 0, .slice none 0 0, .slice none 0 0, .slice none 0 0]
      rw [World.size_alloc] at h
      exact h.drew
    have hbw : Below w.heap.size w W := by
      subst hW
      exact (((Below.refl _ _).alloc (Nat.le_refl _) _).alloc (by rw [World.size_alloc]; omega) _).drew
    clear hW
    have g1 := later_cell (row := none) (p := ⟨w.heap.size + 1, 0, none⟩) (u := .slice none 0 0) (by rw [hr2.cell]; rfl) (by simp)
    have g2 := later_cell (row := none) (p := ⟨w.heap.size + 1, 7, none⟩) (u := .slice none 0 0) (by rw [hr2.cell]; rfl) (by simp)
    have g3 := later_cell (row := none) (p := ⟨w.heap.size, 15, none⟩) (u := .int .i64 idx) (by rw [hr1.cell]; rfl) (by simp)
    have g4 := later_cell (row := none) (p := ⟨w.heap.size, 16, none⟩) (u := .slice none 0 0) (by rw [hr1.cell]; rfl) (by simp)
    have g5 := later_cell (row := none) (p := ⟨w.heap.size, 17, none⟩) (u := .slice none 0 0) (by rw [hr1.cell]; rfl) (by simp)
    have g6 := later_cell (row := none) (p := ⟨w.heap.size, 18, none⟩) (u := .slice none 0 0) (by rw [hr1.cell]; rfl) (by simp)
    have HR1 := Lib.hid hr1; have HR2 := Lib.hid hr2; clear hr1 hr2
    show wpQuiet _ _ _ _ _ _
    iterate 10 (refine quiet_next rfl ?_; go_big_quiet_step (fail))
    refine quiet_load 41 (.tmp 19) (w.heap.size + 1) 1 [.slice none 0 0, .slice none 0 0, .slice none 0 0, .int .i64 0, .slice none 0 0, .slice none 0 0] rfl rfl rfl rfl (fun j u hj => ?_) (by simp) Tryz.underlying41 rfl (by kernel_rfl) ?_
    · rw [HR2.out.cell]
      rcases j with _|_|_|_|_|_|j <;> first | (simp at hj; subst hj; rfl) | (simp at hj)
    simp only [Act.put, List.setIfInBounds_toArray, List.set_cons_succ, List.set_cons_zero]
    refine quiet_next rfl ?_
    go_big_quiet_step (fail)
    refine quiet_load 41 (.tmp 23) w.heap.size 9 [.slice none 0 0, .slice none 0 0, .slice none 0 0, .int .i64 0, .slice none 0 0, .slice none 0 0] rfl rfl rfl rfl (fun j u hj => ?_) (by simp) Tryz.underlying41 rfl (by kernel_rfl) ?_
    · rw [HR1.out.cell]
      rcases j with _|_|_|_|_|_|j <;> first | (simp at hj; subst hj; rfl) | (simp at hj)
    simp only [Act.put, List.setIfInBounds_toArray, List.set_cons_succ, List.set_cons_zero]
    iterate 15 (refine quiet_next rfl ?_; go_big_quiet_step (fail))
    refine quiet_end ?_
    exact ⟨grownBy.refl' _ _, ⟨hbw, HR1.out⟩, fun j hj => hj, _, _, _, _, _, _, rfl, fun h => absurd h (by decide), fun h => absurd h (by decide), fun h => absurd h (by decide), fun h => absurd h (by decide), fun h => absurd h (by decide), fun h => absurd h (by decide), fun h => absurd h (by decide), fun h => absurd h (by decide)⟩
  · intro w0 S a w1 i o ho hS hb hI
    obtain ⟨hg, hB, hD, c9, c21, c22, c25, c41, c42, rfl, f21, f22, f25, f9, f41, cl37, cl38, f38⟩ := hI
    by_cases hi : i < 37
    · have h37 : S 37 = false := by
        cases h : S 37
        · rfl
        · exact absurd (cl37 h i hi) (by simp [hS])
      have h38 : S 38 = false := by
        cases h : S 38
        · rfl
        · exact absurd (cl38 h) (by simp [h37])
      have hD' : ∀ j, rightD j = true → (S j || j == i) = true := fun j hj => by simp [hD j hj]
      have h37' : (S 37 || 37 == i) = false := by simp [h37]; omega
      have h38' : (S 38 || 38 == i) = false := by simp [h38]; omega
      have kill37 : ∀ {p : Prop}, (S 37 || 37 == i) = true → p := fun h => by rw [h37'] at h; cases h
      have kill38 : ∀ {p : Prop}, (S 38 || 38 == i) = true → p := fun h => by rw [h38'] at h; cases h
      clear cl37 cl38 f41 f38
      rcases right_left hD hS with rfl | rfl | rfl | rfl | rfl | rfl | rfl | rfl | rfl | rfl | rfl
      · -- the map is made
        refine op_run (i := 0) rfl rfl rfl ?_
        exact ⟨grownBy.trans' hg (World.grownBy_alloc _ _ _), hB, hD', _, _, _, _, _, _, rfl, fun h => f21 (by simpa using h), fun h => f22 (by simpa using h), fun h => f25 (by simpa using h),
          fun _ _ => ⟨_, 0, _, rfl, hg.size, World.ownsMap_made _ _ _ _, Nat.zero_le _, OKm.start k⟩, kill37, kill37, kill38, kill38⟩
      · cases ho
        refine op_call (i := 12) rfl rfl rfl bareLeaf_in (bareLeaf_zero _) rfl ?_
        rintro _ w2 rfl hb2
        exact ⟨grownBy.trans' hg (toGrown hb2 _), hB, hD', _, _, _, _, _, _, rfl, fun h => rfl, fun h => f22 (by simpa using h), fun h => f25 (by simpa using h),
          fun h0 _ => (by
            obtain ⟨b, n, D, e, h1, h2, h3, h4⟩ := f9 (by simpa using h0) h38
            exact ⟨b, n, D, e, h1, h2.kept (toGrown hb2 none) (by simp), by simpa [laid] using h3, h4⟩), kill37, kill37, kill38, kill38⟩
      · cases ho
        have e21 := f21 (hb _ (Array.mem_of_getElem? (i := 1) rfl) rfl)
        subst e21
        refine op_run (i := 13) rfl rfl rfl ?_
        exact ⟨hg, hB, hD', _, _, _, _, _, _, rfl, fun h => rfl, fun h => rfl, fun h => f25 (by simpa using h),
          fun h0 _ => (by
            obtain ⟨b, n, D, e, h1, h2, h3, h4⟩ := f9 (by simpa using h0) h38
            exact ⟨b, n, D, e, h1, h2, by simpa [laid] using h3, h4⟩), kill37, kill37, kill38, kill38⟩
      · cases ho
        obtain ⟨b, n, D, rfl, h1, h2, h3, h4⟩ := f9 (hb _ (Array.mem_of_getElem? (i := 0) rfl) rfl) h38
        obtain rfl := f22 (hb _ (Array.mem_of_getElem? (i := 1) rfl) rfl)
        refine op_insert (i := 14) (m := .tmp 9) (x := .const (.int .i64 1)) (v := .tmp 22) (key := .int .i64 1) rfl rfl rfl keyed_int Tryz.underlying67 rfl rfl rfl h2 (laid_lt h3) (keyOf_int_mk (a := 1) Tryz.underlying3 (by decide)) (plainElem_bool Tryz.underlying4 true) ?_
        intro w2 hown hgr
        exact ⟨hg.andThen hgr (fun j hj => by cases hj; exact .inl h1), hB, hD', _, _, _, _, _, _, rfl, fun h => f21 (by simpa using h), fun h => f22 (by simpa using h), fun h => f25 (by simpa using h),
          fun _ _ => ⟨_, _, _, rfl, h1, hown, laid_step14 hS h3, h4.put h2.isMap 1 true (.inr rfl)⟩, kill37, kill37, kill38, kill38⟩
      · cases ho
        refine op_call (i := 17) rfl rfl rfl bareLeaf_in (bareLeaf_zero _) rfl ?_
        rintro _ w2 rfl hb2
        exact ⟨grownBy.trans' hg (toGrown hb2 _), hB, hD', _, _, _, _, _, _, rfl, fun h => f21 (by simpa using h), fun h => f22 (by simpa using h), fun h => rfl,
          fun h0 _ => (by
            obtain ⟨b, n, D, e, h1, h2, h3, h4⟩ := f9 (by simpa using h0) h38
            exact ⟨b, n, D, e, h1, h2.kept (toGrown hb2 none) (by simp), by simpa [laid] using h3, h4⟩), kill37, kill37, kill38, kill38⟩
      · cases ho
        obtain ⟨b, n, D, rfl, h1, h2, h3, h4⟩ := f9 (hb _ (Array.mem_of_getElem? (i := 0) rfl) rfl) h38
        obtain rfl := f25 (hb _ (Array.mem_of_getElem? (i := 1) rfl) rfl)
        refine op_insert (i := 18) (m := .tmp 9) (x := .const (.int .i64 2)) (v := .tmp 25) (key := .int .i64 2) rfl rfl rfl keyed_int Tryz.underlying67 rfl rfl rfl h2 (laid_lt h3) (keyOf_int_mk (a := 2) Tryz.underlying3 (by decide)) (plainElem_bool Tryz.underlying4 true) ?_
        intro w2 hown hgr
        exact ⟨hg.andThen hgr (fun j hj => by cases hj; exact .inl h1), hB, hD', _, _, _, _, _, _, rfl, fun h => f21 (by simpa using h), fun h => f22 (by simpa using h), fun h => f25 (by simpa using h),
          fun _ _ => ⟨_, _, _, rfl, h1, hown, laid_step18 hS h3, h4.put h2.isMap 2 true (.inr rfl)⟩, kill37, kill37, kill38, kill38⟩
      · cases ho
        obtain ⟨b, n, D, rfl, h1, h2, h3, h4⟩ := f9 (hb _ (Array.mem_of_getElem? (i := 0) rfl) rfl) h38
        refine op_insert (i := 22) (m := .tmp 9) (x := .const (.int .i64 3)) (v := .tmp 28) (key := .int .i64 3) rfl rfl rfl keyed_int Tryz.underlying67 rfl rfl rfl h2 (laid_lt h3) (keyOf_int_mk (a := 3) Tryz.underlying3 (by decide)) (plainElem_bool Tryz.underlying4 (idx == 0)) ?_
        intro w2 hown hgr
        exact ⟨hg.andThen hgr (fun j hj => by cases hj; exact .inl h1), hB, hD', _, _, _, _, _, _, rfl, fun h => f21 (by simpa using h), fun h => f22 (by simpa using h), fun h => f25 (by simpa using h),
          fun _ _ => ⟨_, _, _, rfl, h1, hown, laid_step22 hS h3, h4.put h2.isMap 3 (idx == 0) (by rcases H.out with ⟨rfl, rfl⟩ | ⟨rfl, rfl⟩ <;> simp)⟩, kill37, kill37, kill38, kill38⟩
      · cases ho
        obtain ⟨b, n, D, rfl, h1, h2, h3, h4⟩ := f9 (hb _ (Array.mem_of_getElem? (i := 0) rfl) rfl) h38
        refine op_insert (i := 31) (m := .tmp 9) (x := .const (.int .i64 4)) (v := .tmp 36) (key := .int .i64 4) rfl rfl rfl keyed_int Tryz.underlying67 rfl rfl rfl h2 (laid_lt h3) (keyOf_int_mk (a := 4) Tryz.underlying3 (by decide)) (plainElem_bool Tryz.underlying4 true) ?_
        intro w2 hown hgr
        exact ⟨hg.andThen hgr (fun j hj => by cases hj; exact .inl h1), hB, hD', _, _, _, _, _, _, rfl, fun h => f21 (by simpa using h), fun h => f22 (by simpa using h), fun h => f25 (by simpa using h),
          fun _ _ => ⟨_, _, _, rfl, h1, hown, laid_step31 hS h3, h4.put h2.isMap 4 true (.inr rfl)⟩, kill37, kill37, kill38, kill38⟩
      · cases ho
        obtain ⟨b, n, D, rfl, h1, h2, h3, h4⟩ := f9 (hb _ (Array.mem_of_getElem? (i := 0) rfl) rfl) h38
        refine op_insert (i := 36) (m := .tmp 9) (x := .const (.int .i64 6)) (v := .tmp 40) (key := .int .i64 6) rfl rfl rfl keyed_int Tryz.underlying67 rfl rfl rfl h2 (laid_lt h3) (keyOf_int_mk (a := 6) Tryz.underlying3 (by decide)) (plainElem_bool Tryz.underlying4 true) ?_
        intro w2 hown hgr
        exact ⟨hg.andThen hgr (fun j hj => by cases hj; exact .inl h1), hB, hD', _, _, _, _, _, _, rfl, fun h => f21 (by simpa using h), fun h => f22 (by simpa using h), fun h => f25 (by simpa using h),
          fun _ _ => ⟨_, _, _, rfl, h1, hown, laid_step36 hS h3, h4.put h2.isMap 6 true (.inr rfl)⟩, kill37, kill37, kill38, kill38⟩
      · omega
      · omega
    · obtain rfl | rfl : i = 37 ∨ i = 38 := by
        rcases right_left hD hS with h | h | h | h | h | h | h | h | h | h | h <;> omega
      · cases ho
        have h38 : S 38 = false := by
          cases h : S 38
          · rfl
          · exact absurd (cl38 h) (by simp [hS])
        have hall : ∀ j, j < 37 → S j = true := after_all 37 hb (by kernel_rfl)
        refine op_run (i := 37) rfl rfl rfl ?_
        exact ⟨hg, hB, fun j hj => by simp [hD j hj], _, _, _, _, _, _, rfl, fun _ => f21 (hall 12 (by decide)), fun _ => f22 (hall 13 (by decide)), fun _ => f25 (hall 17 (by decide)),
          fun _ _ => (by
            obtain ⟨b, n, D, e, h1, h2, h3, h4⟩ := f9 (hall 0 (by decide)) h38
            exact ⟨b, n, D, e, h1, h2, by simpa [laid] using h3, h4⟩), fun _ => rfl, fun _ j hj => by simp [hall j hj], fun _ => by simp, fun h => by simp [h38] at h⟩
      · cases ho
        have h37 : S 37 = true := hb _ (Array.mem_of_getElem? (i := 0) rfl) rfl
        have hall := cl37 h37
        obtain ⟨b, n, D, rfl, h1, h2, h3, h4⟩ := f9 (hall 0 (by decide)) hS
        obtain rfl := f41 h37
        obtain ⟨w2, hrun, r1, r2, r3⟩ := h2.range keyed_int Tryz.underlying67
        refine op_run (w' := w2) (v := .pointer (some ⟨w1.heap.size, 0, none⟩)) (i := 38) rfl rfl ?_ ?_
        · unfold execOp
          simp [Act.eval, rightT, hrun, Result.andThen]
        · exact ⟨grownBy.trans' hg r2, hB, fun j hj => by simp [hD j hj], _, _, _, _, _, _, rfl, fun _ => f21 (hall 12 (by decide)), fun _ => f22 (hall 13 (by decide)), fun _ => f25 (hall 17 (by decide)),
            fun _ h => by simp at h, fun _ => rfl, fun _ j hj => by simp [hall j hj], fun _ => by simp [h37], fun _ => ⟨b, _, n, D, h1, hg.size, rfl, r1, h4⟩⟩
  · intro w0 S a w1 hS hI
    obtain ⟨hg, ⟨hBl, hB⟩, hD, c9, c21, c22, c25, c41, c42, rfl, f21, f22, f25, f9, f41, cl37, cl38, f38⟩ := hI
    obtain ⟨b, r, n, D, hb, hr, rfl, hrg, hOK⟩ := f38 (hS 38 (by decide))
    have hk := hB.grown hg (by simp)
    have hlt : w.heap.size < r := Nat.lt_of_lt_of_le hB.lt hr
    have hbl := hBl.trans ((toB hg).mono hBl.size)
    clear f21 f22 f25 f9 f41 cl37 cl38 f38 hS hD
    have HK := Lib.hid hk; have HRG := Lib.hid hrg; have HOK := Lib.hid hOK; have HBL := Lib.hid hbl
    clear hk hrg hOK hg hB hbl hBl hb hr
    unfold rightT
    go_wp2_with fail
    go_loopw [2] (fun v2 wr => v2 = .bool false ∧ ∃ (left : Lit → Bool) (cnt : Nat), wr.ranges Tryz.prog 3 (plainElem (H := Unit) Tryz.prog 4) b r n D left cnt ∧ Below w.heap.size w wr ∧ isRow wr w.heap.size 45 #[.int .i64 k, .slice none 0 0, .slice none 0 0, .slice none 0 0, .slice none 0 0, .int .i64 0, .slice none 0 0, .slice none 0 0, .slice none 0 0, .slice none 0 0, .slice none 0 0, .slice none 0 0, .int .i64 0, .slice none 0 0, .slice none 0 0, .int .i64 idx, .slice none 0 0, .slice none 0 0, .slice none 0 0])
      (fun _ wr => wr.rangeLeft b r)
    case atStart => exact ⟨rfl, _, _, HRG.out, HBL.out, HK.out⟩
    case round =>
      obtain ⟨rfl, left, cnt, hrg, hbl, hk⟩ := hrel
      have HK1 := Lib.hid hk; have HRG1 := Lib.hid hrg; have HBL1 := Lib.hid hbl
      clear hk hrg hbl HRG HK HBL
      go_wp2_with (first
        | (at_next; refine wpList_next_ranges _ rfl _ rfl 3 keyed_int (plainElem (H := Unit) Tryz.prog 4) (.int .i64) (fun c : BB => .bool c.b) (fun key kl h => (keyOf_int_inv Tryz.underlying3 h).imp fun _ h => h.1) (fun v y h => (plainElem_bool_back Tryz.underlying4 h).imp fun _ h => h.1) b r n _ _ _ rfl HRG1.out ?_ ?_)
        | go_in)
      · intro _ _
        have h0 : wr.cell? ⟨w.heap.size, 0, none⟩ = some (.int .i64 k) := by rw [HK1.out.cell]; rfl
        have h15 : wr.cell? ⟨w.heap.size, 15, none⟩ = some (.int .i64 idx) := by rw [HK1.out.cell]; rfl
        have HH := H.out
        clear H
        rcases HH with ⟨rfl, rfl⟩ | ⟨rfl, rfl⟩
        all_goals
          go_wp2_with fail
          go_ret
          exact ⟨_, rfl, rfl, HBL1.out⟩
      · intro x ⟨c⟩ kl y1 y2 w2 cnt2 hkey hleft hval hat hrg2 hlt2 hgr2 hsz2 hen
        obtain ⟨x', hx', rfl, _⟩ := keyOf_int_inv Tryz.underlying3 hkey
        injection hx' with _ hx'
        subst hx'
        have hxc : x = k ∨ c = true := by
          rcases HOK.out x with h | h
          · exact .inl h
          · rw [hat] at h
            obtain ⟨⟨c'⟩, h1, h2⟩ := plainElem_bool_back Tryz.underlying4 hval
            have e1 : c = c' := Value.bool.inj h1
            have e2 : c' = true := Lit.bool.inj (DataW.lit.inj (h2.symm.trans h))
            exact .inr (e1.trans e2)
        have HRG2 := Lib.hid hrg2; have HB2 := Lib.hid (HBL1.out.grown hgr2 HBL1.out.size (fun j hj => by cases hj; omega)); have HK2 := Lib.hid (HK1.out.grown hgr2 (by simp; omega))
        have hm : w2.rangeLeft b r < wr.rangeLeft b r := by rw [hrg2.left_eq, HRG1.out.left_eq]; exact hlt2
        have h0 : w2.cell? ⟨w.heap.size, 0, none⟩ = some (.int .i64 k) := by rw [HK2.out.cell]; rfl
        have HM := Lib.hid hm; have HXC := Lib.hid hxc
        clear hkey hleft hval hat hrg2 hlt2 hgr2 hsz2 hm hxc HRG1 HBL1 HK1
        by_cases hxk : x = k
        · subst hxk
          go_wp2_with fail
          go_roundw
          case rel => exact ⟨rfl, _, _, HRG2.out, HB2.out, HK2.out⟩
          case measure => exact HM.out
        · have hc := HXC.out.resolve_left hxk
          subst hc
          have hxk' : (x == k) = false := by simpa using hxk
          go_wp2_with fail
          go_roundw
          case rel => exact ⟨rfl, _, _, HRG2.out, HB2.out, HK2.out⟩
          case measure => exact HM.out
theorem right_in : Callable Tryz.prog 12 := callable Tryz.func12 (by kernel_rfl) (by kernel_rfl)
end Go.Proofs
