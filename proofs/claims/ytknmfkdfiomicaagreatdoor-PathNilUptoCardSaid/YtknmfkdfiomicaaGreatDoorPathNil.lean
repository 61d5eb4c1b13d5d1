/- PathNil: what the law's function answers, whatever the path. -/
import Derived.Test.YtknmfkdfiomicaaGreatDoorFlow
import Derived.Test.YtknmfkdfiomicaaGreatDoorPath2
import Derived.Test.YtknmfkdfiomicaaGreatDoorPath19
import Derived.Test.YtknmfkdfiomicaaGreatDoorKnows19
namespace Go.Proofs
open Go.RowKit
/-- what each operation of the region of Begin leaves -/
def pn6 (n0 : Nat) (p : Option Addr) (i : Int) (j : Nat) (v : Value) (w : World) : Prop :=
  match j with
  | 0 => v = .pointer p
  | 1 => v = .int .i64 i
  | 2 => ∃ A c, v = .slice A 32 c
  | 3 => ∃ A c, v = .slice A 32 c
  | 4 => v = .tuple #[.agg #[.slice none 0 0, .slice none 0 0, .slice none 0 0, .int .i64 0, .slice none 0 0, .slice none 0 0, .slice none 0 0], .slice none 0 0, .int .i64 1]
  | 5 => v = .tuple #[.agg #[.slice none 0 0, .slice none 0 0, .slice none 0 0, .int .i64 0, .slice none 0 0, .slice none 0 0, .slice none 0 0], .slice none 0 0, .int .i64 1]
  | 6 => v = .agg #[.slice none 0 0, .slice none 0 0, .slice none 0 0, .int .i64 0, .slice none 0 0, .slice none 0 0, .slice none 0 0]
  | 7 => v = .slice none 0 0
  | 8 => v = .int .i64 1
  | 9 => ∃ b cs, v = .pointer (some ⟨b, 0, none⟩) ∧ n0 ≤ b ∧ isRow w b 36 cs ∧ cs.size = 7
  | 11 => v = .slice none 0 0
  | 12 => v = .int .i64 1
  | _ => True
theorem pn6_mono {n0 : Nat} {p : Option Addr} {i : Int} {w w' : World} (hg : w.grownBy w' none) (j : Nat) (v : Value) (h : pn6 n0 p i j v w) : pn6 n0 p i j v w' := by
  revert h
  unfold pn6
  split <;> intro h <;> first | exact h | (obtain ⟨b, cs, h1, h2, h3, h4⟩ := h; exact ⟨b, cs, h1, h2, h3.grown hg (by simp), h4⟩)
theorem pn6_store {n0 : Nat} {p : Option Addr} {i : Int} {w w' : World} {b : Nat} {cs : Array Value} (hg : w.grownBy w' (some b)) (hr : isRow w' b 36 cs) (hs : cs.size = 7) (j : Nat) (v : Value) (h : pn6 n0 p i j v w) : pn6 n0 p i j v w' := by
  revert h
  unfold pn6
  split <;> intro h <;> first | exact h | skip
  obtain ⟨b', cs', h1, h2, h3, h4⟩ := h
  by_cases hb : b' = b
  · subst hb; exact ⟨b', cs, h1, h2, hr, hs⟩
  · exact ⟨b', cs', h1, h2, h3.grown hg (by simpa using hb), h4⟩
theorem begin_in : Callable Tryz.prog 5 := callable Tryz.func5 (by kernel_rfl) (by kernel_rfl)
def pn6D : List (Option Nat) := [none, none, none, none, none, none, none, none, none, some 9, some 11, some 12, none, none, none, none, none, none, none, none, none, none, none, none, none, none, none, none, none, none, some 5, some 0, some 1, some 2, some 3, some 4, some 6, some 7, some 8, none, none, none, none, none, none, none, none, none, none, none, none, none, none, none, none, none, none, none, none, none, none, none, none, none, none, none, none, none, none, none, none, none, none, none, none, none, none, none, none, none, none, none, none, none, none, none, none, none, none, none, none, none, none, none, none, none, none, none, none, none, none, none, none, none, none]
/-- what each operation of the region of Seal leaves -/
def pn7 (n0 : Nat) (p : Option Addr) (i : Int) (cs : Array Value) (j : Nat) (v : Value) (w : World) : Prop :=
  match j with
  | 0 => v = .pointer p
  | 1 => v = .int .i64 i
  | 2 => v = .agg cs
  | 3 => ∃ c, v = .agg c
  | 4 => ∃ A c, v = .slice A 32 c
  | 5 => ∃ A c, v = .slice A 32 c
  | 6 => v = .tuple #[.agg #[.slice none 0 0, .slice none 0 0, .slice none 0 0, .int .i64 0, .slice none 0 0, .slice none 0 0, .slice none 0 0], .int .i64 1]
  | 7 => v = .tuple #[.agg #[.slice none 0 0, .slice none 0 0, .slice none 0 0, .int .i64 0, .slice none 0 0, .slice none 0 0, .slice none 0 0], .int .i64 1]
  | 8 => v = .agg #[.slice none 0 0, .slice none 0 0, .slice none 0 0, .int .i64 0, .slice none 0 0, .slice none 0 0, .slice none 0 0]
  | 9 => v = .int .i64 1
  | 10 => ∃ b cs, v = .pointer (some ⟨b, 0, none⟩) ∧ n0 ≤ b ∧ isRow w b 36 cs ∧ cs.size = 7
  | 12 => v = .int .i64 1
  | _ => True
theorem pn7_mono {n0 : Nat} {p : Option Addr} {i : Int} {c : Array Value} {w w' : World} (hg : w.grownBy w' none) (j : Nat) (v : Value) (h : pn7 n0 p i c j v w) : pn7 n0 p i c j v w' := by
  revert h
  unfold pn7
  split <;> intro h <;> first | exact h | (obtain ⟨b, cs, h1, h2, h3, h4⟩ := h; exact ⟨b, cs, h1, h2, h3.grown hg (by simp), h4⟩)
theorem pn7_store {n0 : Nat} {p : Option Addr} {i : Int} {c : Array Value} {w w' : World} {b : Nat} {cs : Array Value} (hg : w.grownBy w' (some b)) (hr : isRow w' b 36 cs) (hs : cs.size = 7) (j : Nat) (v : Value) (h : pn7 n0 p i c j v w) : pn7 n0 p i c j v w' := by
  revert h
  unfold pn7
  split <;> intro h <;> first | exact h | skip
  obtain ⟨b', cs', h1, h2, h3, h4⟩ := h
  by_cases hb : b' = b
  · subst hb; exact ⟨b', cs, h1, h2, hr, hs⟩
  · exact ⟨b', cs', h1, h2, h3.grown hg (by simpa using hb), h4⟩
def pn7D : List (Option Nat) := [none, none, none, none, none, none, none, none, none, none, none, none, some 10, some 12, none, none, none, none, none, none, none, none, none, none, none, none, none, none, none, none, none, none, none, none, none, none, none, none, none, some 7, some 0, some 1, some 2, some 3, some 4, some 5, some 6, some 8, some 9, none, none, none, none, none, none, none, none, none, none, none, none, none, none, none, none, none, none, none, none, none, none, none, none, none, none, none, none, none, none, none, none, none, none, none, none, none, none, none, none, none, none, none, none, none, none, none, none, none, none, none, none, none, none, none, none]
theorem seal_in : Callable Tryz.prog 6 := callable Tryz.func6 (by kernel_rfl) (by kernel_rfl)
theorem take_in : Callable Tryz.prog 9 := callable Tryz.func9 (by kernel_rfl) (by kernel_rfl)
theorem rpath_size : (Tryz.prog.info? 27).map (·.size) = some 7 := by kernel_rfl
theorem PathC.size {w : World} {cs : List Value} {d : PathD} (h : PathC w cs d) : cs.length = 7 := by
  obtain ⟨ls, t, rfl, h1, _⟩ := h; simp [h1.length]
/-- what each operation of the region of Take leaves -/
def pn9 (p : Option Addr) (i : Int) (cs : Array Value) (j : Nat) (v : Value) (_ : World) : Prop :=
  match j with
  | 0 => v = .pointer p
  | 1 => v = .int .i64 i
  | 2 => v = .agg cs
  | 3 => ∃ l0 l1 l2 l3 l4 l5 S n c, v = .agg #[l0, l1, l2, l3, l4, l5, .slice S n c]
  | 4 => ∃ A c, v = .slice A 32 c
  | 5 => v = .tuple #[.map none, .slice none 0 0, .int .i64 1]
  | 6 => v = .tuple #[.map none, .slice none 0 0, .int .i64 1]
  | 7 => v = .map none
  | 8 => v = .slice none 0 0
  | 9 => v = .int .i64 1
  | 10 => v = .map none
  | 11 => v = .slice none 0 0
  | 12 => v = .int .i64 1
  | _ => True
def pn9D : List (Option Nat) := [none, none, none, none, none, none, none, none, none, none, none, none, none, none, none, none, none, some 10, some 11, some 12, none, none, none, none, none, none, none, none, none, none, none, none, none, none, none, none, none, none, none, none, none, none, none, none, none, none, none, none, none, none, none, none, none, none, none, none, none, none, none, none, some 6, some 0, some 1, some 2, some 3, some 4, some 5, some 7, some 8, some 9, none, none, none, none, none, none, none, none, none, none, none, none, none, none, none, none, none, none, none, none, none, none, none, none, none, none, none, none, none, none, none, none, none, none, none]
set_option maxRecDepth 8000 in
set_option maxHeartbeats 1600000 in
theorem pathNil_calls (cs : List Value) (d : PathD) (i : Int) (w : World) (h : PathC w cs d) :
    Calls Tryz.prog 3 #[.int .i64 i, .agg cs.toArray] w fun e w' => e = .returned (.bool true) ∧ Below w.heap.size w w' := by
  have HP := Lib.hid h
  clear h
  go_enter Tryz.func3, Tryz.ntmps3
  go_wp2_with (refine wpList_box 27 (.tmp 1) cs.toArray rfl rfl rfl ?_; intro W1 r1 g1 s1
               have R1 := Lib.hid r1; have B1 := Lib.hid (toB g1); clear r1 g1 s1)
  go_loopw [5, 6] (fun v5 v6 wr => ∃ (k : Nat) (p : Option Addr), v6 = .int .i64 k ∧ v5 = .pointer p ∧ k ≤ 2 ∧ NoTree wr p ∧ Below w.heap.size w wr ∧ isRow wr w.heap.size 27 cs.toArray)
    (fun _ v6 _ => 2 - (intOf v6).toNat)
  case atStart => exact ⟨0, none, rfl, rfl, by omega, .inl rfl, B1.out, R1.out⟩
  case round =>
    obtain ⟨k, p, rfl, rfl, hk, hT, hB, hR⟩ := hrel
    have HT := Lib.hid hT; have HB := Lib.hid hB; have HR := Lib.hid hR
    clear hT hB hR
    by_cases hlt : k < 2
    · go_wp2_with (first
        | (go_at_call 4; refine (plan_none _ _ _ _ _ _ HT.out).mono ?_; rintro e w1 ⟨rfl, h1⟩; have HT := Lib.hid (HT.out.below h1); have HR := Lib.hid (HR.out.below h1 HR.out.lt); have HB := Lib.hid (HB.out.trans (h1.mono HB.out.size)); clear h1))
      refine wp_region_flow (pn6 w1.heap.size p i) pn6D _ Tryz.mixed (by kernel_rfl) ?_ ?_
      · intro j o ho a w2 vals hB2 hp hs _
        have hT2 := HT.out.below hB2
        rcases j with _ | _ | _ | _ | _ | _ | _ | _ | _ | _ | _ | _ | _ | j
        · cases ho
          exact op_move rfl rfl rfl (hs 5 _ rfl rfl) ⟨_, rfl, hB2, rfl, fun _ _ h => h⟩
        · cases ho
          exact op_move rfl rfl rfl (hs 0 _ rfl rfl) ⟨_, rfl, hB2, rfl, fun _ _ h => h⟩
        · cases ho
          exact op_make rfl rfl rfl rfl rfl make32 ⟨_, rfl, hB2.alloc hB2.size _, ⟨_, _, rfl⟩, pn6_mono (World.grownBy_alloc _ _ _)⟩
        · cases ho
          exact op_make rfl rfl rfl rfl rfl make32 ⟨_, rfl, hB2.alloc hB2.size _, ⟨_, _, rfl⟩, pn6_mono (World.grownBy_alloc _ _ _)⟩
        · cases ho
          have p0 := hp _ (Array.mem_of_getElem? (i := 0) rfl) rfl; have p1 := hp _ (Array.mem_of_getElem? (i := 1) rfl) rfl; have p2 := hp _ (Array.mem_of_getElem? (i := 2) rfl) rfl; have p3 := hp _ (Array.mem_of_getElem? (i := 3) rfl) rfl
          obtain ⟨A2, c2, q2⟩ := (show ∃ A c, vals 2 = .slice A 32 c from p2.1)
          obtain ⟨A3, c3, q3⟩ := (show ∃ A c, vals 3 = .slice A 32 c from p3.1)
          have q0 : vals 0 = .pointer p := p0.1
          have q1 : vals 1 = .int .i64 i := p1.1
          have e31 := (p0.2 31 rfl).trans q0; have e32 := (p1.2 32 rfl).trans q1; have e33 := (p2.2 33 rfl).trans q2; have e34 := (p3.2 34 rfl).trans q3
          exact op_call1 rfl rfl rfl begin_in (begin_none _ _ A2 A3 none _ _ _ _ _ _ w2 hT2) (show [a.eval (.tmp 31), a.eval (.tmp 32), a.eval (.tmp 33), a.eval (.tmp 34), a.eval (.const (.slice none 0 0))] = _ by rw [e31, e32, e33, e34]; rfl)
            fun w3 h3 => ⟨_, rfl, hB2.trans (h3.mono hB2.size), rfl, pn6_mono (toGrown h3 none)⟩
        · cases ho
          have p4 := hp _ (Array.mem_of_getElem? (i := 0) rfl) rfl
          exact op_move rfl rfl rfl ((p4.2 35 rfl).trans (show vals 4 = .tuple #[.agg #[.slice none 0 0, .slice none 0 0, .slice none 0 0, .int .i64 0, .slice none 0 0, .slice none 0 0, .slice none 0 0], .slice none 0 0, .int .i64 1] from p4.1)) ⟨_, rfl, hB2, rfl, fun _ _ h => h⟩
        · cases ho
          have p5 := hp _ (Array.mem_of_getElem? (i := 0) rfl) rfl
          exact op_extract rfl rfl rfl ((p5.2 30 rfl).trans (show vals 5 = .tuple #[.agg #[.slice none 0 0, .slice none 0 0, .slice none 0 0, .int .i64 0, .slice none 0 0, .slice none 0 0, .slice none 0 0], .slice none 0 0, .int .i64 1] from p5.1)) (fun _ => rfl) ⟨_, rfl, hB2, rfl, fun _ _ h => h⟩
        · cases ho
          have p5 := hp _ (Array.mem_of_getElem? (i := 0) rfl) rfl
          exact op_extract rfl rfl rfl ((p5.2 30 rfl).trans (show vals 5 = .tuple #[.agg #[.slice none 0 0, .slice none 0 0, .slice none 0 0, .int .i64 0, .slice none 0 0, .slice none 0 0, .slice none 0 0], .slice none 0 0, .int .i64 1] from p5.1)) (fun _ => rfl) ⟨_, rfl, hB2, rfl, fun _ _ h => h⟩
        · cases ho
          have p5 := hp _ (Array.mem_of_getElem? (i := 0) rfl) rfl
          exact op_extract rfl rfl rfl ((p5.2 30 rfl).trans (show vals 5 = .tuple #[.agg #[.slice none 0 0, .slice none 0 0, .slice none 0 0, .int .i64 0, .slice none 0 0, .slice none 0 0, .slice none 0 0], .slice none 0 0, .int .i64 1] from p5.1)) (fun _ => rfl) ⟨_, rfl, hB2, rfl, fun _ _ h => h⟩
        · cases ho
          exact op_alloc rfl rfl rfl new_path ⟨_, rfl, hB2.alloc hB2.size _, ⟨_, _, rfl, hB2.size, isRow.new _ _ _, rfl⟩, pn6_mono (World.grownBy_alloc _ _ _)⟩
        · cases ho
          have p9 := hp _ (Array.mem_of_getElem? (i := 0) rfl) rfl; have p6 := hp _ (Array.mem_of_getElem? (i := 1) rfl) rfl
          obtain ⟨b, cs9, q9, hb9, hr9, hsz⟩ := (show ∃ b cs, vals 9 = .pointer (some ⟨b, 0, none⟩) ∧ w1.heap.size ≤ b ∧ isRow w2 b 36 cs ∧ cs.size = 7 from p9.1)
          refine op_store [.slice none 0 0, .slice none 0 0, .slice none 0 0, .int .i64 0, .slice none 0 0, .slice none 0 0, .slice none 0 0] rfl rfl rfl ((p9.2 9 rfl).trans q9) ((p6.2 36 rfl).trans (show vals 6 = .agg #[.slice none 0 0, .slice none 0 0, .slice none 0 0, .int .i64 0, .slice none 0 0, .slice none 0 0, .slice none 0 0] from p6.1)) hr9 (by rw [hsz]; exact Nat.le_refl _) path_size rfl ?_
          intro w3 h3 hg3 _
          exact ⟨_, rfl, hB2.grown hg3 hB2.size (fun j hj => by cases hj; exact hb9), trivial, pn6_store hg3 h3 (by simp [hsz])⟩
        · cases ho
          have p7 := hp _ (Array.mem_of_getElem? (i := 0) rfl) rfl
          exact op_assign rfl rfl rfl ((p7.2 37 rfl).trans (show vals 7 = .slice none 0 0 from p7.1)) ⟨_, rfl, hB2, rfl, fun _ _ h => h⟩
        · cases ho
          have p8 := hp _ (Array.mem_of_getElem? (i := 0) rfl) rfl
          exact op_assign rfl rfl rfl ((p8.2 38 rfl).trans (show vals 8 = .int .i64 1 from p8.1)) ⟨_, rfl, hB2, rfl, fun _ _ h => h⟩
        · simp at ho
      · intro vals w2 hB2 hΦ
        simp only [pn6D, List.zipWith_cons_cons, List.zipWith_nil_left]
        have q12 : vals 12 = .int .i64 1 := hΦ 12 (Nat.le_of_ble_eq_true rfl)
        simp only [q12]
        have HT := Lib.hid (HT.out.below hB2); have HR := Lib.hid (HR.out.below hB2 HR.out.lt); have HB := Lib.hid (HB.out.trans (hB2.mono HB.out.size))
        clear hB2 hΦ q12
        go_wp2_with fail
        refine wp_region_flow (pn7 w2.heap.size p i cs.toArray) pn7D _ Tryz.mixed (by kernel_rfl) ?_ ?_
        · intro j o ho a w3 vals hB3 hp hs _
          have hT3 := HT.out.below hB3
          rcases j with _ | _ | _ | _ | _ | _ | _ | _ | _ | _ | _ | _ | _ | j
          · cases ho
            exact op_move rfl rfl rfl (hs 5 _ rfl rfl) ⟨_, rfl, hB3, rfl, fun _ _ h => h⟩
          · cases ho
            exact op_move rfl rfl rfl (hs 0 _ rfl rfl) ⟨_, rfl, hB3, rfl, fun _ _ h => h⟩
          · cases ho
            exact op_load_row rfl rfl rfl (hs 3 _ rfl rfl) (HR.out.below hB3 HR.out.lt) Tryz.underlying27 rfl (by rw [rpath_size]; simp [HP.out.size]) ⟨_, rfl, hB3, rfl, fun _ _ h => h⟩
          · cases ho
            have p2 := hp _ (Array.mem_of_getElem? (i := 0) rfl) rfl
            have e42 := (p2.2 42 rfl).trans (show vals 2 = .agg cs.toArray from p2.1)
            refine op_call rfl rfl rfl path19_in (path19 cs d w3 (HP.out.below (HB.out.trans (hB3.mono HB.out.size)))) (show [a.eval (.tmp 42)] = _ by rw [e42]) ?_
            rintro v w4 ⟨l0, l1, l2, l3, l4, l5, S, n, c, rfl⟩ hb4
            exact ⟨_, rfl, hB3.trans (hb4.mono hB3.size), ⟨_, rfl⟩, pn7_mono (toGrown hb4 none)⟩
          · cases ho
            exact op_make rfl rfl rfl rfl rfl make32 ⟨_, rfl, hB3.alloc hB3.size _, ⟨_, _, rfl⟩, pn7_mono (World.grownBy_alloc _ _ _)⟩
          · cases ho
            exact op_make rfl rfl rfl rfl rfl make32 ⟨_, rfl, hB3.alloc hB3.size _, ⟨_, _, rfl⟩, pn7_mono (World.grownBy_alloc _ _ _)⟩
          · cases ho
            have p0 := hp _ (Array.mem_of_getElem? (i := 0) rfl) rfl
            have p1 := hp _ (Array.mem_of_getElem? (i := 1) rfl) rfl
            have p3 := hp _ (Array.mem_of_getElem? (i := 2) rfl) rfl
            have p4 := hp _ (Array.mem_of_getElem? (i := 3) rfl) rfl
            have p5 := hp _ (Array.mem_of_getElem? (i := 4) rfl) rfl
            obtain ⟨c3, q3⟩ := (show ∃ c, vals 3 = .agg c from p3.1)
            obtain ⟨A4, c4, q4⟩ := (show ∃ A c, vals 4 = .slice A 32 c from p4.1)
            obtain ⟨A5, c5, q5⟩ := (show ∃ A c, vals 5 = .slice A 32 c from p5.1)
            have e40 := (p0.2 40 rfl).trans (show vals 0 = .pointer p from p0.1); have e41 := (p1.2 41 rfl).trans (show vals 1 = .int .i64 i from p1.1); have e43 := (p3.2 43 rfl).trans q3; have e44 := (p4.2 44 rfl).trans q4; have e45 := (p5.2 45 rfl).trans q5
            exact op_call1 rfl rfl rfl seal_in (seal_none _ _ A4 none A5 _ _ _ _ _ _ none _ _ c3 w3 hT3) (show [a.eval (.tmp 40), a.eval (.tmp 41), a.eval (.tmp 43), a.eval (.tmp 44), a.eval (.const (.slice none 0 0)), a.eval (.tmp 45), a.eval (.const (.slice none 0 0))] = _ by rw [e40, e41, e43, e44, e45]; rfl)
              fun w4 h4 => ⟨_, rfl, hB3.trans (h4.mono hB3.size), rfl, pn7_mono (toGrown h4 none)⟩
          · cases ho
            have p6 := hp _ (Array.mem_of_getElem? (i := 0) rfl) rfl
            exact op_move rfl rfl rfl ((p6.2 46 rfl).trans (show vals 6 = .tuple #[.agg #[.slice none 0 0, .slice none 0 0, .slice none 0 0, .int .i64 0, .slice none 0 0, .slice none 0 0, .slice none 0 0], .int .i64 1] from p6.1)) ⟨_, rfl, hB3, rfl, fun _ _ h => h⟩
          · cases ho
            have p7 := hp _ (Array.mem_of_getElem? (i := 0) rfl) rfl
            exact op_extract rfl rfl rfl ((p7.2 39 rfl).trans (show vals 7 = .tuple #[.agg #[.slice none 0 0, .slice none 0 0, .slice none 0 0, .int .i64 0, .slice none 0 0, .slice none 0 0, .slice none 0 0], .int .i64 1] from p7.1)) (fun _ => rfl) ⟨_, rfl, hB3, rfl, fun _ _ h => h⟩
          · cases ho
            have p7 := hp _ (Array.mem_of_getElem? (i := 0) rfl) rfl
            exact op_extract rfl rfl rfl ((p7.2 39 rfl).trans (show vals 7 = .tuple #[.agg #[.slice none 0 0, .slice none 0 0, .slice none 0 0, .int .i64 0, .slice none 0 0, .slice none 0 0, .slice none 0 0], .int .i64 1] from p7.1)) (fun _ => rfl) ⟨_, rfl, hB3, rfl, fun _ _ h => h⟩
          · cases ho
            exact op_alloc rfl rfl rfl new_path ⟨_, rfl, hB3.alloc hB3.size _, ⟨_, _, rfl, hB3.size, isRow.new _ _ _, rfl⟩, pn7_mono (World.grownBy_alloc _ _ _)⟩
          · cases ho
            have p10 := hp _ (Array.mem_of_getElem? (i := 0) rfl) rfl
            have p8 := hp _ (Array.mem_of_getElem? (i := 1) rfl) rfl
            obtain ⟨b, cs9, q9, hb9, hr9, hsz⟩ := (show ∃ b cs, vals 10 = .pointer (some ⟨b, 0, none⟩) ∧ w2.heap.size ≤ b ∧ isRow w3 b 36 cs ∧ cs.size = 7 from p10.1)
            refine op_store [.slice none 0 0, .slice none 0 0, .slice none 0 0, .int .i64 0, .slice none 0 0, .slice none 0 0, .slice none 0 0] rfl rfl rfl ((p10.2 12 rfl).trans q9) ((p8.2 47 rfl).trans (show vals 8 = .agg #[.slice none 0 0, .slice none 0 0, .slice none 0 0, .int .i64 0, .slice none 0 0, .slice none 0 0, .slice none 0 0] from p8.1)) hr9 (by rw [hsz]; exact Nat.le_refl _) path_size rfl ?_
            intro w4 h4 hg4 _
            exact ⟨_, rfl, hB3.grown hg4 hB3.size (fun j hj => by cases hj; exact hb9), trivial, pn7_store hg4 h4 (by simp [hsz])⟩
          · cases ho
            have p9 := hp _ (Array.mem_of_getElem? (i := 0) rfl) rfl
            exact op_assign rfl rfl rfl ((p9.2 48 rfl).trans (show vals 9 = .int .i64 1 from p9.1)) ⟨_, rfl, hB3, rfl, fun _ _ h => h⟩
          · simp at ho
        · intro vals w3 hB3 hΦ
          simp only [pn7D, List.zipWith_cons_cons, List.zipWith_nil_left]
          have q12 : vals 12 = .int .i64 1 := hΦ 12 (Nat.le_of_ble_eq_true rfl)
          simp only [q12]
          have HT := Lib.hid (HT.out.below hB3); have HR := Lib.hid (HR.out.below hB3 HR.out.lt); have HB := Lib.hid (HB.out.trans (hB3.mono HB.out.size))
          clear hB3 hΦ q12
          go_wp2_with (first
            | (refine wpList_load_row 27 (.tmp 3) rfl rfl rfl HR.out Tryz.underlying27 rfl (by rw [rpath_size]; simp [HP.out.size]) ?_)
            | (go_at_call 7; refine (path19 cs d _ (HP.out.below HB.out)).mono ?_; rintro e w4 ⟨_, rfl, ⟨l0, l1, l2, l3, l4, l5, S, n, c, rfl⟩, hb4⟩
               have HT := Lib.hid (HT.out.below hb4); have HR := Lib.hid (HR.out.below hb4 HR.out.lt); have HB := Lib.hid (HB.out.trans (hb4.mono HB.out.size)); clear hb4)
            | (go_at_call 8; refine (open_none _ _ _ _ none none _ _ _ _ none _ HT.out).mono ?_; rintro e w5 ⟨rfl, hb5⟩
               have HT := Lib.hid (HT.out.below hb5); have HR := Lib.hid (HR.out.below hb5 HR.out.lt); have HB := Lib.hid (HB.out.trans (hb5.mono HB.out.size)); clear hb5))
          refine wp_region_flow (pn9 p i cs.toArray) pn9D _ Tryz.mixed (by kernel_rfl) ?_ ?_
          · intro j o ho a w6 vals' hB6 hp hs _
            have hT6 := HT.out.below hB6
            rcases j with _ | _ | _ | _ | _ | _ | _ | _ | _ | _ | _ | _ | _ | j
            · cases ho
              exact op_move rfl rfl rfl (hs 5 _ rfl rfl) ⟨_, rfl, hB6, rfl, fun _ _ h => h⟩
            · cases ho
              exact op_move rfl rfl rfl (hs 0 _ rfl rfl) ⟨_, rfl, hB6, rfl, fun _ _ h => h⟩
            · cases ho
              exact op_load_row rfl rfl rfl (hs 3 _ rfl rfl) (HR.out.below hB6 HR.out.lt) Tryz.underlying27 rfl (by rw [rpath_size]; simp [HP.out.size]) ⟨_, rfl, hB6, rfl, fun _ _ h => h⟩
            · cases ho
              have p2 := hp _ (Array.mem_of_getElem? (i := 0) rfl) rfl
              have e63 := (p2.2 63 rfl).trans (show vals' 2 = .agg cs.toArray from p2.1)
              refine op_call rfl rfl rfl path19_in (path19 cs d w6 (HP.out.below (HB.out.trans (hB6.mono HB.out.size)))) (show [a.eval (.tmp 63)] = _ by rw [e63]) ?_
              rintro v w7 hv hb7
              exact ⟨_, rfl, hB6.trans (hb7.mono hB6.size), hv, fun _ _ h => h⟩
            · cases ho
              exact op_make rfl rfl rfl rfl rfl make32 ⟨_, rfl, hB6.alloc hB6.size _, ⟨_, _, rfl⟩, fun _ _ h => h⟩
            · cases ho
              have p0 := hp _ (Array.mem_of_getElem? (i := 0) rfl) rfl
              have p1 := hp _ (Array.mem_of_getElem? (i := 1) rfl) rfl
              have p3 := hp _ (Array.mem_of_getElem? (i := 2) rfl) rfl
              have p4 := hp _ (Array.mem_of_getElem? (i := 3) rfl) rfl
              obtain ⟨l0, l1, l2, l3, l4, l5, S, n, c, q3⟩ := (show ∃ l0 l1 l2 l3 l4 l5 S n c, vals' 3 = .agg #[l0, l1, l2, l3, l4, l5, .slice S n c] from p3.1)
              obtain ⟨A4, c4, q4⟩ := (show ∃ A c, vals' 4 = .slice A 32 c from p4.1)
              have e61 := (p0.2 61 rfl).trans (show vals' 0 = .pointer p from p0.1); have e62 := (p1.2 62 rfl).trans (show vals' 1 = .int .i64 i from p1.1); have e64 := (p3.2 64 rfl).trans q3; have e65 := (p4.2 65 rfl).trans q4
              exact op_call1 rfl rfl rfl take_in (take_none _ _ l0 l1 l2 l3 l4 l5 S A4 n c _ _ w6 hT6) (show [a.eval (.tmp 61), a.eval (.tmp 62), a.eval (.tmp 64), a.eval (.const (.int .i64 0)), a.eval (.tmp 65)] = _ by rw [e61, e62, e64, e65]; rfl)
                fun w7 h7 => ⟨_, rfl, hB6.trans (h7.mono hB6.size), rfl, fun _ _ h => h⟩
            · cases ho
              have p5 := hp _ (Array.mem_of_getElem? (i := 0) rfl) rfl
              exact op_move rfl rfl rfl ((p5.2 66 rfl).trans (show vals' 5 = .tuple #[.map none, .slice none 0 0, .int .i64 1] from p5.1)) ⟨_, rfl, hB6, rfl, fun _ _ h => h⟩
            · cases ho
              have p6 := hp _ (Array.mem_of_getElem? (i := 0) rfl) rfl
              exact op_extract rfl rfl rfl ((p6.2 60 rfl).trans (show vals' 6 = .tuple #[.map none, .slice none 0 0, .int .i64 1] from p6.1)) (fun _ => rfl) ⟨_, rfl, hB6, rfl, fun _ _ h => h⟩
            · cases ho
              have p6 := hp _ (Array.mem_of_getElem? (i := 0) rfl) rfl
              exact op_extract rfl rfl rfl ((p6.2 60 rfl).trans (show vals' 6 = .tuple #[.map none, .slice none 0 0, .int .i64 1] from p6.1)) (fun _ => rfl) ⟨_, rfl, hB6, rfl, fun _ _ h => h⟩
            · cases ho
              have p6 := hp _ (Array.mem_of_getElem? (i := 0) rfl) rfl
              exact op_extract rfl rfl rfl ((p6.2 60 rfl).trans (show vals' 6 = .tuple #[.map none, .slice none 0 0, .int .i64 1] from p6.1)) (fun _ => rfl) ⟨_, rfl, hB6, rfl, fun _ _ h => h⟩
            · cases ho
              have p7 := hp _ (Array.mem_of_getElem? (i := 0) rfl) rfl
              exact op_assign rfl rfl rfl ((p7.2 67 rfl).trans (show vals' 7 = .map none from p7.1)) ⟨_, rfl, hB6, rfl, fun _ _ h => h⟩
            · cases ho
              have p8 := hp _ (Array.mem_of_getElem? (i := 0) rfl) rfl
              exact op_assign rfl rfl rfl ((p8.2 68 rfl).trans (show vals' 8 = .slice none 0 0 from p8.1)) ⟨_, rfl, hB6, rfl, fun _ _ h => h⟩
            · cases ho
              have p9 := hp _ (Array.mem_of_getElem? (i := 0) rfl) rfl
              exact op_assign rfl rfl rfl ((p9.2 69 rfl).trans (show vals' 9 = .int .i64 1 from p9.1)) ⟨_, rfl, hB6, rfl, fun _ _ h => h⟩
            · simp at ho
          · intro vals' w6 hB6 hΦ
            simp only [pn9D, List.zipWith_cons_cons, List.zipWith_nil_left]
            have q12 : vals' 12 = .int .i64 1 := hΦ 12 (Nat.le_of_ble_eq_true rfl)
            simp only [q12]
            have HT := Lib.hid (HT.out.below hB6); have HR := Lib.hid (HR.out.below hB6 HR.out.lt); have HB := Lib.hid (HB.out.trans (hB6.mono HB.out.size))
            clear hB6 hΦ q12
            go_wp2_with (first
              | (go_at_call 10; refine (num19 _ _).mono ?_; rintro e w7 ⟨rfl, rfl⟩)
              | (refine wpList_load_at 27 (.tmp 3) rfl rfl rfl HR.out Tryz.underlying27 rfl (by rw [rpath_size]; simp [HP.out.size]) ?_)
              | (go_at_call 7; refine (path19 cs d _ (HP.out.below HB.out)).mono ?_; rintro e w4 ⟨_, rfl, ⟨l0, l1, l2, l3, l4, l5, S, n, c, rfl⟩, hb4⟩
                 have HT := Lib.hid (HT.out.below hb4); have HR := Lib.hid (HR.out.below hb4 HR.out.lt); have HB := Lib.hid (HB.out.trans (hb4.mono HB.out.size)); clear hb4)
              | (go_at_call 11; refine (apply_path_none _ _ _ none _ _ _ HT.out).mono ?_; rintro e w5 ⟨rfl, hb5⟩
                 have HT := Lib.hid (HT.out.below hb5); have HR := Lib.hid (HR.out.below hb5 HR.out.lt); have HB := Lib.hid (HB.out.trans (hb5.mono HB.out.size)); clear hb5)
              | (refine wpList_box 51 (.tmp 102) #[.int .i64 0, .map none] rfl rfl rfl ?_; intro W r g s
                 have HT := Lib.hid (show NoTree W _ from .inr ⟨_, rfl, r⟩); have HR := Lib.hid (HR.out.grown g (by simp)); have HB := Lib.hid (HB.out.trans ((toB g).mono HB.out.size)); clear r g s))
            go_roundw
            case rel => exact ⟨k + 1, _, by go_num, rfl, by omega, HT.out, HB.out, HR.out⟩
            case measure => simp [intOf]; omega
    · obtain rfl : k = 2 := by omega
      go_wp2_with (go_at_call 12; refine (knows19 _).mono ?_; rintro e w1 ⟨rfl, hb1⟩; have HB := Lib.hid (HB.out.trans (hb1.mono HB.out.size)); clear hb1)
      go_ret
      exact ⟨rfl, HB.out⟩
end Go.Proofs
