/- The laws' own function that makes the program's path of the document's: it comes to an end, and hands back a path of as many steps. -/
import Derived.Test.YtknmfkdfiomicaaGreatDoorFlow2
import Derived.Test.YtknmfkdfiomicaaGreatDoorList20
import Derived.Deep.DeepCutAuto
namespace Go.Proofs
open Go.RowKit
structure SealedD where
  enc : List UInt8
  body : List UInt8
structure StepD where
  key : List UInt8
  tos : List SealedD
structure PathD where
  leaf : LeafD
  steps : List StepD
def SealedC (w : World) (cs : List Value) (d : SealedD) : Prop := ∃ a b, cs = [a, b] ∧ BytesL w a d.enc ∧ BytesL w b d.body
def StepC (w : World) (cs : List Value) (d : StepD) : Prop := ∃ a t, cs = [a, t] ∧ BytesL w a d.key ∧ Structs w 2 t d.tos SealedC ∧ d.tos.length * 48 ≤ lim
def PathC (w : World) (cs : List Value) (d : PathD) : Prop := ∃ ls t, cs = ls ++ [t] ∧ LeafC w ls d.leaf ∧ Structs w 2 t d.steps StepC ∧ d.steps.length * 48 ≤ lim
theorem SealedC.below {w w' : World} {cs : List Value} {d : SealedD} (h : SealedC w cs d) (hb : Below w.heap.size w w') : SealedC w' cs d := by
  obtain ⟨a, b, h0, h1, h2⟩ := h
  exact ⟨a, b, h0, h1.below hb, h2.below hb⟩
theorem StepC.below {w w' : World} {cs : List Value} {d : StepD} (h : StepC w cs d) (hb : Below w.heap.size w w') : StepC w' cs d := by
  obtain ⟨a, t, h0, h1, h2, h3⟩ := h
  exact ⟨a, t, h0, h1.below hb, h2.below hb (fun cs d h => h.below hb), h3⟩
theorem PathC.below {w w' : World} {cs : List Value} {d : PathD} (h : PathC w cs d) (hb : Below w.heap.size w w') : PathC w' cs d := by
  obtain ⟨ls, t, h0, h1, h2, h3⟩ := h
  exact ⟨ls, t, h0, h1.below hb, h2.below hb (fun cs d h => h.below hb), h3⟩
theorem LeafC.size {w : World} {cs : List Value} {d : LeafD} (h : LeafC w cs d) : cs.length = 6 := by
  obtain ⟨a, b, c, e, f, rfl, _⟩ := h; rfl
theorem Tryz.step_info : (Tryz.prog.info? 70).map (fun i => (i.zero, i.size, i.bytes)) = some (some (.agg #[.slice none 0 0, .slice none 0 0]), 2, 48) := by kernel_rfl
theorem Tryz.sealed_info : (Tryz.prog.info? 83).map (fun i => (i.zero, i.size, i.bytes)) = some (some (.agg #[.slice none 0 0, .slice none 0 0]), 2, 48) := by kernel_rfl
theorem new_path' : ∀ w : World, (Instr.alloc 36 true (.tuple #[])).run Tryz.prog w = .ok (.pointer (some ⟨w.heap.size, 0, none⟩)) (w.alloc (.cells #[.slice none 0 0, .slice none 0 0, .slice none 0 0, .int .i64 0, .slice none 0 0, .slice none 0 0, .slice none 0 0] 36)) := fun _ => by kernel_rfl
theorem new_step : ∀ w : World, (Instr.alloc 70 true (.tuple #[])).run Tryz.prog w = .ok (.pointer (some ⟨w.heap.size, 0, none⟩)) (w.alloc (.cells #[.slice none 0 0, .slice none 0 0] 70)) := fun _ => by kernel_rfl
theorem build_path (q0 q1 q2 q3 q4 q5 : Value) : ∀ w : World, (Instr.build 36 #[(0, .agg #[q0, q1, q2, q3, q4, q5])]).run Tryz.prog w = .ok (.agg #[q0, q1, q2, q3, q4, q5, .slice none 0 0]) w := fun _ => by kernel_rfl
theorem build_step (A : Option Addr) (n c : Nat) : ∀ w : World, (Instr.build 70 #[(0, .slice A n c)]).run Tryz.prog w = .ok (.agg #[.slice A n c, .slice none 0 0]) w := fun _ => by kernel_rfl
theorem wpList_empty {P : Program} {ops : Array Oper} {rest : List Oper} {o : Oper} {a : Act} {w : World} {Q : Exit → Act → World → Prop} {t e : TypeId} (hg : o.guard = none) (hop : o.op = .buildSlice t 0 #[])
    (hrun : ∀ w : World, (Instr.buildSlice t 0 #[]).run P w = .ok (.slice (some ⟨w.heap.size, 0, none⟩) 0 0) (w.alloc (.cells #[] e)))
    (h : ∀ W : World, w.grownBy W none → W.heap.size = w.heap.size + 1 → wpList P ops Q rest (a.put o.dst (.slice (some ⟨w.heap.size, 0, none⟩) 0 0)) W) : wpList P ops Q (o :: rest) a w := by
  refine wpList_plain hg fun K' hK' => ?_
  unfold Oper.wp execOp
  simp only [hop, List.map_toArray, List.map_nil, Sem.run_bind, hrun, Result.andThen_ok]
  exact hK' _ _ (h _ (World.grownBy_alloc _ _ _) (World.size_alloc _ _))
theorem wpList_buildS {P : Program} {ops : Array Oper} {rest : List Oper} {o : Oper} {a : Act} {w : World} {Q : Exit → Act → World → Prop} {t e : TypeId} {n : Nat} {xs : Array (Nat × Operand)} {vs : Array (Nat × Value)} {cs : Array Value} {v : World → Value} (hg : o.guard = none) (hop : o.op = .buildSlice t n xs)
    (hx : xs.map (fun (k, x) => (k, a.eval x)) = vs) (hrun : ∀ w : World, (Instr.buildSlice t n vs).run P w = .ok (v w) (w.alloc (.cells cs e)))
    (h : ∀ W : World, isRow W w.heap.size e cs → w.grownBy W none → W.heap.size = w.heap.size + 1 → wpList P ops Q rest (a.put o.dst (v w)) W) : wpList P ops Q (o :: rest) a w := by
  refine wpList_plain hg fun K' hK' => ?_
  unfold Oper.wp execOp
  subst hx
  simp only [hop, Sem.run_bind]
  rw [hrun]
  exact hK' _ _ (h _ (isRow.new w e cs) (World.grownBy_alloc _ _ _) (World.size_alloc _ _))
theorem six {α : Type} {l : List α} (h : l.length = 6) : ∃ a0 a1 a2 a3 a4 a5, l = [a0, a1, a2, a3, a4, a5] := by
  match l, h with
  | [a0, a1, a2, a3, a4, a5], _ => exact ⟨a0, a1, a2, a3, a4, a5, rfl⟩
/-- in a list of ops: a struct's load out of a row -/
theorem wpList_load_mid {P : Program} {ops : Array Oper} {rest : List Oper} {o : Oper} {a : Act} {w : World} {Q : Exit → Act → World → Prop} (ty : TypeId) (x : Operand) {b off : Nat} (cs : List Value) {d : TypeDesc}
    (hg : o.guard = none) (hop : o.op = .load ty x) (hx : a.eval x = .pointer (some ⟨b, off, none⟩)) (hc : ∀ j u, cs[j]? = some u → w.cell? ⟨b, off + j, none⟩ = some u) (hu : P.underlying ty = some d) (hd : d.isRow = true) (hi : (P.info? ty).map (·.size) = some cs.length)
    (h : wpList P ops Q rest (a.put o.dst (.agg cs.toArray)) w) : wpList P ops Q (o :: rest) a w := by
  refine wpList_plain hg fun K' hK' => ?_
  have hrun := run_loadVar_mid (P := P) w b off ty cs d hc hu hd hi
  unfold Oper.wp execOp
  simp only [hop, hx, Instr.loadAt, Instr.sureAddr, Sem.run_bind, Sem.run_pure, Result.andThen_ok, hrun]
  exact hK' _ _ h
theorem wpList_append_fresh {P : Program} {ops : Array Oper} {rest : List Oper} {o : Oper} {a : Act} {w : World} {Q : Exit → Act → World → Prop} {s x : Operand} {t e : TypeId} {inf : TypeInfo} {z : Value} {size bytes : Nat} {g : Addr} {A : Option Addr} {m c : Nat} {news : List Value}
    (hg : o.guard = none) (hop : o.op = .call { callee := .builtin .append, args := #[s, x], argTypes := #[t, t] })
    (ht : P.underlying t = some (.slice e)) (hi : P.info? e = some inf) (hz : inf.zero = some z) (hsize : inf.size = size) (hby : inf.bytes = bytes) (hzs : z.cells.size = size) (hsz : 0 < size)
    (hs : a.eval s = .slice (some g) 0 0) (hx : a.eval x = .slice A m c) (hr : Row w size (.slice A m c) m news) (hbytes : m * bytes ≤ 140737488355328)
    (h : ∀ v' w', Row w' size v' m news → w.grownBy w' none → wpList P ops Q rest (a.put o.dst v') w') : wpList P ops Q (o :: rest) a w := by
  obtain ⟨v', w', hrun, h2, h3⟩ := run_append_fresh (P := P) t o.type e inf z size bytes ht hi hz hsize hby hzs hsz g A m c news hr hbytes
  refine wpList_plain hg fun K' hK' => ?_
  unfold Oper.wp execOp
  simp only [hop, resolve, invoke, builtin, Sem.run_bind, Sem.run_pure, Result.andThen_ok, List.map_toArray, List.map_cons, List.map_nil, hs, hx, hrun]
  exact hK' _ _ (h v' w' h2 h3)
theorem build_steps (A : Option Addr) (n c : Nat) (A' : Option Addr) (n' c' : Nat) : ∀ w : World, (Instr.buildSlice 34 1 #[(0, .agg #[.slice A n c, .slice A' n' c'])]).run Tryz.prog w = .ok (.slice (some ⟨w.heap.size, 0, none⟩) 1 1) (w.alloc (.cells #[.slice A n c, .slice A' n' c'] 70)) := fun _ => by kernel_rfl
theorem build_sealed (A A' : Option Addr) (n n' c c' : Nat) : ∀ w : World, (Instr.build 83 #[(0, .slice A n c), (1, .slice A' n' c')]).run Tryz.prog w = .ok (.agg #[.slice A n c, .slice A' n' c']) w := fun _ => by kernel_rfl
/-- the floating stretch of the inner loop's region -/
def p19 (j : Nat) (v : Value) (_ : World) : Prop :=
  match j with
  | 13 => ∃ A n c, v = .slice A n c
  | _ => ∃ g, v = .slice (some g) 0 0
theorem empty8 : ∀ w : World, (Instr.buildSlice 22 0 #[]).run Tryz.prog w = .ok (.slice (some ⟨w.heap.size, 0, none⟩) 0 0) (w.alloc (.cells #[] 5)) := fun _ => by kernel_rfl
set_option maxRecDepth 8000 in
set_option maxHeartbeats 1000000 in
theorem path19 (cs : List Value) (d : PathD) (w : World) (h : PathC w cs d) :
    Calls Tryz.prog 7 #[.agg cs.toArray] w (Some_ w fun v _ => ∃ l0 l1 l2 l3 l4 l5 S n c, v = .agg #[l0, l1, l2, l3, l4, l5, .slice S n c]) := by
  obtain ⟨i0, hi0, hz0, hz1, hz2⟩ := info_parts Tryz.step_info
  obtain ⟨i8, hi8, hz8, hs8, hb8⟩ := info_parts Tryz.u8
  obtain ⟨i1, hi1, hy0, hy1, hy2⟩ := info_parts Tryz.sealed_info
  obtain ⟨ls, t, rfl, hL, hS, hlim⟩ := h
  obtain ⟨A, c, rfl, hc, hA⟩ := hS
  have hls := hL.size
  have HL := Lib.hid hL; have HA := Lib.hid hA; have HN := Lib.hid hlim
  have hnn : d.steps.length ≤ 3000000000000 := by simp only [lim] at hlim; omega
  generalize hn : d.steps.length = n at *
  have HE := Lib.hid hn
  clear hL hA hlim hn
  match ls, hls with
  | [p0, p1, p2, p3, p4, p5], _ =>
  clear hls
  have HO := Lib.hid trivial
  simp only [List.cons_append, List.nil_append]
  go_enter Tryz.func7, Tryz.ntmps7
  go_wp2_with (first
    | (refine wpList_box 27 (.tmp 0) #[p0, p1, p2, p3, p4, p5, .slice A n c] rfl rfl rfl ?_; intro W1 r1 g1 s1
       have R1 := Lib.hid r1; have B1 := Lib.hid (toB g1); have E1 := Lib.hid s1; clear r1 g1 s1)
    | (refine wpList_new 36 #[.slice none 0 0, .slice none 0 0, .slice none 0 0, .int .i64 0, .slice none 0 0, .slice none 0 0, .slice none 0 0] rfl rfl new_path' ?_; intro W2 r2 g2 s2
       have E2 := Lib.hid (show W1.heap.size = w.heap.size + 1 ∧ W2.heap.size = w.heap.size + 2 by have := E1.out; omega)
       have O2 := Lib.hid r2; have R2 := Lib.hid (R1.out.grown g2 (by simp)); have B2 := Lib.hid (B1.out.grown g2 B1.out.size (by simp)); clear r2 g2 s2)
    | (refine wpList_load_mid 24 (.tmp 7) (b := w.heap.size) (off := 0) [p0, p1, p2, p3, p4, p5] rfl rfl rfl (fun j u hj => by rw [Nat.zero_add, R2.out.cell]; match j, hj with | 0, h => exact h | 1, h => exact h | 2, h => exact h | 3, h => exact h | 4, h => exact h | 5, h => exact h) Tryz.underlying24 rfl (by kernel_rfl) ?_)
    | (go_at_call 30; refine (leaf13 [p0, p1, p2, p3, p4, p5] d.leaf _ (HL.out.below B2.out)).mono ?_; rintro e w3 ⟨_, rfl, ⟨q, rfl, hq⟩, hb⟩
       have hO := HO.out; clear hO HO
       obtain ⟨q0, q1, q2, q3, q4, q5, rfl⟩ := six hq.size
       have Q3 := Lib.hid hq.ones; have R3 := Lib.hid (R2.out.below hb R2.out.lt); have O3 := Lib.hid (O2.out.below hb O2.out.lt); have B3 := Lib.hid (B2.out.trans (hb.mono B2.out.size)); have N3 := Lib.hid hb.size; have hbp := build_path q0 q1 q2 q3 q4 q5; clear hq hb)
    | (refine wpList_new 36 #[.slice none 0 0, .slice none 0 0, .slice none 0 0, .int .i64 0, .slice none 0 0, .slice none 0 0, .slice none 0 0] rfl rfl new_path' ?_; intro W4 r4 g4 s4
       have P4 := Lib.hid r4; have R4 := Lib.hid (R3.out.grown g4 (by simp)); have O4 := Lib.hid (O3.out.grown g4 (by simp)); have B4 := Lib.hid (B3.out.grown g4 B3.out.size (by simp)); have N4 := Lib.hid (show w.heap.size + 2 ≤ w3.heap.size by have := E2.out; have := N3.out; omega); have E4 := Lib.hid s4; clear r4 g4 s4)
    | (refine wpList_store_row 36 (.tmp 3) (.tmp 10) w3.heap.size 0 [q0, q1, q2, q3, q4, q5, .slice none 0 0] rfl rfl rfl rfl P4.out (Nat.le_refl _) (by kernel_rfl) (List.all_eq_true.2 (by
         intro u hu
         rcases List.mem_append.1 (show u ∈ [q0, q1, q2, q3, q4, q5] ++ [Value.slice none 0 0] from hu) with h | h
         · exact Q3.out u h
         · simp at h; subst h; rfl)) ?_; intro W5 r5 g5 s5
       have P5 := Lib.hid (show isRow W5 w3.heap.size 36 #[q0, q1, q2, q3, q4, q5, .slice none 0 0] from r5); have R5 := Lib.hid (R4.out.grown g5 (by have := N4.out; simp <;> omega)); have O5 := Lib.hid (O4.out.grown g5 (by have := N4.out; have := E1.out; simp <;> omega)); have B5 := Lib.hid (B4.out.grown g5 B4.out.size (fun j hj => by cases hj; have := N4.out; omega)); have E5 := Lib.hid (show W5.heap.size = w3.heap.size + 1 by have := E4.out; omega); clear r5 g5 s5))
  clear P4 R4 O4 B4 N3 E4 R3 O3 B3 R2 O2 B2 hbp
  go_loopw [4] (fun v4 wr => ∃ (k : Nat) (xs : List Value) (S : Value), k ≤ n ∧ v4 = .int .i64 k ∧ isRow wr w3.heap.size 36 #[q0, q1, q2, q3, q4, q5, S] ∧ wr.ownsRow (w3.heap.size + 1) 70 2 S k xs ∧
      Below w.heap.size w wr ∧ isRow wr w.heap.size 27 #[p0, p1, p2, p3, p4, p5, .slice A n c] ∧ isRow wr W1.heap.size 36 #[.slice none 0 0, .slice none 0 0, .slice none 0 0, .int .i64 0, .slice none 0 0, .slice none 0 0, .slice none 0 0]) (fun v4 _ => n - (intOf v4).toNat)
  case atStart => exact ⟨0, [], .slice none 0 0, Nat.zero_le _, rfl, P5.out, World.ownsRow_nil _ _ _ _, B5.out, R5.out, O5.out⟩
  case round =>
    obtain ⟨k, xs, S, hk, rfl, hP, hS, hB, hR, hO⟩ := hrel
    have HP := Lib.hid hP; have HS := Lib.hid hS; have HB := Lib.hid hB; have HR := Lib.hid hR; have HO := Lib.hid hO
    clear hP hS hB hR hO
    by_cases hlt : k < n
    · obtain ⟨b, off, rfl, hbl, hel⟩ := HA.out (by omega)
      obtain ⟨ds, hds⟩ : ∃ ds, d.steps[k]? = some ds := ⟨d.steps[k]'(by have := HE.out; omega), List.getElem?_eq_getElem _⟩
      obtain ⟨cs, hl, ⟨ka, ta, rfl, hka, hta, hlimt⟩, hcell⟩ := hel k ds hds
      have HKA := Lib.hid hka; have HLT := Lib.hid hlimt; have HCE := Lib.hid hcell; have HBL := Lib.hid hbl
      obtain ⟨TA, tc, rfl, htc, hte⟩ := hta
      have HTE := Lib.hid hte
      clear hl hel hka hlimt hcell hds hbl hte
      generalize hm : ds.tos.length = m at *
      have HM := Lib.hid hm; clear hm
      have hmm : m ≤ 3000000000000 := by have h := HLT.out; simp only [lim] at h; omega
      obtain ⟨KA, kl, kc, rfl, hkl⟩ : ∃ KA kl kc, ka = .slice KA kl kc ∧ kl = ds.key.length := by
        obtain ⟨⟨_, _, KA, kc, rfl, _⟩, _⟩ := HKA.out; exact ⟨KA, _, kc, rfl, rfl⟩
      have HKL := Lib.hid hkl; clear hkl
      have cR : wr.cell? ⟨w.heap.size, 6, none⟩ = some (.slice (some ⟨b, off, none⟩) n c) := by rw [HR.out.cell]; rfl
      go_wp2_with (first
        | (refine wpList_empty rfl rfl empty8 ?_; intro W6 g6 s6
           have G6 := Lib.hid g6; have E6 := Lib.hid s6
           have cR6 : W6.cell? ⟨w.heap.size, 6, none⟩ = some (.slice (some ⟨b, off, none⟩) n c) := (g6.cell cR (by simp))
           have B6 := Lib.hid (HB.out.trans ((toB g6).mono HB.out.size))
           have cK6 : W6.cell? ⟨b, off + k * 2, none⟩ = some (.slice KA kl kc) := (B6.out.cell (p := ⟨b, off + k * 2, none⟩) HBL.out).trans (HCE.out 0 _ rfl)
           clear g6 s6 cR)
        | (at_builtin; have hrow : Row W6 1 (.slice KA kl kc) kl (ds.key.map bv) := (by have h := (HKA.out.below B6.out).1; unfold Bytes at h; rw [← HKL.out] at h; exact h)
           have hfit : kl * 1 ≤ 140737488355328 := (by rw [Nat.mul_one, HKL.out]; exact to47 HKA.out.2)
           have Hrow := Lib.hid hrow; have Hfit := Lib.hid hfit; clear hrow hfit
           refine wpList_append_fresh rfl rfl Tryz.underlying22 hi8 hz8 hs8 hb8 rfl (Nat.le_refl 1) rfl rfl Hrow.out Hfit.out ?_; rintro v7 W7 ⟨_, _, A7, c7, rfl, _⟩ g7
           have G7 := Lib.hid (grownBy.trans' G6.out g7); have hbs := build_step A7 kl c7; have B7 := Lib.hid (B6.out.trans ((toB g7).mono B6.out.size)); clear g7 cK6 cR6 Hrow Hfit)
        | (refine wpList_new 70 #[.slice none 0 0, .slice none 0 0] rfl rfl new_step ?_; intro W8 r8 g8 s8
           have R8 := Lib.hid r8; have G8 := Lib.hid (grownBy.trans' G7.out g8); have E8 := Lib.hid s8; have B8 := Lib.hid (B7.out.trans ((toB g8).mono B7.out.size)); clear r8 g8 s8)
        | (refine wpList_store_row 70 (.tmp 5) (.tmp 26) W7.heap.size 0 [.slice A7 kl c7, .slice none 0 0] rfl rfl rfl rfl R8.out (Nat.le_refl _) (by kernel_rfl) rfl ?_; intro W9 r9 g9 s9
           have R9 := Lib.hid (show isRow W9 W7.heap.size 70 #[.slice A7 kl c7, .slice none 0 0] from r9)
           have G9 := Lib.hid (show wr.grownBy W9 none from ⟨g9.os.trans G8.out.os, g9.tape.trans G8.out.tape, g9.output.trans G8.out.output, Nat.le_trans G8.out.size g9.size, fun i hi _ => (g9.block i (Nat.lt_of_lt_of_le hi G8.out.size) (by have := G7.out.size; simp; omega)).trans (G8.out.block i hi (by simp))⟩)
           have E9 := Lib.hid (show W9.heap.size = W7.heap.size + 1 by have := E8.out; omega)
           have N9 := Lib.hid (show wr.heap.size ≤ W7.heap.size from G7.out.size)
           clear r9 g9 s9 R8 G8 E8 B8 hbs G7 B7 G6 B6 E6))
      have eR := (show W9.cell? ⟨w.heap.size, 6, none⟩ = some (.slice (some ⟨b, off, none⟩) n c) from G9.out.cell (by rw [HR.out.cell]; rfl) (by simp))
      have B9 := Lib.hid (HB.out.trans ((toB G9.out).mono HB.out.size))
      have eT := (show W9.cell? ⟨b, off + k * 2 + 1, none⟩ = some (.slice TA m tc) from (B9.out.cell (p := ⟨b, off + k * 2 + 1, none⟩) HBL.out).trans (HCE.out 1 _ rfl))
      have L9 := Lib.hid (show w.heap.size + 2 ≤ W7.heap.size by have := HO.out.lt; have := N9.out; have := E1.out; omega)
      have ER := Lib.hid eR; have ET := Lib.hid eT
      clear eR eT
      go_loopw [6] (fun v6 wi => ∃ (j : Nat) (ys : List Value) (T : Value), j ≤ m ∧ v6 = .int .i64 j ∧ isRow wi W7.heap.size 70 #[.slice A7 kl c7, T] ∧ wi.ownsRow (W7.heap.size + 1) 83 2 T j ys ∧ W9.grownBy wi (some W7.heap.size)) (fun v6 _ => m - (intOf v6).toNat)
      case atStart => exact ⟨0, [], .slice none 0 0, Nat.zero_le _, rfl, R9.out, World.ownsRow_nil _ _ _ _, grownBy.refl' _ _⟩
      case round =>
        obtain ⟨j, ys, T, hj, rfl, hP5, hT5, hG5⟩ := hrel
        have HP5 := Lib.hid hP5; have HT5 := Lib.hid hT5; have HG5 := Lib.hid hG5
        clear hP5 hT5 hG5
        have cR : wr.cell? ⟨w.heap.size, 6, none⟩ = some (.slice (some ⟨b, off, none⟩) n c) := HG5.out.cell ER.out (by have := L9.out; simp; omega)
        have cT : wr.cell? ⟨b, off + k * 2 + 1, none⟩ = some (.slice TA m tc) := HG5.out.cell ET.out (by have := L9.out; have := HBL.out; simp; omega)
        by_cases hlt2 : j < m
        · obtain ⟨b2, off2, rfl, hbl2, hel2⟩ := HTE.out (by omega)
          obtain ⟨es, hes⟩ : ∃ es, ds.tos[j]? = some es := ⟨ds.tos[j]'(by have := HM.out; omega), List.getElem?_eq_getElem _⟩
          obtain ⟨cs2, _, ⟨ea, eb, rfl, hea, heb⟩, hcell2⟩ := hel2 j es hes
          have HEA := Lib.hid hea; have HEB := Lib.hid heb; have HCE2 := Lib.hid hcell2; have HBL2 := Lib.hid hbl2
          clear hea heb hcell2 hes hel2 hbl2
          go_wp2_with fail
          have hne : ∀ x, x < W7.heap.size + 1 → some x ≠ T.ownBlock := by
            intro x hx e
            have := HT5.out.lt x e.symm
            omega
          have Hne := Lib.hid hne; clear hne
          have B10 := Lib.hid (show Below w.heap.size w wr.drew from (B9.out.grown HG5.out B9.out.size (fun j hj => by cases hj; have := L9.out; omega)).drew)
          have HT6 := Lib.hid (show wr.drew.ownsRow (W7.heap.size + 1) 83 2 T j ys from HT5.out)
          have HP6 := Lib.hid (show isRow wr.drew W7.heap.size 70 #[.slice A7 kl c7, T] from HP5.out)
          obtain ⟨EA, el, ec, rfl, hel⟩ : ∃ EA el ec, ea = .slice EA el ec ∧ el = es.enc.length := by
            obtain ⟨⟨_, _, EA, ec, rfl, _⟩, _⟩ := HEA.out; exact ⟨EA, _, ec, rfl, rfl⟩
          obtain ⟨FA, fl, fc, rfl, hfl⟩ : ∃ EA el ec, eb = .slice EA el ec ∧ el = es.body.length := by
            obtain ⟨⟨_, _, EA, ec, rfl, _⟩, _⟩ := HEB.out; exact ⟨EA, _, ec, rfl, rfl⟩
          have HEL := Lib.hid hel; have HFL := Lib.hid hfl; clear hel hfl
          have l1 : ∀ x, (later T.ownBlock wr.drew x).cell? ⟨W7.heap.size, 1, none⟩ = some T := later_cell (p := ⟨W7.heap.size, 1, none⟩) (by rw [HP6.out.cell]; rfl) (Hne.out _ (by simp))
          have l2 : ∀ x, (later T.ownBlock wr.drew x).cell? ⟨w.heap.size, 6, none⟩ = some (.slice (some ⟨b, off, none⟩) n c) := later_cell (p := ⟨w.heap.size, 6, none⟩) cR (Hne.out _ (by have := L9.out; simp; omega))
          have l3 : ∀ x, (later T.ownBlock wr.drew x).cell? ⟨b, off + k * 2 + 1, none⟩ = some (.slice (some ⟨b2, off2, none⟩) m tc) := later_cell (p := ⟨b, off + k * 2 + 1, none⟩) cT (Hne.out _ (by have := L9.out; have := HBL.out; simp; omega))
          have l4 : ∀ x, (later T.ownBlock wr.drew x).cell? ⟨b2, off2 + j * 2, none⟩ = some (.slice EA el ec) := later_cell (p := ⟨b2, off2 + j * 2, none⟩) ((B10.out.cell (p := ⟨b2, off2 + j * 2, none⟩) HBL2.out).trans (HCE2.out 0 _ rfl)) (Hne.out _ (by have := L9.out; have := HBL2.out; simp; omega))
          have l5 : ∀ x, (later T.ownBlock wr.drew x).cell? ⟨b2, off2 + j * 2 + 1, none⟩ = some (.slice FA fl fc) := later_cell (p := ⟨b2, off2 + j * 2 + 1, none⟩) ((B10.out.cell (p := ⟨b2, off2 + j * 2 + 1, none⟩) HBL2.out).trans (HCE2.out 1 _ rfl)) (Hne.out _ (by have := L9.out; have := HBL2.out; simp; omega))
          refine wp_region_plan [.quiet [0, 1, 3, 4, 5, 6, 7, 8, 9, 10, 11, 12, 15, 16, 17, 18, 19, 20, 21, 22, 23, 24], .flow [2, 13, 14], .eff 25, .quiet [26], .eff 27, .eff 28, .quiet [29], .last 30] T.ownBlock Tryz.mixed (by kernel_rfl) ?_
          refine plan_quiet ?_
          iterate 22 (refine quiet_next rfl ?_; go_big_quiet_step (fail))
          refine quiet_end ?_
          clear l1 l2 l3 l4 l5 cR cT
          refine plan_flow none (fun _ h => toGrown (toB h) _) p19 [none, none, none, none, none, none, none, none, none, none, none, none, none, none, none, none, none, none, none, none, none, none, none, none, none, none, none, none, none, none, none, none, none, none, none, none, none, none, none, none, some 2, none, none, none, none, none, none, none, none, none, none, some 13, some 14, none, none, none, none, none, none, none, none, none, none, none, none, none, none, none, none, none, none, none, none, none, none] _ (by kernel_rfl) (by kernel_rfl) ⟨?_, ?_, ?_, trivial⟩ ?_
          · intro o ho a' w' vals hg hp hs _
            cases ho
            exact op_buildSlice (v := fun w => .slice (some ⟨w.heap.size, 0, none⟩) 0 0) (vs := #[]) rfl rfl rfl (by simp) empty8 ⟨_, rfl, grownBy.trans' hg (World.grownBy_alloc _ _ _), ⟨_, rfl⟩, fun _ _ _ h => h⟩
          · intro o ho a' w' vals hg hp hs _
            cases ho
            obtain ⟨h2, h40⟩ := hp 2 rfl rfl
            obtain ⟨g, hg2⟩ := (show ∃ g, vals 2 = .slice (some g) 0 0 from h2)
            have hB : Below w.heap.size w w' := B10.out.grown hg B10.out.size (fun j hj => by cases hj)
            refine op_append_fresh (g := g) rfl rfl rfl Tryz.underlying22 hi8 hz8 hs8 hb8 rfl (Nat.le_refl 1) ((h40 40 rfl).trans hg2) (hs 50 _ rfl rfl) (m := el) (news := es.enc.map bv) (by have h := (HEA.out.below hB).1; unfold Bytes at h; rw [← HEL.out] at h; exact h) (by rw [Nat.mul_one, HEL.out]; exact to47 HEA.out.2) ?_
            rintro v' w'' ⟨_, _, A', c', rfl, _⟩ hg'
            exact ⟨_, rfl, grownBy.trans' hg hg', ⟨A', el, c', rfl⟩, fun _ _ _ h => h⟩
          · intro o ho a' w' vals hg hp hs _
            cases ho
            exact op_buildSlice (v := fun w => .slice (some ⟨w.heap.size, 0, none⟩) 0 0) (vs := #[]) rfl rfl rfl (by simp) empty8 ⟨_, rfl, grownBy.trans' hg (World.grownBy_alloc _ _ _), ⟨_, rfl⟩, fun _ _ _ h => h⟩
          intro vals w2 hg2 hΦ
          obtain ⟨A13, n13, c13, q13⟩ := (show ∃ A n c, vals 13 = .slice A n c from hΦ 13 rfl)
          obtain ⟨g14, q14⟩ := (show ∃ g, vals 14 = .slice (some g) 0 0 from hΦ 14 rfl)
          obtain ⟨g2, q2⟩ := (show ∃ g, vals 2 = .slice (some g) 0 0 from hΦ 2 rfl)
          simp only [List.zipWith_cons_cons, List.zipWith_nil_left, q13, q14, q2]
          have B11 := Lib.hid (B10.out.grown hg2 B10.out.size (fun j hj => by cases hj))
          have G11 := Lib.hid hg2
          clear hΦ q13 q14 q2 hg2 vals
          refine plan_effL rfl ?_
          go_wp2_with (at_builtin; have hrow : Row w2 1 (.slice FA fl fc) fl (es.body.map bv) := (by have h := (HEB.out.below B11.out).1; unfold Bytes at h; rw [← HFL.out] at h; exact h)
                       have hfit : fl * 1 ≤ 140737488355328 := (by rw [Nat.mul_one, HFL.out]; exact to47 HEB.out.2)
                       have Hrow := Lib.hid hrow; have Hfit := Lib.hid hfit; clear hrow hfit
                       refine wpList_append_fresh rfl rfl Tryz.underlying22 hi8 hz8 hs8 hb8 rfl (Nat.le_refl 1) rfl rfl Hrow.out Hfit.out ?_; rintro v12 W12 ⟨_, _, A12, c12, rfl, _⟩ g12)
          refine ⟨toGrown (toB g12) _, ?_⟩
          have G12 := Lib.hid (grownBy.trans' G11.out g12)
          have hbs := build_sealed A13 A12 n13 fl c13 c12
          clear g12
          try simp only [Act.put, List.setIfInBounds_toArray, List.set_cons_succ, List.set_cons_zero]
          refine plan_quiet ?_
          refine quiet_next rfl ?_
          go_big_quiet_step (fail)
          refine quiet_end ?_
          refine plan_effL rfl ?_
          go_wp2_with fail
          refine ⟨World.grownBy_alloc _ _ _, ?_⟩
          have hT13 := (own_below HT6.out (toB G12.out)).alloc (.cells #[.slice A13 n13 c13, .slice A12 fl c12] 83)
          generalize hW13 : World.alloc W12 _ = W13 at *
          have HT13 := Lib.hid hT13
          have R13 := Lib.hid (show isRow W13 W12.heap.size 83 #[.slice A13 n13 c13, .slice A12 fl c12] from hW13 ▸ isRow.new _ _ _)
          have G13 := Lib.hid (show wr.drew.grownBy W13 none from hW13 ▸ grownBy.trans' G12.out (World.grownBy_alloc _ _ _))
          have N13 := Lib.hid (show W7.heap.size + 1 ≤ W13.heap.size by have h1 := G13.out.size; have h2 := HG5.out.size; have := E9.out; simp at h1; omega)
          clear hT13 hW13 hbs
          have K1 : Hid (j + 1 ≤ maxLen) := Lib.hid (le_maxLen (by have := HLT.out; omega))
          have K2 : Hid ((j + 1) * 48 ≤ 140737488355328) := Lib.hid (to47 (Nat.le_trans (Nat.mul_le_mul_right 48 hlt2) HLT.out))
          have HROW := Lib.hid (row_of_isRow (n := 1) (size := 2) (xs := [.slice A13 n13 c13, .slice A12 fl c12]) R13.out rfl one_maxLen)
          have HONE : Hid (∀ u ∈ [Value.slice A13 n13 c13, .slice A12 fl c12], u.oneCell' = true) := Lib.hid (by
            intro u hu
            simp only [List.mem_cons, List.not_mem_nil, or_false] at hu
            rcases hu with rfl | rfl <;> rfl)
          refine plan_effL rfl ?_
          go_wp2_with (at_builtin; refine wpList_append_row _ rfl (.tmp 39) (.tmp 65) _ rfl (W7.heap.size + 1) 83 i1 _ 2 48 Tryz.underlying68 hi1 hy0 hy1 hy2 rfl (by decide) T j ys rfl HT13.out (some ⟨W12.heap.size, 0, none⟩) 1 1 [.slice A13 n13 c13, .slice A12 fl c12] rfl HROW.out HONE.out K1.out K2.out N13.out ?_; intro v14 W14 hown14 hg14 hat14)
          refine ⟨hg14, ?_⟩
          try simp only [Act.put, List.setIfInBounds_toArray, List.set_cons_succ, List.set_cons_zero]
          have HO14 := Lib.hid hown14
          have G14 := Lib.hid (show W9.grownBy W14 (some W7.heap.size) from ((show W9.grownBy wr.drew (some W7.heap.size) from ⟨HG5.out.os, HG5.out.tape, HG5.out.output, HG5.out.size, HG5.out.block⟩).andThen G13.out (fun j hj => by cases hj)).andThen hg14 (fun j hj => .inl (by have := (HT13.out.lt j hj).1; have := E9.out; omega)))
          have R14 := Lib.hid ((HP6.out.grown G13.out (by simp)).grown hg14 (Hne.out _ (by omega)))
          clear hown14 hg14 hat14
          refine plan_quiet ?_
          refine quiet_next rfl ?_
          go_big_quiet_step (fail)
          refine quiet_end ?_
          obtain ⟨A14, c14, rfl⟩ : ∃ A c, v14 = .slice A (j + 1) c := by
            obtain ⟨_, _, A, c, h, _⟩ := row_of_own HO14.out; exact ⟨A, c, h⟩
          refine plan_lastL rfl ?_
          go_wp2_with (refine wpList_store1 68 (.tmp 67) (.tmp 66) W7.heap.size 1 (.slice A14 (j + 1) c14) rfl rfl rfl rfl rfl rfl R14.out (Nat.le_of_ble_eq_true rfl) (by kernel_rfl) ?_; intro W15 r15 g15 s15)
          refine plan_end ?_
          have R15 := Lib.hid (show isRow W15 W7.heap.size 70 #[.slice A7 kl c7, .slice A14 (j + 1) c14] from r15)
          have HO15 := Lib.hid (HO14.out.kept g15 (.inr (fun e => by have := (HO14.out.lt _ e).1; omega)))
          have G15 := Lib.hid (G14.out.andThen g15 (fun j hj => .inr hj))
          clear r15 g15 s15
          go_wp2
          go_roundw
          case rel => exact ⟨j + 1, _, _, by omega, by go_num, R15.out, HO15.out, G15.out⟩
          case measure => simp [intOf]; omega
        · obtain rfl : j = m := by omega
          obtain ⟨AT, cT', rfl⟩ : ∃ A c, T = .slice A j c := by
            obtain ⟨_, _, A, c, h, _⟩ := row_of_own HT5.out; exact ⟨A, c, h⟩
          have L3 := Lib.hid (show w3.heap.size < W7.heap.size by have := HP.out.lt; have := N9.out; omega)
          have P9 := Lib.hid ((HP.out.grown G9.out (by simp)).grown HG5.out (by have := L3.out; simp; omega))
          have S9 := Lib.hid ((own_below HS.out (toB G9.out)).kept HG5.out (.inr (fun e => by have := (HS.out.lt _ e).2; have := N9.out; omega)))
          have cS : wr.cell? ⟨w3.heap.size, 6, none⟩ = some S := by rw [P9.out.cell]; rfl
          have hbl := build_steps A7 kl c7 AT j cT'
          have hkn : k + 1 ≤ n := hlt
          have HB9 := Lib.hid (B9.out.grown HG5.out B9.out.size (fun j hj => by cases hj; have := L9.out; omega))
          have HR9 := Lib.hid ((HR.out.grown G9.out (by simp)).grown HG5.out (by have := L9.out; simp; omega))
          have HO9 := Lib.hid ((HO.out.grown G9.out (by simp)).grown HG5.out (by have := L9.out; have := E1.out; simp; omega))
          go_wp2_with (first
            | (refine wpList_load_row 70 (.tmp 5) rfl rfl rfl HP5.out Tryz.underlying70 rfl (by kernel_rfl) ?_)
            | (refine wpList_buildS (v := fun w => .slice (some ⟨w.heap.size, 0, none⟩) 1 1) (vs := #[(0, .agg #[.slice A7 kl c7, .slice AT j cT'])]) rfl rfl (by simp; rfl) hbl ?_; intro W10 r10 g10 s10
               have R10 := Lib.hid r10; have P10 := Lib.hid (P9.out.grown g10 (by simp)); have S10 := Lib.hid (own_below S9.out (toB g10)); have B10 := Lib.hid (HB9.out.grown g10 HB9.out.size (fun j hj => by cases hj))
               have RR10 := Lib.hid (HR9.out.grown g10 (by simp)); have RO10 := Lib.hid (HO9.out.grown g10 (by simp)); have N10 := Lib.hid (show w3.heap.size + 1 ≤ W10.heap.size by have := P9.out.lt; omega)
               have K1 : Hid (k + 1 ≤ maxLen) := Lib.hid (le_maxLen (by have := HN.out; omega))
               have K2 : Hid ((k + 1) * 48 ≤ 140737488355328) := Lib.hid (to47 (Nat.le_trans (Nat.mul_le_mul_right 48 hkn) HN.out))
               have HROW := Lib.hid (row_of_isRow (n := 1) (size := 2) (xs := [.slice A7 kl c7, .slice AT j cT']) R10.out rfl one_maxLen)
               have HONE : Hid (∀ u ∈ [Value.slice A7 kl c7, .slice AT j cT'], u.oneCell' = true) := Lib.hid (by
                 intro u hu
                 simp only [List.mem_cons, List.not_mem_nil, or_false] at hu
                 rcases hu with rfl | rfl <;> rfl)
               clear r10 g10 s10 cS)
            | (at_builtin; refine wpList_append_row _ rfl (.tmp 69) (.tmp 71) _ rfl (w3.heap.size + 1) 70 i0 _ 2 48 Tryz.underlying34 hi0 hz0 hz1 hz2 rfl (by decide) S k xs rfl S10.out (some ⟨wr.heap.size, 0, none⟩) 1 1 [.slice A7 kl c7, .slice AT j cT'] rfl HROW.out HONE.out K1.out K2.out N10.out ?_; intro v11 W11 hown11 hg11 hat11
               obtain ⟨A11, c11, rfl⟩ : ∃ A c, v11 = .slice A (k + 1) c := (by obtain ⟨_, _, A, c, h, _⟩ := row_of_own hown11; exact ⟨A, c, h⟩)
               have S11 := Lib.hid hown11
               have P11 := Lib.hid (P10.out.grown hg11 (fun e => by have := (S10.out.lt _ e.symm).1; omega)); have B11 := Lib.hid (B10.out.grown hg11 B10.out.size (fun j hj => by have := (S10.out.lt _ hj).1; have := L3.out; have := N4.out; omega))
               have RR11 := Lib.hid (RR10.out.grown hg11 (fun e => by have := (S10.out.lt _ e.symm).1; have := N4.out; omega)); have RO11 := Lib.hid (RO10.out.grown hg11 (fun e => by have := (S10.out.lt _ e.symm).1; have := N4.out; have := E1.out; omega))
               clear hown11 hg11 hat11)
            | (refine wpList_store1 34 (.tmp 73) (.tmp 72) w3.heap.size 6 (.slice A11 (k + 1) c11) rfl rfl rfl rfl rfl rfl P11.out (Nat.le_of_ble_eq_true rfl) (by kernel_rfl) ?_; intro W12 r12 g12 s12
               have P12 := Lib.hid (show isRow W12 w3.heap.size 36 #[q0, q1, q2, q3, q4, q5, .slice A11 (k + 1) c11] from r12); have S12 := Lib.hid (S11.out.kept g12 (.inr (fun e => by have := (S11.out.lt _ e).1; omega)))
               have B12 := Lib.hid (B11.out.grown g12 B11.out.size (fun j hj => by cases hj; have := N4.out; omega)); have RR12 := Lib.hid (RR11.out.grown g12 (by have := N4.out; simp; omega)); have RO12 := Lib.hid (RO11.out.grown g12 (by have := N4.out; have := E1.out; simp; omega))
               clear r12 g12 s12))
          go_roundw
          case rel => exact ⟨k + 1, _, _, hkn, by go_num, P12.out, S12.out, B12.out, RR12.out, RO12.out⟩
          case measure => simp [intOf]; omega
    · obtain rfl : k = n := by omega
      obtain ⟨AS, cS, rfl⟩ : ∃ A c, S = .slice A k c := by
        obtain ⟨_, _, A, c, h, _⟩ := row_of_own HS.out; exact ⟨A, c, h⟩
      have cR : wr.cell? ⟨w.heap.size, 6, none⟩ = some (.slice A k c) := by rw [HR.out.cell]; rfl
      go_wp2_with (first
        | (refine wpList_load_row 36 (.tmp 3) rfl rfl rfl HP.out Tryz.underlying36 rfl (by kernel_rfl) ?_)
        | (refine wpList_store_row 36 (.tmp 2) (.tmp 74) W1.heap.size 0 [q0, q1, q2, q3, q4, q5, .slice AS k cS] rfl rfl rfl rfl HO.out (Nat.le_refl _) (by kernel_rfl) (List.all_eq_true.2 (by
             intro u hu
             rcases List.mem_append.1 (show u ∈ [q0, q1, q2, q3, q4, q5] ++ [Value.slice AS k cS] from hu) with h | h
             · exact Q3.out u h
             · simp at h; subst h; rfl)) ?_; intro W6 r6 g6 s6
           have O6 := Lib.hid (show isRow W6 W1.heap.size 36 #[q0, q1, q2, q3, q4, q5, .slice AS k cS] from r6); have B6 := Lib.hid (HB.out.grown g6 HB.out.size (fun j hj => by cases hj; have := E1.out; omega)); clear r6 g6 s6))
      exact ret_row rfl rfl O6.out Tryz.underlying36 rfl (by kernel_rfl) rfl ⟨_, rfl, ⟨_, _, _, _, _, _, _, _, _, rfl⟩, B6.out⟩
theorem path19_in : Callable Tryz.prog 7 := callable Tryz.func7 (by kernel_rfl) (by kernel_rfl)
end Go.Proofs
