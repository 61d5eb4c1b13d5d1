/- List: of the document's proposals the program's, each in new memory. -/
import Derived.Test.YtphjmbbnhgdacaaGreatDoorConv2
namespace Go.Proofs
open Go.RowKit
structure ListedD where
  who : Int
  prop : PropD
def ListedC (w : World) (cs : List Value) (d : ListedD) : Prop := ∃ ps, cs = .int .i64 d.who :: ps ∧ PropC w ps d.prop
theorem ListedC.below {w w' : World} {cs : List Value} {d : ListedD} (h : ListedC w cs d) (hb : Below w.heap.size w w') : ListedC w' cs d := by
  obtain ⟨ps, h0, h1⟩ := h
  exact ⟨ps, h0, h1.below hb⟩
theorem LeafC.length {w : World} {cs : List Value} {d : LeafD} (h : LeafC w cs d) : cs.length = 6 := by
  obtain ⟨a, b, c, e, f, rfl, _⟩ := h; rfl
theorem PackC.length {w : World} {cs : List Value} {d : PackD} (h : PackC w cs d) : cs.length = 8 := by
  obtain ⟨a, ls, b, rfl, _, h2, _⟩ := h; simp [h2.length]
theorem PropC.length {w : World} {cs : List Value} {d : PropD} (h : PropC w cs d) : cs.length = 19 := by
  obtain ⟨ps, ls, a, b, c, rfl, h1, h2, _⟩ := h; simp [h1.length, h2.length]
theorem ListedC.length {w : World} {cs : List Value} {d : ListedD} (h : ListedC w cs d) : cs.length = 20 := by
  obtain ⟨ps, rfl, h⟩ := h; simp [h.length]
/-- a slice of structs, element by element -/
def Structs {α : Type} (w : World) (size : Nat) (v : Value) (ds : List α) (p : World → List Value → α → Prop) : Prop :=
  ∃ A c, v = .slice A ds.length c ∧ ds.length ≤ c ∧ (0 < ds.length → ∃ b off, A = some ⟨b, off, none⟩ ∧ b < w.heap.size ∧
    ∀ i d, ds[i]? = some d → ∃ cs : List Value, cs.length = size ∧ p w cs d ∧ ∀ j u, cs[j]? = some u → w.cell? ⟨b, off + i * size + j, none⟩ = some u)
theorem Structs.below {α : Type} {w w' : World} {size : Nat} {v : Value} {ds : List α} {p : World → List Value → α → Prop} (h : Structs w size v ds p) (hb : Below w.heap.size w w')
    (hp : ∀ cs d, p w cs d → p w' cs d) : Structs w' size v ds p := by
  obtain ⟨A, c, hv, hc, hA⟩ := h
  refine ⟨A, c, hv, hc, fun h0 => ?_⟩
  obtain ⟨b, off, ha, hlt, hel⟩ := hA h0
  refine ⟨b, off, ha, Nat.lt_of_lt_of_le hlt hb.size, fun i d hd => ?_⟩
  obtain ⟨cs, h1, h2, h3⟩ := hel i d hd
  exact ⟨cs, h1, hp cs d h2, fun j u hu => (hb.cell (p := ⟨b, off + i * size + j, none⟩) hlt).trans (h3 j u hu)⟩
theorem LeafC.ones {w : World} {cs : List Value} {d : LeafD} (h : LeafC w cs d) : ∀ u ∈ cs, u.oneCell' = true := by
  obtain ⟨a, b, c, e, f, rfl, h1, h2, h3, h4, h5⟩ := h
  intro u hu
  simp only [List.mem_cons, List.not_mem_nil, or_false] at hu
  rcases hu with rfl | rfl | rfl | rfl | rfl | rfl
  · exact h1.one
  · exact h2.one
  · exact h3.one
  · rfl
  · exact h4.one
  · exact h5.one
theorem PackC.ones {w : World} {cs : List Value} {d : PackD} (h : PackC w cs d) : ∀ u ∈ cs, u.oneCell' = true := by
  obtain ⟨a, ls, b, rfl, h1, h2, h3⟩ := h
  have := h2.ones
  intro u hu
  simp only [List.mem_cons, List.mem_append, List.not_mem_nil, or_false] at hu
  rcases hu with rfl | hu | rfl
  · exact h1.one
  · exact this u hu
  · exact h3.one
theorem PropC.ones {w : World} {cs : List Value} {d : PropD} (h : PropC w cs d) : ∀ u ∈ cs, u.oneCell' = true := by
  obtain ⟨ps, ls, a, b, c, rfl, h1, h2, h3, h4, h5⟩ := h
  have g1 := h1.ones
  have g2 := h2.ones
  intro u hu
  simp only [List.mem_cons, List.mem_append, List.not_mem_nil, or_false] at hu
  rcases hu with rfl | hu | hu | rfl | rfl | rfl | rfl
  · rfl
  · exact g1 u hu
  · exact g2 u hu
  · rfl
  · exact h3.one
  · exact h4.one
  · exact h5.one
theorem Tryz.listed_info : (Tryz.prog.info? 47).map (fun i => (i.zero, i.size, i.bytes)) = some (some (.agg #[.int .i64 0, .int .i64 0, .slice none 0 0, .slice none 0 0, .slice none 0 0, .slice none 0 0, .int .i64 0, .slice none 0 0, .slice none 0 0, .slice none 0 0, .slice none 0 0, .slice none 0 0, .slice none 0 0, .int .i64 0, .slice none 0 0, .slice none 0 0, .int .i64 0, .slice none 0 0, .slice none 0 0, .slice none 0 0]), 20, 400) := by kernel_rfl
theorem later_at {row : Option Nat} {w : World} {b o : Nat} {cs : List Value} (h : ∀ j u, cs[j]? = some u → w.cell? ⟨b, o + j, none⟩ = some u) (hr : some b ≠ row) (j : Nat) (u : Value) (hj : cs[j]? = some u) :
    ∀ x, (later row w x).cell? ⟨b, o + j, none⟩ = some u := later_cell (p := ⟨b, o + j, none⟩) (h j u hj) hr
set_option maxHeartbeats 400000 in
theorem list20 (v : Value) (ds : List ListedD) (w : World) (h : Structs w 20 v ds ListedC) (hn : ds.length * 400 ≤ lim) :
    Calls Tryz.prog 5 #[v] w (Some_ w fun v _ => ∃ A c, v = .slice A ds.length c ∧ ds.length ≤ c) := by
  obtain ⟨i0, hi0, hz0, hz1, hz2⟩ := info_parts Tryz.listed_info
  obtain ⟨A, c, rfl, hc, hA⟩ := h
  have HA := Lib.hid hA; clear hA
  have HN := Lib.hid hn
  have hnn : ds.length ≤ 1000000000000 := by simp only [lim] at hn; omega
  clear hn
  generalize hn : ds.length = n at *
  have HE := Lib.hid hn; clear hn
  go_enter Tryz.func5, Tryz.ntmps5
  go_wp2
  go_loopw [3, 4] (fun v i wr => ∃ (k : Nat) (xs : List Value), k ≤ n ∧ i = .int .i64 k ∧ wr.ownsRow w.heap.size 47 20 v k xs ∧ Below w.heap.size w wr) (fun _ i _ => n - (intOf i).toNat)
  case atStart => exact ⟨0, [], Nat.zero_le _, rfl, World.ownsRow_nil _ _ _ _, Below.refl _ _⟩
  case round =>
    obtain ⟨k, xs, hk, rfl, hown, hb⟩ := hrel
    have HO := Lib.hid hown; clear hown
    by_cases hlt : k < n
    · obtain ⟨b, off, rfl, hbl, hel⟩ := HA.out (by omega)
      obtain ⟨d, hd⟩ : ∃ d, ds[k]? = some d := ⟨ds[k]'(by have := HE.out; omega), List.getElem?_eq_getElem _⟩
      obtain ⟨cs, hl, hp, hcell⟩ := hel k d hd
      obtain ⟨ps, rfl, hq⟩ := hp
      have HQ := Lib.hid hq; clear hq
      have HD := Lib.hid hd; clear hd hel
      obtain ⟨psl⟩ : ∃ x, x = ps.length := ⟨_, rfl⟩
      match ps, hl with
      | [p0, p1, p2, p3, p4, p5, p6, p7, p8, p9, p10, p11, p12, p13, p14, p15, p16, p17, p18], _ =>
      obtain ⟨vo, hvo⟩ : ∃ x : Value, x = u3 := ⟨_, rfl⟩
      have hne : some b ≠ u3.ownBlock := by
        intro e
        have := HO.out.lt b e.symm
        omega
      go_wp2_with fail
      have hlo := later_at (row := u3.ownBlock) (w := wr.drew) (b := b) (o := off + k * 20) (cs := [.int .i64 d.who, p0, p1, p2, p3, p4, p5, p6, p7, p8, p9, p10, p11, p12, p13, p14, p15, p16, p17, p18]) (fun j u hj => (hb.drew.cell (p := ⟨b, off + k * 20 + j, none⟩) hbl).trans (hcell j u hj)) hne
      refine wp_region_plan [.quiet [0, 1, 2, 3, 4, 5, 6, 7, 8, 9, 10], .eff 11, .quiet [12], .eff 13, .eff 14, .quiet [15]] u3.ownBlock Tryz.mixed (by kernel_rfl) ?_
      have e0 : ∀ x, (later u3.ownBlock wr.drew x).cell? ⟨b, off + k * 20, none⟩ = some (.int .i64 d.who) := hlo 0 _ rfl
      have HLO := Lib.hid hlo
      have HCE := Lib.hid hcell
      clear hlo hcell
      refine plan_quiet ?_
      iterate 10 (refine quiet_next rfl ?_; go_big_quiet_step (fail))
      refine quiet_load 59 (.tmp 20) b (off + k * 20 + 1) [p0, p1, p2, p3, p4, p5, p6, p7, p8, p9, p10, p11, p12, p13, p14, p15, p16, p17, p18] rfl rfl rfl rfl (fun j u hj => ?_) hne Tryz.underlying59 rfl (by kernel_rfl) ?_
      · have := HCE.out (j + 1) u (by simpa using hj)
        rw [show off + k * 20 + 1 + j = off + k * 20 + (j + 1) by omega]
        exact (hb.drew.cell (p := ⟨b, off + k * 20 + (j + 1), none⟩) hbl).trans this
      refine quiet_end ?_
      simp only [Act.put, List.setIfInBounds_toArray, List.set_cons_succ, List.set_cons_zero]
      refine plan_callB rfl rfl rfl Tryz.prop20_in (prop20 _ d.prop _ (HQ.out.below hb.drew)) rfl ?_
      rintro _ w1 ⟨cs1, rfl, hq1⟩ b1
      have ho1 := hq1.ones
      obtain ⟨q, hq⟩ : ∃ q, q = cs1.length := ⟨_, rfl⟩
      match cs1, hq1.length with
      | [q0, q1, q2, q3, q4, q5, q6, q7, q8, q9, q10, q11, q12, q13, q14, q15, q16, q17, q18], _ =>
      have HO1 := Lib.hid ho1; have HQ1 := Lib.hid hq1
      clear ho1 hq1 hq
      simp only [Act.put, List.setIfInBounds_toArray, List.set_cons_succ, List.set_cons_zero]
      refine plan_quiet ?_
      refine quiet_next rfl ?_
      go_big_quiet_step (fail)
      refine quiet_end ?_
      refine plan_effL rfl ?_
      go_wp2_with fail
      refine ⟨World.grownBy_alloc _ _ _, ?_⟩
      have hown1 := (own_below (w := wr.drew) HO.out b1).alloc (.cells #[Value.int IntKind.i64 d.who, q0, q1, q2, q3, q4, q5, q6, q7, q8, q9, q10, q11, q12, q13, q14, q15, q16, q17, q18] 47)
      generalize hW2 : World.alloc w1 _ = W2 at *
      have hr2 : isRow W2 w1.heap.size 47 #[Value.int IntKind.i64 d.who, q0, q1, q2, q3, q4, q5, q6, q7, q8, q9, q10, q11, q12, q13, q14, q15, q16, q17, q18] := hW2 ▸ isRow.new _ _ _
      have hB2 : Below w.heap.size w W2 := hW2 ▸ ((hb.drew.trans (b1.mono hb.drew.size)).alloc (hb.drew.trans (b1.mono hb.drew.size)).size _)
      have HR2 := Lib.hid hr2; have HOWN1 := Lib.hid hown1
      clear hW2 hr2 hown1
      have K1 : Hid (k + 1 ≤ maxLen) := Lib.hid (le_maxLen (by have := HN.out; omega))
      have K2 : Hid ((k + 1) * 400 ≤ 140737488355328) := Lib.hid (to47 (Nat.le_trans (Nat.mul_le_mul_right 400 hlt) HN.out))
      have HROW := Lib.hid (row_of_isRow (n := 1) (size := 20) HR2.out rfl one_maxLen)
      have HONE : Hid (∀ u ∈ [Value.int IntKind.i64 d.who, q0, q1, q2, q3, q4, q5, q6, q7, q8, q9, q10, q11, q12, q13, q14, q15, q16, q17, q18], u.oneCell' = true) := Lib.hid (by
        intro u hu
        rcases List.mem_cons.1 hu with rfl | hu
        · rfl
        · exact HO1.out u hu)
      refine plan_effL rfl ?_
      go_wp2_with (at_builtin; refine wpList_append_row _ rfl (.tmp 11) (.tmp 24) _ rfl w.heap.size 47 i0 _ 20 400 Tryz.underlying28 hi0 hz0 hz1 hz2 rfl (by decide) u3 k xs rfl HOWN1.out (some ⟨w1.heap.size, 0, none⟩) 1 1 [Value.int IntKind.i64 d.who, q0, q1, q2, q3, q4, q5, q6, q7, q8, q9, q10, q11, q12, q13, q14, q15, q16, q17, q18] rfl HROW.out HONE.out K1.out K2.out hB2.size ?_; intro v3 w3 hown3 hg3 hat3)
      refine ⟨hg3, ?_⟩
      simp only [Act.put, List.setIfInBounds_toArray, List.set_cons_succ, List.set_cons_zero]
      refine plan_quiet ?_
      refine quiet_next rfl ?_
      go_big_quiet_step (fail)
      refine quiet_end ?_
      refine plan_end ?_
      have hB3 : Below w.heap.size w w3 := hB2.grown hg3 hB2.size (fun j hj => (HO.out.lt j hj).1)
      have HOWN3 := Lib.hid hown3
      clear hown3 hat3 hg3
      go_wp2
      go_roundw
      case rel => exact ⟨k + 1, _, by omega, by go_num, HOWN3.out, hB3⟩
      case measure => simp [intOf]; omega
    · go_wp2
      go_ret
      obtain rfl : k = n := by omega
      obtain ⟨hl, hs⟩ := HO.out
      rcases hs with ⟨rfl, rfl⟩ | ⟨g, cap, cur, rfl, _, _, hcap, _⟩
      · exact ⟨.slice none 0 0, rfl, ⟨none, 0, rfl, Nat.le_refl _⟩, hb⟩
      · exact ⟨.slice (some ⟨g, 0, none⟩) _ cap, rfl, ⟨_, cap, rfl, hcap⟩, hb⟩
end Go.Proofs
