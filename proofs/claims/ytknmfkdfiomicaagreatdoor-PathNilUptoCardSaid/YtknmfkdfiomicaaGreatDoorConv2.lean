/- What the laws' own functions make of the document's leaves, packages and proposals: the program's, in new memory. -/
import Derived.Test.YtknmfkdfiomicaaGreatDoorConv
namespace Go.Proofs
open Go.RowKit
structure LeafD where
  enc : List UInt8
  sig : List UInt8
  name : List UInt8
  source : Int
  hash : List UInt8
  signature : List UInt8
structure PackD where
  init : List UInt8
  leaf : LeafD
  signature : List UInt8
structure PropD where
  kind : Int
  pack : PackD
  leaf : LeafD
  index : Int
  psk : List UInt8
  nonce : List UInt8
  enc : List UInt8
/-- bytes, and no more of them than can be -/
def BytesL (w : World) (v : Value) (l : List UInt8) : Prop := Bytes w v l ∧ l.length ≤ lim
theorem BytesL.below {w w' : World} {v : Value} {l : List UInt8} (h : BytesL w v l) (hb : Below w.heap.size w w') : BytesL w' v l := ⟨h.1.below hb, h.2⟩
theorem BytesL.one {w : World} {v : Value} {l : List UInt8} (h : BytesL w v l) : v.oneCell' = true := by
  obtain ⟨⟨_, _, A, c, rfl, _⟩, _⟩ := h; rfl
def LeafC (w : World) (cs : List Value) (d : LeafD) : Prop := ∃ a b c e f, cs = [a, b, c, .int .i64 d.source, e, f] ∧
  BytesL w a d.enc ∧ BytesL w b d.sig ∧ BytesL w c d.name ∧ BytesL w e d.hash ∧ BytesL w f d.signature
def PackC (w : World) (cs : List Value) (d : PackD) : Prop := ∃ a ls b, cs = a :: (ls ++ [b]) ∧ BytesL w a d.init ∧ LeafC w ls d.leaf ∧ BytesL w b d.signature
def PropC (w : World) (cs : List Value) (d : PropD) : Prop := ∃ ps ls a b c, cs = .int .i64 d.kind :: (ps ++ (ls ++ [.int .i64 d.index, a, b, c])) ∧
  PackC w ps d.pack ∧ LeafC w ls d.leaf ∧ BytesL w a d.psk ∧ BytesL w b d.nonce ∧ BytesL w c d.enc
theorem LeafC.below {w w' : World} {cs : List Value} {d : LeafD} (h : LeafC w cs d) (hb : Below w.heap.size w w') : LeafC w' cs d := by
  obtain ⟨a, b, c, e, f, h0, h1, h2, h3, h4, h5⟩ := h
  exact ⟨a, b, c, e, f, h0, h1.below hb, h2.below hb, h3.below hb, h4.below hb, h5.below hb⟩
theorem PackC.below {w w' : World} {cs : List Value} {d : PackD} (h : PackC w cs d) (hb : Below w.heap.size w w') : PackC w' cs d := by
  obtain ⟨a, ls, b, h0, h1, h2, h3⟩ := h
  exact ⟨a, ls, b, h0, h1.below hb, h2.below hb, h3.below hb⟩
theorem PropC.below {w w' : World} {cs : List Value} {d : PropD} (h : PropC w cs d) (hb : Below w.heap.size w w') : PropC w' cs d := by
  obtain ⟨ps, ls, a, b, c, h0, h1, h2, h3, h4, h5⟩ := h
  exact ⟨ps, ls, a, b, c, h0, h1.below hb, h2.below hb, h3.below hb, h4.below hb, h5.below hb⟩
/-- a value of a struct type -/
def Agg (p : World → List Value → Prop) (v : Value) (w : World) : Prop := ∃ cs : List Value, v = .agg cs.toArray ∧ p w cs
/-- bytes do not lie in a block that holds none -/
theorem BytesL.past {w w' : World} {v : Value} {l : List UInt8} {g : Nat} {t : TypeId} {cs : Array Value} (h : BytesL w v l) (hr : isRow w g t cs)
    (hn : (cs.toList.all fun u => match u with | .int .u8 _ => false | _ => true) = true) (hg : w.grownBy w' (some g)) : BytesL w' v l := by
  refine ⟨?_, h.2⟩
  obtain ⟨hl, hm, A, c, rfl, hc, hA⟩ := h.1
  refine ⟨hl, hm, A, c, rfl, hc, fun h0 => ?_⟩
  obtain ⟨ad, rfl, hlt, hcell⟩ := hA h0
  have hne : ad.block ≠ g := by
    rintro rfl
    match l, h0 with
    | b :: l, _ =>
      have h1 := hcell 0 (bv b) rfl
      have ha : ad.add 0 = ad := by simp [Addr.add]
      rw [ha] at h1
      unfold isRow at hr
      simp only [World.cell?, hr] at h1
      split at h1
      · cases h1
      · have hmem := Array.mem_of_getElem? h1
        have := List.all_eq_true.1 hn _ (Array.mem_toList_iff.2 hmem)
        simp [bv] at this
  exact ⟨ad, rfl, Nat.lt_of_lt_of_le hlt hg.size, fun j u hu => (World.cell?_of_block (hg.block (ad.add j).block (by rw [addr_block]; exact hlt) (by rw [addr_block]; exact fun e => hne (by injection e)))).trans (hcell j u hu)⟩
theorem copied13' (v : Value) (l : List UInt8) (w : World) (h : BytesL w v l) : Calls Tryz.prog 78 #[v] w (Some_ w fun v w' => ∃ A c, v = .slice A l.length c ∧ BytesL w' (.slice A l.length c) l) :=
  (copied13 v l w h.1 h.2).mono fun _ _ ⟨v, he, ⟨A, c, hv, hb⟩, hB⟩ => ⟨v, he, ⟨A, c, hv, hb, h.2⟩, hB⟩
theorem Tryz.copied13_in : Callable Tryz.prog 78 := callable Tryz.func78 (by kernel_rfl) (by kernel_rfl)
theorem Tryz.leaf13_in : Callable Tryz.prog 30 := callable Tryz.func30 (by kernel_rfl) (by kernel_rfl)
set_option maxHeartbeats 1000000 in
theorem leaf13 (cs : List Value) (d : LeafD) (w : World) (h : LeafC w cs d) : Calls Tryz.prog 30 #[.agg cs.toArray] w (Some_ w (Agg fun w cs => LeafC w cs d)) := by
  obtain ⟨x0, x1, x2, x4, x5, rfl, h0, h1, h2, h4, h5⟩ := h
  have H0 := Lib.hid h0; clear h0
  have H1 := Lib.hid h1; clear h1
  have H2 := Lib.hid h2; clear h2
  have H4 := Lib.hid h4; clear h4
  have H5 := Lib.hid h5; clear h5
  try simp only [List.cons_append, List.nil_append]
  go_enter Tryz.func30, Tryz.ntmps30
  go_wp2_with fail
  refine wp_region_plan [.quiet [0, 1, 3, 4, 6, 7, 9, 10, 11, 12, 14, 15], .eff 2, .eff 5, .eff 8, .eff 13, .eff 16, .quiet [17], .last 18] (some (w.heap.size + 1)) Tryz.mixed (by kernel_rfl) ?_
  generalize hW : World.drew _ = W
  have hB : Below w.heap.size w W := hW ▸ (((Below.refl _ _).alloc (Nat.le_refl _) _).alloc (by simp) _).drew
  have hz : w.heap.size + 1 < W.heap.size := by subst hW; simp
  have hl0 := later_cell (row := some (w.heap.size + 1)) (w := W) (p := ⟨w.heap.size, 0, none⟩) (u := x0) (by subst hW; simp [go_sem]) (by simp)
  have hl1 := later_cell (row := some (w.heap.size + 1)) (w := W) (p := ⟨w.heap.size, 1, none⟩) (u := x1) (by subst hW; simp [go_sem]) (by simp)
  have hl2 := later_cell (row := some (w.heap.size + 1)) (w := W) (p := ⟨w.heap.size, 2, none⟩) (u := x2) (by subst hW; simp [go_sem]) (by simp)
  have hl3 := later_cell (row := some (w.heap.size + 1)) (w := W) (p := ⟨w.heap.size, 3, none⟩) (u := .int .i64 d.source) (by subst hW; simp [go_sem]) (by simp)
  have hl4 := later_cell (row := some (w.heap.size + 1)) (w := W) (p := ⟨w.heap.size, 4, none⟩) (u := x4) (by subst hW; simp [go_sem]) (by simp)
  have hl5 := later_cell (row := some (w.heap.size + 1)) (w := W) (p := ⟨w.heap.size, 5, none⟩) (u := x5) (by subst hW; simp [go_sem]) (by simp)
  have hr : isRow W (w.heap.size + 1) 33 #[.slice none 0 0, .slice none 0 0, .slice none 0 0, .int .i64 0, .slice none 0 0, .slice none 0 0] := by
    subst hW
    have h := isRow.new (w.alloc (Obj.cells #[x0, x1, x2, .int .i64 d.source, x4, x5] 24)) 33 #[.slice none 0 0, .slice none 0 0, .slice none 0 0, .int .i64 0, .slice none 0 0, .slice none 0 0]
    rw [World.size_alloc] at h
    exact h.drew
  clear hW
  refine plan_quiet ?_
  repeat (refine quiet_next rfl ?_; go_big_quiet_step (fail))
  refine quiet_end ?_
  refine plan_callB rfl rfl rfl Tryz.copied13_in (copied13' x0 d.enc _ (H0.out.below hB)) rfl ?_
  rintro _ w1 ⟨A1, c1, rfl, g1⟩ b1
  have B1 := hB.trans (b1.mono hB.size)
  have r1 := hr.below b1 hr.lt
  refine plan_callB rfl rfl rfl Tryz.copied13_in (copied13' x1 d.sig _ (H1.out.below B1)) rfl ?_
  rintro _ w2 ⟨A2, c2, rfl, g2⟩ b2
  have B2 := B1.trans (b2.mono B1.size)
  have r2 := r1.below b2 r1.lt
  refine plan_callB rfl rfl rfl Tryz.copied13_in (copied13' x2 d.name _ (H2.out.below B2)) rfl ?_
  rintro _ w3 ⟨A3, c3, rfl, g3⟩ b3
  have B3 := B2.trans (b3.mono B2.size)
  have r3 := r2.below b3 r2.lt
  refine plan_callB rfl rfl rfl Tryz.copied13_in (copied13' x4 d.hash _ (H4.out.below B3)) rfl ?_
  rintro _ w4 ⟨A4, c4, rfl, g4⟩ b4
  have B4 := B3.trans (b4.mono B3.size)
  have r4 := r3.below b4 r3.lt
  refine plan_callB rfl rfl rfl Tryz.copied13_in (copied13' x5 d.signature _ (H5.out.below B4)) rfl ?_
  rintro _ w5 ⟨A5, c5, rfl, g5⟩ b5
  have B5 := B4.trans (b5.mono B4.size)
  have r5 := r4.below b5 r4.lt
  simp only [Act.put, List.setIfInBounds_toArray, List.set_cons_succ, List.set_cons_zero]
  refine plan_quiet ?_
  repeat (refine quiet_next rfl ?_; go_big_quiet_step (fail))
  refine quiet_end ?_
  refine plan_store (vs := [_, _, _, _, _, _]) rfl rfl rfl rfl rfl r5 (by simp) (by kernel_rfl) rfl ?_
  intro v1 hv1 hg1 hs1
  refine plan_end ?_
  simp only [Act.put]
  go_wp2_with fail
  refine ret_row (g := w.heap.size + 1) rfl rfl hv1 Tryz.underlying33 rfl (by kernel_rfl) rfl ?_
  have hn : (List.all ([.slice none 0 0, .slice none 0 0, .slice none 0 0, .int .i64 0, .slice none 0 0, .slice none 0 0] : List Value) fun u => match u with | .int .u8 _ => false | _ => true) = true := rfl
  exact ⟨_, rfl, ⟨_, rfl, _, _, _, _, _, rfl, (((((g1.below b2).below b3).below b4).below b5).past r5 hn hg1), ((((g2.below b3).below b4).below b5).past r5 hn hg1), (((g3.below b4).below b5).past r5 hn hg1), ((g4.below b5).past r5 hn hg1), (g5.past r5 hn hg1)⟩, B5.grown hg1 B5.size (fun k hk => by injection hk with hk; omega)⟩

end Go.Proofs
