/- What comes in, opened: bytes, leaves, packages, proposals, lists of them: where the input is of bulk at most 1048576. -/
import Derived.Test.YtphjmbbnhgdacaaGreatDoorRows
import Derived.Test.YtphjmbbnhgdacaaGreatDoorList20
import Derived.Deep.Slices
namespace Go.Proofs
open Go.RowKit Go.ChangeShapes Go.Deep
section
variable {H : Type} {enc : TypeId × Value → H} {W : World} {base : Nat} {spare : Nat → Bool} {held : Bool}
theorem len2 {α : Type} {l : List α} (h : l.length = 2) : ∃ a0 a1, l = [a0, a1] := by
  match l, h with
  | [a0, a1], _ => exact ⟨a0, a1, rfl⟩
theorem len3 {α : Type} {l : List α} (h : l.length = 3) : ∃ a0 a1 a2, l = [a0, a1, a2] := by
  match l, h with
  | [a0, a1, a2], _ => exact ⟨a0, a1, a2, rfl⟩
theorem len6 {α : Type} {l : List α} (h : l.length = 6) : ∃ a0 a1 a2 a3 a4 a5, l = [a0, a1, a2, a3, a4, a5] := by
  match l, h with
  | [a0, a1, a2, a3, a4, a5], _ => exact ⟨a0, a1, a2, a3, a4, a5, rfl⟩
theorem len7 {α : Type} {l : List α} (h : l.length = 7) : ∃ a0 a1 a2 a3 a4 a5 a6, l = [a0, a1, a2, a3, a4, a5, a6] := by
  match l, h with
  | [a0, a1, a2, a3, a4, a5, a6], _ => exact ⟨a0, a1, a2, a3, a4, a5, a6, rfl⟩
theorem len8 {α : Type} {l : List α} (h : l.length = 8) : ∃ a0 a1 a2 a3 a4 a5 a6 a7, l = [a0, a1, a2, a3, a4, a5, a6, a7] := by
  match l, h with
  | [a0, a1, a2, a3, a4, a5, a6, a7], _ => exact ⟨a0, a1, a2, a3, a4, a5, a6, a7, rfl⟩
theorem len19 {α : Type} {l : List α} (h : l.length = 19) : ∃ a0 a1 a2 a3 a4 a5 a6 a7 a8 a9 a10 a11 a12 a13 a14 a15 a16 a17 a18, l = [a0, a1, a2, a3, a4, a5, a6, a7, a8, a9, a10, a11, a12, a13, a14, a15, a16, a17, a18] := by
  match l, h with
  | [a0, a1, a2, a3, a4, a5, a6, a7, a8, a9, a10, a11, a12, a13, a14, a15, a16, a17, a18], _ => exact ⟨a0, a1, a2, a3, a4, a5, a6, a7, a8, a9, a10, a11, a12, a13, a14, a15, a16, a17, a18, rfl⟩
theorem bulk_one (d : DataW H) : 1 ≤ Go.Proofs.YtphjmbbnhgdacaaGreatDoor.Rows.uptoBulk d := by
  cases d with
  | lit l => cases l <;> simp [Go.Proofs.YtphjmbbnhgdacaaGreatDoor.Rows.uptoBulk]
  | nil => simp [Go.Proofs.YtphjmbbnhgdacaaGreatDoor.Rows.uptoBulk]
  | ptr d => simp [Go.Proofs.YtphjmbbnhgdacaaGreatDoor.Rows.uptoBulk]
  | slice elems spare => simp [Go.Proofs.YtphjmbbnhgdacaaGreatDoor.Rows.uptoBulk]
  | agg parts => simp [Go.Proofs.YtphjmbbnhgdacaaGreatDoor.Rows.uptoBulk]
  | iface t d => simp [Go.Proofs.YtphjmbbnhgdacaaGreatDoor.Rows.uptoBulk]
  | map entries => simp [Go.Proofs.YtphjmbbnhgdacaaGreatDoor.Rows.uptoBulk]
  | held h => simp [Go.Proofs.YtphjmbbnhgdacaaGreatDoor.Rows.uptoBulk]
theorem bulk_part {d : DataW H} {l : List (DataW H)} (h : d ∈ l) : Go.Proofs.YtphjmbbnhgdacaaGreatDoor.Rows.uptoBulk d ≤ Go.Proofs.YtphjmbbnhgdacaaGreatDoor.Rows.uptoBulkAll l := by
  induction l with
  | nil => cases h
  | cons x r ih =>
    simp only [Go.Proofs.YtphjmbbnhgdacaaGreatDoor.Rows.uptoBulkAll]
    cases List.mem_cons.1 h with
    | inl e => subst e; omega
    | inr e => have := ih e; omega
theorem bulk_length (l : List (DataW H)) : l.length ≤ Go.Proofs.YtphjmbbnhgdacaaGreatDoor.Rows.uptoBulkAll l := by
  induction l with
  | nil => simp [Go.Proofs.YtphjmbbnhgdacaaGreatDoor.Rows.uptoBulkAll]
  | cons x r ih => have := bulk_one x; simp only [Go.Proofs.YtphjmbbnhgdacaaGreatDoor.Rows.uptoBulkAll, List.length_cons]; omega
theorem bulk_slice (elems rest : List (DataW H)) : Go.Proofs.YtphjmbbnhgdacaaGreatDoor.Rows.uptoBulkAll elems + 1 ≤ Go.Proofs.YtphjmbbnhgdacaaGreatDoor.Rows.uptoBulk (.slice elems rest) := by
  simp only [Go.Proofs.YtphjmbbnhgdacaaGreatDoor.Rows.uptoBulk]; omega
theorem bulk_agg {B : Nat} {l : List (DataW H × List MemPlace)} (hb : Go.Proofs.YtphjmbbnhgdacaaGreatDoor.Rows.uptoBulk (.agg (l.map (·.1))) ≤ B) : ∀ y ∈ l, Go.Proofs.YtphjmbbnhgdacaaGreatDoor.Rows.uptoBulk y.1 ≤ B := by
  intro y hy
  have h1 := bulk_part (d := y.1) (l := l.map (·.1)) (List.mem_map.2 ⟨y, hy, rfl⟩)
  simp only [Go.Proofs.YtphjmbbnhgdacaaGreatDoor.Rows.uptoBulk] at hb
  omega
theorem cells8 : Tryz.prog.cellsOf 5 = 1 := by kernel_rfl
theorem cellsB : Tryz.prog.cellsOf 39 = 1 := by kernel_rfl
theorem cellsI : Tryz.prog.cellsOf 3 = 1 := by kernel_rfl
theorem cellsL : Tryz.prog.cellsOf 55 = 6 := by kernel_rfl
theorem cellsP : Tryz.prog.cellsOf 57 = 8 := by kernel_rfl
theorem cellsQ : Tryz.prog.cellsOf 59 = 19 := by kernel_rfl
theorem cellsX : Tryz.prog.cellsOf 61 = 20 := by kernel_rfl
theorem bv_int {z : Int} (h : (Lit.int .u8 z).wf = true) : bv (UInt8.ofNat z.toNat) = .int .u8 z := by
  simp only [Lit.wf, Bool.and_eq_true, decide_eq_true_eq] at h
  obtain ⟨h0, h1⟩ := h
  have h0' : 0 ≤ z := h0
  have h1' : z ≤ 255 := h1
  simp only [bv]
  congr 1
  have : z.toNat < 256 := by omega
  simp [UInt8.toNat_ofNat', Nat.mod_eq_of_lt this]
  omega
theorem open_bytes {fuel : Nat} {v : Value} {x : DataW H × List MemPlace} (h : DataW.trod enc Tryz.prog W base spare held fuel 39 [v] = some x) {B : Nat} (hB : B ≤ lim) (hb : Go.Proofs.YtphjmbbnhgdacaaGreatDoor.Rows.uptoBulk x.1 ≤ B) : ∃ l, BytesL W v l := by
  rcases open_ints Tryz.underlying39 Tryz.underlying5 cells8 h with ⟨h1, rfl⟩ | ⟨a, len, cap, zs, h1, hbase, hlc, hcm, hzl, rfl, hcell, hwf⟩
  · injection h1 with h1
    subst h1
    exact ⟨[], ⟨rfl, Nat.zero_le _, none, 0, rfl, Nat.le_refl _, fun h => absurd h (by simp)⟩, Nat.zero_le _⟩
  · injection h1 with h1
    subst h1
    have hlen : len ≤ zs.length := by rw [hzl]; split <;> omega
    have hll : ((zs.take len).map fun z => UInt8.ofNat z.toNat).length = len := by simp; omega
    have hbk := bulk_slice (lits (H := H) .u8 (zs.take len)) (lits .u8 (zs.drop len))
    have hbl := bulk_length (lits (H := H) .u8 (zs.take len))
    have hln : (lits (H := H) .u8 (zs.take len)).length = len := by simp [lits]; omega
    have hmap : ((zs.take len).map fun z => UInt8.ofNat z.toNat).map bv = (zs.take len).map (Value.int .u8) := by
      rw [List.map_map]
      refine List.map_congr_left fun z hz => ?_
      exact bv_int (hwf z (List.mem_of_mem_take hz))
    refine ⟨(zs.take len).map fun z => UInt8.ofNat z.toNat, ⟨?_, ?_, some a, cap, ?_, ?_, fun h0 => ⟨a, rfl, ?_, ?_⟩⟩, ?_⟩
    · simp
    · rw [hll]; omega
    · rw [hll]
    · rw [hll]; omega
    · rw [hll] at h0
      have := hcell 0 (by omega)
      have ha : a.add 0 = a := by unfold Addr.add; split <;> simp_all
      rw [ha] at this
      exact World.block_lt_of_cell? W a this
    · intro j u hu
      rw [hmap] at hu
      have hj : j < len := by
        have := (List.getElem?_eq_some_iff.1 hu).1
        simp at this; omega
      rw [hcell j (by omega)]
      simp [hj, List.getD] at hu ⊢
      have : zs[j]? = some (zs[j]'(by omega)) := List.getElem?_eq_getElem (by omega)
      rw [this] at hu ⊢
      simpa using hu
    · rw [hll]
      exact Nat.le_trans (by simp only at hb; omega) hB
theorem trod_one_int {P : Program} {t : TypeId} {fuel : Nat} {v : Value} {x : DataW H × List MemPlace} (ht : P.underlying t = some (.int .i64)) (h : DataW.trod enc P W base spare held fuel t [v] = some x) : ∃ n, v = .int .i64 n := by
  cases fuel with
  | zero => simp [DataW.trod] at h
  | succ n =>
    unfold DataW.trod at h
    rw [ht] at h
    cases v <;> try cases h
    simp only at h
    split at h
    · rename_i hk
      exact ⟨_, by rw [hk.1]⟩
    · cases h
theorem open_one_int {fuel : Nat} {v : Value} {x : DataW H × List MemPlace} (h : DataW.trod enc Tryz.prog W base spare held fuel 3 [v] = some x) : ∃ n, v = .int .i64 n := trod_one_int Tryz.underlying3 h
theorem open_leaf {fuel : Nat} {cs : List Value} {x : DataW H × List MemPlace} (h : DataW.trod enc Tryz.prog W base spare held fuel 55 cs = some x) {B : Nat} (hB : B ≤ lim) (hb : Go.Proofs.YtphjmbbnhgdacaaGreatDoor.Rows.uptoBulk x.1 ≤ B) : ∃ d, LeafC W cs d := by
  obtain ⟨xs, n, _, rfl, hl, hlen, hf⟩ := DataW.trod_struct Tryz.underlying55 h
  rw [cellsL] at hl
  have hk := bulk_agg hb
  have hlen' : xs.length = 6 := hlen
  clear h hb hlen
  obtain ⟨a, b, c, s, e, f, rfl⟩ := len6 hl
  obtain ⟨y0, y1, y2, y3, y4, y5, rfl⟩ := len6 hlen'
  · skip
    have h0 := hf 0 _ rfl; have h1 := hf 1 _ rfl; have h2 := hf 2 _ rfl; have h3 := hf 3 _ rfl; have h4 := hf 4 _ rfl; have h5 := hf 5 _ rfl
    simp [cellsB, cellsI] at h0 h1 h2 h3 h4 h5
    obtain ⟨l0, b0⟩ := open_bytes h0 hB (hk _ (by simp)); obtain ⟨l1, b1⟩ := open_bytes h1 hB (hk _ (by simp)); obtain ⟨l2, b2⟩ := open_bytes h2 hB (hk _ (by simp))
    obtain ⟨z, rfl⟩ := open_one_int h3
    obtain ⟨l4, b4⟩ := open_bytes h4 hB (hk _ (by simp)); obtain ⟨l5, b5⟩ := open_bytes h5 hB (hk _ (by simp))
    exact ⟨⟨l0, l1, l2, z, l4, l5⟩, a, b, c, e, f, rfl, b0, b1, b2, b4, b5⟩
theorem open_pack {fuel : Nat} {cs : List Value} {x : DataW H × List MemPlace} (h : DataW.trod enc Tryz.prog W base spare held fuel 57 cs = some x) {B : Nat} (hB : B ≤ lim) (hb : Go.Proofs.YtphjmbbnhgdacaaGreatDoor.Rows.uptoBulk x.1 ≤ B) : ∃ d, PackC W cs d := by
  obtain ⟨xs, n, _, rfl, hl, hlen, hf⟩ := DataW.trod_struct Tryz.underlying57 h
  rw [cellsP] at hl
  have hk := bulk_agg hb
  have hlen' : xs.length = 3 := hlen
  clear h hb hlen
  obtain ⟨a, c1, c2, c3, c4, c5, c6, b, rfl⟩ := len8 hl
  obtain ⟨y0, y1, y2, rfl⟩ := len3 hlen'
  · skip
    have h0 := hf 0 _ rfl; have h1 := hf 1 _ rfl; have h2 := hf 2 _ rfl
    simp [cellsB, cellsL] at h0 h1 h2
    obtain ⟨l0, b0⟩ := open_bytes h0 hB (hk _ (by simp)); obtain ⟨d, hd⟩ := open_leaf h1 hB (hk _ (by simp)); obtain ⟨l2, b2⟩ := open_bytes h2 hB (hk _ (by simp))
    exact ⟨⟨l0, d, l2⟩, a, _, b, rfl, b0, hd, b2⟩
theorem open_prop {fuel : Nat} {cs : List Value} {x : DataW H × List MemPlace} (h : DataW.trod enc Tryz.prog W base spare held fuel 59 cs = some x) {B : Nat} (hB : B ≤ lim) (hb : Go.Proofs.YtphjmbbnhgdacaaGreatDoor.Rows.uptoBulk x.1 ≤ B) : ∃ d, PropC W cs d := by
  obtain ⟨xs, n, _, rfl, hl, hlen, hf⟩ := DataW.trod_struct Tryz.underlying59 h
  rw [cellsQ] at hl
  have hk := bulk_agg hb
  have hlen' : xs.length = 7 := hlen
  clear h hb hlen
  obtain ⟨k, p1, p2, p3, p4, p5, p6, p7, p8, c1, c2, c3, c4, c5, c6, ix, a, b, c, rfl⟩ := len19 hl
  obtain ⟨y0, y1, y2, y3, y4, y5, y6, rfl⟩ := len7 hlen'
  · skip
    have h0 := hf 0 _ rfl; have h1 := hf 1 _ rfl; have h2 := hf 2 _ rfl; have h3 := hf 3 _ rfl; have h4 := hf 4 _ rfl; have h5 := hf 5 _ rfl; have h6 := hf 6 _ rfl
    simp [cellsB, cellsI, cellsL, cellsP] at h0 h1 h2 h3 h4 h5 h6
    obtain ⟨zk, rfl⟩ := open_one_int h0; obtain ⟨dp, hp⟩ := open_pack h1 hB (hk _ (by simp)); obtain ⟨dl, hdl⟩ := open_leaf h2 hB (hk _ (by simp)); obtain ⟨zi, rfl⟩ := open_one_int h3
    obtain ⟨l4, b4⟩ := open_bytes h4 hB (hk _ (by simp)); obtain ⟨l5, b5⟩ := open_bytes h5 hB (hk _ (by simp)); obtain ⟨l6, b6⟩ := open_bytes h6 hB (hk _ (by simp))
    exact ⟨⟨zk, dp, dl, zi, l4, l5, l6⟩, [p1, p2, p3, p4, p5, p6, p7, p8], [c1, c2, c3, c4, c5, c6], a, b, c, rfl, hp, hdl, b4, b5, b6⟩
theorem open_listed {fuel : Nat} {cs : List Value} {x : DataW H × List MemPlace} (h : DataW.trod enc Tryz.prog W base spare held fuel 61 cs = some x) {B : Nat} (hB : B ≤ lim) (hb : Go.Proofs.YtphjmbbnhgdacaaGreatDoor.Rows.uptoBulk x.1 ≤ B) : ∃ d, ListedC W cs d := by
  obtain ⟨xs, n, _, rfl, hl, hlen, hf⟩ := DataW.trod_struct Tryz.underlying61 h
  rw [cellsX] at hl
  have hk := bulk_agg hb
  have hlen' : xs.length = 2 := hlen
  clear h hb hlen
  obtain ⟨w, ps, rfl⟩ : ∃ w ps, cs = w :: ps := by
    cases cs with
    | nil => simp at hl
    | cons w ps => exact ⟨w, ps, rfl⟩
  obtain ⟨y0, y1, rfl⟩ := len2 hlen'
  · skip
    have hps : ps.length = 19 := by simpa using hl
    have h0 := hf 0 _ rfl; have h1 := hf 1 _ rfl
    simp [cellsI, cellsQ] at h0 h1
    rw [List.take_of_length_le (by omega)] at h1
    obtain ⟨z, rfl⟩ := open_one_int h0; obtain ⟨dp, hp⟩ := open_prop h1 hB (hk _ (by simp))
    exact ⟨⟨z, dp⟩, ps, rfl, hp⟩
/-- a list of proposals, as it comes in -/
theorem open_list {fuel : Nat} {v : Value} {x : DataW H × List MemPlace} (h : DataW.trod enc Tryz.prog W base spare held fuel 22 [v] = some x) {B : Nat} (hB : B ≤ lim) (hB4 : B * 400 ≤ lim) (hb : Go.Proofs.YtphjmbbnhgdacaaGreatDoor.Rows.uptoBulk x.1 ≤ B) : ∃ ds : List ListedD, Structs W 20 v ds ListedC ∧ ds.length * 400 ≤ lim := by
  rcases open_slice Tryz.underlying22 h with ⟨h1, rfl⟩ | ⟨a, len, cap, m, n, D, Pl, h1, hbase, hlc, hcm, hmm, rfl, hel⟩
  · injection h1 with h1
    subst h1
    exact ⟨[], ⟨none, 0, rfl, Nat.le_refl _, fun h => absurd h (by simp)⟩, by simp⟩
  · injection h1 with h1
    subst h1
    have hlm : len ≤ m := by rw [hmm]; split <;> omega
    have hbk := bulk_slice ((List.range len).map D) ((List.range (m - len)).map fun j => D (len + j))
    have hbl := bulk_length ((List.range len).map D)
    simp only [List.length_map, List.length_range] at hbl
    simp only at hb
    have hel' : ∀ i, i < len → ∃ (cs : List Value) (d : ListedD), ListedC W cs d ∧ cs.length = 20 ∧ ∀ j u, cs[j]? = some u → W.cell? (a.add (i * 20 + j)) = some u := by
      intro i hi
      obtain ⟨cs, h1, h2⟩ := hel i (by omega)
      rw [cellsX] at h1
      obtain ⟨_, hlen, hcells⟩ := World.cells?_some h1
      obtain ⟨d, hd⟩ := open_listed h2 hB (by
        have := bulk_part (d := D i) (l := (List.range len).map D) (List.mem_map.2 ⟨i, List.mem_range.2 hi, rfl⟩)
        simp only; omega)
      refine ⟨cs, d, hd, hlen, fun j u hu => ?_⟩
      have hj := (List.getElem?_eq_some_iff.1 hu).1
      rw [← Addr.add_add, hcells j (by omega)]
      exact hu
    have hex : ∀ n, n ≤ len → ∃ ds : List ListedD, ds.length = n ∧ ∀ i d, ds[i]? = some d → ∃ cs : List Value, ListedC W cs d ∧ cs.length = 20 ∧ ∀ j u, cs[j]? = some u → W.cell? (a.add (i * 20 + j)) = some u := by
      intro n
      induction n with
      | zero => exact fun _ => ⟨[], rfl, fun i d h => by simp at h⟩
      | succ n ih =>
        intro hn
        obtain ⟨ds, hl, hds⟩ := ih (by omega)
        obtain ⟨cs, d, h1, h2, h3⟩ := hel' n (by omega)
        refine ⟨ds ++ [d], by simp [hl], fun i d' hi => ?_⟩
        rcases Nat.lt_or_ge i n with hlt | hge
        · rw [List.getElem?_append_left (by omega)] at hi
          exact hds i d' hi
        · rw [List.getElem?_append_right (by omega)] at hi
          have hi' : i = n := by
            have := (List.getElem?_eq_some_iff.1 hi).1
            simp at this; omega
          subst hi'
          simp [hl] at hi
          subst hi
          exact ⟨cs, h1, h2, h3⟩
    obtain ⟨ds, hl, hds⟩ := hex len (Nat.le_refl _)
    refine ⟨ds, ⟨some a, cap, by rw [hl], by rw [hl]; exact hlc, fun h0 => ?_⟩, ?_⟩
    · obtain ⟨cs, h1, h2, h3⟩ := hds 0 _ (List.getElem?_eq_getElem h0)
      have hc := h3 0 _ (List.getElem?_eq_getElem (by omega))
      have ha : a.add (0 * 20 + 0) = a := by unfold Addr.add; split <;> simp_all
      rw [ha] at hc
      obtain ⟨b, off, sp⟩ := a
      have hsp : sp = none := by
        unfold World.cell? at hc
        split at hc
        · split at hc
          · cases hc
          · rename_i hs; simpa using hs
        · cases hc
      subst hsp
      refine ⟨b, off, rfl, World.block_lt_of_cell? W _ hc, fun i d hi => ?_⟩
      obtain ⟨cs, h1, h2, h3⟩ := hds i d hi
      exact ⟨cs, h2, h1, fun j u hu => by
        have := h3 j u hu
        rw [add_plain', ← Nat.add_assoc] at this
        exact this⟩
    · rw [hl]
      exact Nat.le_trans (Nat.mul_le_mul_right 400 (show len ≤ B by omega)) hB4
end
end Go.Proofs
