/- What comes in, opened: bytes, leaves, packages, proposals, lists of them: where the input is of bulk at most 1048576. -/
import Derived.Test.YtknmfkdfiomicaaGreatDoorRows
import Derived.Test.YtknmfkdfiomicaaGreatDoorList20
import Derived.Deep.Slices
namespace Go.Proofs
open Go.RowKit Go.ChangeShapes Go.Deep
section
variable {H : Type} {enc : TypeId × Value → H} {W : World} {base : Nat} {spare : Nat → Bool} {held : Bool}
theorem len2 {α : Type} {l : List α} (h : l.length = 2) : ∃ a0 a1, l = [a0, a1] := by
  match l, h with
  | [a0, a1], _ => exact ⟨a0, a1, rfl⟩
theorem len3 {α : Type} {l : List α} (h : l.length = 3) : ∃ a0 a1 a2, l = [a0, a1, a2] := by
  match l, h with
  | [a0, a1, a2], _ => exact ⟨a0, a1, a2, rfl⟩
theorem len6 {α : Type} {l : List α} (h : l.length = 6) : ∃ a0 a1 a2 a3 a4 a5, l = [a0, a1, a2, a3, a4, a5] := by
  match l, h with
  | [a0, a1, a2, a3, a4, a5], _ => exact ⟨a0, a1, a2, a3, a4, a5, rfl⟩
theorem len7 {α : Type} {l : List α} (h : l.length = 7) : ∃ a0 a1 a2 a3 a4 a5 a6, l = [a0, a1, a2, a3, a4, a5, a6] := by
  match l, h with
  | [a0, a1, a2, a3, a4, a5, a6], _ => exact ⟨a0, a1, a2, a3, a4, a5, a6, rfl⟩
theorem len8 {α : Type} {l : List α} (h : l.length = 8) : ∃ a0 a1 a2 a3 a4 a5 a6 a7, l = [a0, a1, a2, a3, a4, a5, a6, a7] := by
  match l, h with
  | [a0, a1, a2, a3, a4, a5, a6, a7], _ => exact ⟨a0, a1, a2, a3, a4, a5, a6, a7, rfl⟩
theorem len19 {α : Type} {l : List α} (h : l.length = 19) : ∃ a0 a1 a2 a3 a4 a5 a6 a7 a8 a9 a10 a11 a12 a13 a14 a15 a16 a17 a18, l = [a0, a1, a2, a3, a4, a5, a6, a7, a8, a9, a10, a11, a12, a13, a14, a15, a16, a17, a18] := by
  match l, h with
  | [a0, a1, a2, a3, a4, a5, a6, a7, a8, a9, a10, a11, a12, a13, a14, a15, a16, a17, a18], _ => exact ⟨a0, a1, a2, a3, a4, a5, a6, a7, a8, a9, a10, a11, a12, a13, a14, a15, a16, a17, a18, rfl⟩
theorem bulk_one (d : DataW H) : 1 ≤ Go.Proofs.YtknmfkdfiomicaaGreatDoor.Rows.uptoBulk d := by
  cases d with
  | lit l => cases l <;> simp [Go.Proofs.YtknmfkdfiomicaaGreatDoor.Rows.uptoBulk]
  | nil => simp [Go.Proofs.YtknmfkdfiomicaaGreatDoor.Rows.uptoBulk]
  | ptr d => simp [Go.Proofs.YtknmfkdfiomicaaGreatDoor.Rows.uptoBulk]
  | slice elems spare => simp [Go.Proofs.YtknmfkdfiomicaaGreatDoor.Rows.uptoBulk]
  | agg parts => simp [Go.Proofs.YtknmfkdfiomicaaGreatDoor.Rows.uptoBulk]
  | iface t d => simp [Go.Proofs.YtknmfkdfiomicaaGreatDoor.Rows.uptoBulk]
  | map entries => simp [Go.Proofs.YtknmfkdfiomicaaGreatDoor.Rows.uptoBulk]
  | held h => simp [Go.Proofs.YtknmfkdfiomicaaGreatDoor.Rows.uptoBulk]
theorem bulk_part {d : DataW H} {l : List (DataW H)} (h : d ∈ l) : Go.Proofs.YtknmfkdfiomicaaGreatDoor.Rows.uptoBulk d ≤ Go.Proofs.YtknmfkdfiomicaaGreatDoor.Rows.uptoBulkAll l := by
  induction l with
  | nil => cases h
  | cons x r ih =>
    simp only [Go.Proofs.YtknmfkdfiomicaaGreatDoor.Rows.uptoBulkAll]
    cases List.mem_cons.1 h with
    | inl e => subst e; omega
    | inr e => have := ih e; omega
theorem bulk_length (l : List (DataW H)) : l.length ≤ Go.Proofs.YtknmfkdfiomicaaGreatDoor.Rows.uptoBulkAll l := by
  induction l with
  | nil => simp [Go.Proofs.YtknmfkdfiomicaaGreatDoor.Rows.uptoBulkAll]
  | cons x r ih => have := bulk_one x; simp only [Go.Proofs.YtknmfkdfiomicaaGreatDoor.Rows.uptoBulkAll, List.length_cons]; omega
theorem bulk_slice (elems rest : List (DataW H)) : Go.Proofs.YtknmfkdfiomicaaGreatDoor.Rows.uptoBulkAll elems + 1 ≤ Go.Proofs.YtknmfkdfiomicaaGreatDoor.Rows.uptoBulk (.slice elems rest) := by
  simp only [Go.Proofs.YtknmfkdfiomicaaGreatDoor.Rows.uptoBulk]; omega
theorem bulk_agg {B : Nat} {l : List (DataW H × List MemPlace)} (hb : Go.Proofs.YtknmfkdfiomicaaGreatDoor.Rows.uptoBulk (.agg (l.map (·.1))) ≤ B) : ∀ y ∈ l, Go.Proofs.YtknmfkdfiomicaaGreatDoor.Rows.uptoBulk y.1 ≤ B := by
  intro y hy
  have h1 := bulk_part (d := y.1) (l := l.map (·.1)) (List.mem_map.2 ⟨y, hy, rfl⟩)
  simp only [Go.Proofs.YtknmfkdfiomicaaGreatDoor.Rows.uptoBulk] at hb
  omega
theorem cells8 : Tryz.prog.cellsOf 5 = 1 := by kernel_rfl
theorem cellsB : Tryz.prog.cellsOf 22 = 1 := by kernel_rfl
theorem cellsI : Tryz.prog.cellsOf 3 = 1 := by kernel_rfl
theorem cellsL : Tryz.prog.cellsOf 24 = 6 := by kernel_rfl
theorem bv_int {z : Int} (h : (Lit.int .u8 z).wf = true) : bv (UInt8.ofNat z.toNat) = .int .u8 z := by
  simp only [Lit.wf, Bool.and_eq_true, decide_eq_true_eq] at h
  obtain ⟨h0, h1⟩ := h
  have h0' : 0 ≤ z := h0
  have h1' : z ≤ 255 := h1
  simp only [bv]
  congr 1
  have : z.toNat < 256 := by omega
  simp [UInt8.toNat_ofNat', Nat.mod_eq_of_lt this]
  omega
theorem open_bytes {fuel : Nat} {v : Value} {x : DataW H × List MemPlace} (h : DataW.trod enc Tryz.prog W base spare held fuel 22 [v] = some x) {B : Nat} (hB : B ≤ lim) (hb : Go.Proofs.YtknmfkdfiomicaaGreatDoor.Rows.uptoBulk x.1 ≤ B) : ∃ l, BytesL W v l := by
  rcases open_ints Tryz.underlying22 Tryz.underlying5 cells8 h with ⟨h1, rfl⟩ | ⟨a, len, cap, zs, h1, hbase, hlc, hcm, hzl, rfl, hcell, hwf⟩
  · injection h1 with h1
    subst h1
    exact ⟨[], ⟨rfl, Nat.zero_le _, none, 0, rfl, Nat.le_refl _, fun h => absurd h (by simp)⟩, Nat.zero_le _⟩
  · injection h1 with h1
    subst h1
    have hlen : len ≤ zs.length := by rw [hzl]; split <;> omega
    have hll : ((zs.take len).map fun z => UInt8.ofNat z.toNat).length = len := by simp; omega
    have hbk := bulk_slice (lits (H := H) .u8 (zs.take len)) (lits .u8 (zs.drop len))
    have hbl := bulk_length (lits (H := H) .u8 (zs.take len))
    have hln : (lits (H := H) .u8 (zs.take len)).length = len := by simp [lits]; omega
    have hmap : ((zs.take len).map fun z => UInt8.ofNat z.toNat).map bv = (zs.take len).map (Value.int .u8) := by
      rw [List.map_map]
      refine List.map_congr_left fun z hz => ?_
      exact bv_int (hwf z (List.mem_of_mem_take hz))
    refine ⟨(zs.take len).map fun z => UInt8.ofNat z.toNat, ⟨?_, ?_, some a, cap, ?_, ?_, fun h0 => ⟨a, rfl, ?_, ?_⟩⟩, ?_⟩
    · simp
    · rw [hll]; omega
    · rw [hll]
    · rw [hll]; omega
    · rw [hll] at h0
      have := hcell 0 (by omega)
      have ha : a.add 0 = a := by unfold Addr.add; split <;> simp_all
      rw [ha] at this
      exact World.block_lt_of_cell? W a this
    · intro j u hu
      rw [hmap] at hu
      have hj : j < len := by
        have := (List.getElem?_eq_some_iff.1 hu).1
        simp at this; omega
      rw [hcell j (by omega)]
      simp [hj, List.getD] at hu ⊢
      have : zs[j]? = some (zs[j]'(by omega)) := List.getElem?_eq_getElem (by omega)
      rw [this] at hu ⊢
      simpa using hu
    · rw [hll]
      exact Nat.le_trans (by simp only at hb; omega) hB
theorem trod_one_int {P : Program} {t : TypeId} {fuel : Nat} {v : Value} {x : DataW H × List MemPlace} (ht : P.underlying t = some (.int .i64)) (h : DataW.trod enc P W base spare held fuel t [v] = some x) : ∃ n, v = .int .i64 n := by
  cases fuel with
  | zero => simp [DataW.trod] at h
  | succ n =>
    unfold DataW.trod at h
    rw [ht] at h
    cases v <;> try cases h
    simp only at h
    split at h
    · rename_i hk
      exact ⟨_, by rw [hk.1]⟩
    · cases h
theorem open_one_int {fuel : Nat} {v : Value} {x : DataW H × List MemPlace} (h : DataW.trod enc Tryz.prog W base spare held fuel 3 [v] = some x) : ∃ n, v = .int .i64 n := trod_one_int Tryz.underlying3 h
theorem open_leaf {fuel : Nat} {cs : List Value} {x : DataW H × List MemPlace} (h : DataW.trod enc Tryz.prog W base spare held fuel 24 cs = some x) {B : Nat} (hB : B ≤ lim) (hb : Go.Proofs.YtknmfkdfiomicaaGreatDoor.Rows.uptoBulk x.1 ≤ B) : ∃ d, LeafC W cs d := by
  obtain ⟨xs, n, _, rfl, hl, hlen, hf⟩ := DataW.trod_struct Tryz.underlying24 h
  rw [cellsL] at hl
  have hk := bulk_agg hb
  have hlen' : xs.length = 6 := hlen
  clear h hb hlen
  obtain ⟨a, b, c, s, e, f, rfl⟩ := len6 hl
  obtain ⟨y0, y1, y2, y3, y4, y5, rfl⟩ := len6 hlen'
  · skip
    have h0 := hf 0 _ rfl; have h1 := hf 1 _ rfl; have h2 := hf 2 _ rfl; have h3 := hf 3 _ rfl; have h4 := hf 4 _ rfl; have h5 := hf 5 _ rfl
    simp [cellsB, cellsI] at h0 h1 h2 h3 h4 h5
    obtain ⟨l0, b0⟩ := open_bytes h0 hB (hk _ (by simp)); obtain ⟨l1, b1⟩ := open_bytes h1 hB (hk _ (by simp)); obtain ⟨l2, b2⟩ := open_bytes h2 hB (hk _ (by simp))
    obtain ⟨z, rfl⟩ := open_one_int h3
    obtain ⟨l4, b4⟩ := open_bytes h4 hB (hk _ (by simp)); obtain ⟨l5, b5⟩ := open_bytes h5 hB (hk _ (by simp))
    exact ⟨⟨l0, l1, l2, z, l4, l5⟩, a, b, c, e, f, rfl, b0, b1, b2, b4, b5⟩
end
end Go.Proofs
