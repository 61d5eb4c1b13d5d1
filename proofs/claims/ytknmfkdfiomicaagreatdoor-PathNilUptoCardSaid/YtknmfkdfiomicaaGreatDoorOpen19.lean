/- What comes in, opened: a path: where the input is of bulk at most 1048576. -/
import Derived.Test.YtknmfkdfiomicaaGreatDoorOpen20
import Derived.Test.YtknmfkdfiomicaaGreatDoorPath19
namespace Go.Proofs
open Go.RowKit Go.ChangeShapes Go.Deep
section
variable {H : Type} {enc : TypeId × Value → H} {W : World} {base : Nat} {spare : Nat → Bool} {held : Bool}
theorem cellsLeaf : Tryz.prog.cellsOf 24 = 6 := by kernel_rfl
theorem cellsSealed : Tryz.prog.cellsOf 88 = 2 := by kernel_rfl
theorem cellsSealeds : Tryz.prog.cellsOf 85 = 1 := by kernel_rfl
theorem cellsStep : Tryz.prog.cellsOf 87 = 2 := by kernel_rfl
theorem cellsSteps : Tryz.prog.cellsOf 25 = 1 := by kernel_rfl
theorem cellsPath : Tryz.prog.cellsOf 27 = 7 := by kernel_rfl
/-- a slice of structs, opened element by element -/
theorem open_structs {α : Type} {T E : TypeId} {size : Nat} {p : World → List Value → α → Prop} (hT : Tryz.prog.underlying T = some (.slice E)) (hE : Tryz.prog.cellsOf E = size) (h0 : 0 < size) {B : Nat}
    (hop : ∀ (cs : List Value) (fuel : Nat) (x : DataW H × List MemPlace), DataW.trod enc Tryz.prog W base spare held fuel E cs = some x → Go.Proofs.YtknmfkdfiomicaaGreatDoor.Rows.uptoBulk x.1 ≤ B → ∃ d, p W cs d)
    {fuel : Nat} {v : Value} {x : DataW H × List MemPlace} (h : DataW.trod enc Tryz.prog W base spare held fuel T [v] = some x) (hb : Go.Proofs.YtknmfkdfiomicaaGreatDoor.Rows.uptoBulk x.1 ≤ B) : ∃ ds : List α, Structs W size v ds p ∧ ds.length ≤ B := by
  rcases open_slice hT h with ⟨h1, rfl⟩ | ⟨a, len, cap, m, n, D, Pl, h1, hbase, hlc, hcm, hmm, rfl, hel⟩
  · injection h1 with h1
    subst h1
    exact ⟨[], ⟨none, 0, rfl, Nat.le_refl _, fun h => absurd h (by simp)⟩, by simp⟩
  · injection h1 with h1
    subst h1
    have hlm : len ≤ m := by rw [hmm]; split <;> omega
    have hbk := bulk_slice ((List.range len).map D) ((List.range (m - len)).map fun j => D (len + j))
    have hbl := bulk_length ((List.range len).map D)
    simp only [List.length_map, List.length_range] at hbl
    simp only at hb
    have hel' : ∀ i, i < len → ∃ (cs : List Value) (d : α), p W cs d ∧ cs.length = size ∧ ∀ j u, cs[j]? = some u → W.cell? (a.add (i * size + j)) = some u := by
      intro i hi
      obtain ⟨cs, h1, h2⟩ := hel i (by omega)
      rw [hE] at h1
      obtain ⟨_, hlen, hcells⟩ := World.cells?_some h1
      obtain ⟨d, hd⟩ := hop cs _ _ h2 (by
        have := bulk_part (d := D i) (l := (List.range len).map D) (List.mem_map.2 ⟨i, List.mem_range.2 hi, rfl⟩)
        simp only; omega)
      refine ⟨cs, d, hd, hlen, fun j u hu => ?_⟩
      have hj := (List.getElem?_eq_some_iff.1 hu).1
      rw [← Addr.add_add, hcells j (by omega)]
      exact hu
    have hex : ∀ n, n ≤ len → ∃ ds : List α, ds.length = n ∧ ∀ i d, ds[i]? = some d → ∃ cs : List Value, p W cs d ∧ cs.length = size ∧ ∀ j u, cs[j]? = some u → W.cell? (a.add (i * size + j)) = some u := by
      intro n
      induction n with
      | zero => exact fun _ => ⟨[], rfl, fun i d h => by simp at h⟩
      | succ n ih =>
        intro hn
        obtain ⟨ds, hl, hds⟩ := ih (by omega)
        obtain ⟨cs, d, h1, h2, h3⟩ := hel' n (by omega)
        refine ⟨ds ++ [d], by simp [hl], fun i d' hi => ?_⟩
        rcases Nat.lt_or_ge i n with hlt | hge
        · rw [List.getElem?_append_left (by omega)] at hi
          exact hds i d' hi
        · rw [List.getElem?_append_right (by omega)] at hi
          have hi' : i = n := by
            have := (List.getElem?_eq_some_iff.1 hi).1
            simp at this; omega
          subst hi'
          simp [hl] at hi
          subst hi
          exact ⟨cs, h1, h2, h3⟩
    obtain ⟨ds, hl, hds⟩ := hex len (Nat.le_refl _)
    refine ⟨ds, ⟨some a, cap, by rw [hl], by rw [hl]; exact hlc, fun h0' => ?_⟩, by omega⟩
    obtain ⟨cs, h1, h2, h3⟩ := hds 0 _ (List.getElem?_eq_getElem h0')
    have hc := h3 0 _ (List.getElem?_eq_getElem (by omega))
    have ha : a.add (0 * size + 0) = a := by unfold Addr.add; split <;> simp_all
    rw [ha] at hc
    obtain ⟨b, off, sp⟩ := a
    have hsp : sp = none := by
      unfold World.cell? at hc
      split at hc
      · split at hc
        · cases hc
        · rename_i hs; simpa using hs
      · cases hc
    subst hsp
    refine ⟨b, off, rfl, World.block_lt_of_cell? W _ hc, fun i d hi => ?_⟩
    obtain ⟨cs, h1, h2, h3⟩ := hds i d hi
    exact ⟨cs, h2, h1, fun j u hu => by
      have := h3 j u hu
      rw [add_plain', ← Nat.add_assoc] at this
      exact this⟩
theorem open_sealed {B : Nat} (hB : B ≤ lim) (cs : List Value) (fuel : Nat) (x : DataW H × List MemPlace) (h : DataW.trod enc Tryz.prog W base spare held fuel 88 cs = some x) (hb : Go.Proofs.YtknmfkdfiomicaaGreatDoor.Rows.uptoBulk x.1 ≤ B) : ∃ d, SealedC W cs d := by
  obtain ⟨xs, n, _, rfl, hl, hlen, hf⟩ := DataW.trod_struct Tryz.underlying88 h
  rw [cellsSealed] at hl
  have hk := bulk_agg hb
  have hlen' : xs.length = 2 := hlen
  clear h hb hlen
  obtain ⟨a, b, rfl⟩ := len2 hl
  obtain ⟨y0, y1, rfl⟩ := len2 hlen'
  · skip
    have h0 := hf 0 _ rfl; have h1 := hf 1 _ rfl
    simp [cellsB] at h0 h1
    obtain ⟨l0, b0⟩ := open_bytes h0 hB (hk _ (by simp)); obtain ⟨l1, b1⟩ := open_bytes h1 hB (hk _ (by simp))
    exact ⟨⟨l0, l1⟩, a, b, rfl, b0, b1⟩
theorem open_step {B : Nat} (hB : B ≤ lim) (hB4 : B * 48 ≤ lim) (cs : List Value) (fuel : Nat) (x : DataW H × List MemPlace) (h : DataW.trod enc Tryz.prog W base spare held fuel 87 cs = some x) (hb : Go.Proofs.YtknmfkdfiomicaaGreatDoor.Rows.uptoBulk x.1 ≤ B) : ∃ d, StepC W cs d := by
  obtain ⟨xs, n, _, rfl, hl, hlen, hf⟩ := DataW.trod_struct Tryz.underlying87 h
  rw [cellsStep] at hl
  have hk := bulk_agg hb
  have hlen' : xs.length = 2 := hlen
  clear h hb hlen
  obtain ⟨a, b, rfl⟩ := len2 hl
  obtain ⟨y0, y1, rfl⟩ := len2 hlen'
  · skip
    have h0 := hf 0 _ rfl; have h1 := hf 1 _ rfl
    simp [cellsB, cellsSealeds] at h0 h1
    obtain ⟨l0, b0⟩ := open_bytes h0 hB (hk _ (by simp))
    obtain ⟨ds, hS, hn⟩ := open_structs (p := SealedC) Tryz.underlying85 cellsSealed (by omega) (open_sealed hB) h1 (hk _ (by simp))
    exact ⟨⟨l0, ds⟩, a, b, rfl, b0, hS, Nat.le_trans (Nat.mul_le_mul_right 48 hn) hB4⟩
theorem open_path {B : Nat} (hB : B ≤ lim) (hB4 : B * 48 ≤ lim) {cs : List Value} {fuel : Nat} {x : DataW H × List MemPlace} (h : DataW.trod enc Tryz.prog W base spare held fuel 27 cs = some x) (hb : Go.Proofs.YtknmfkdfiomicaaGreatDoor.Rows.uptoBulk x.1 ≤ B) : ∃ d, PathC W cs d := by
  obtain ⟨xs, n, _, rfl, hl, hlen, hf⟩ := DataW.trod_struct Tryz.underlying27 h
  rw [cellsPath] at hl
  have hk := bulk_agg hb
  have hlen' : xs.length = 2 := hlen
  clear h hb hlen
  obtain ⟨q0, q1, q2, q3, q4, q5, b, rfl⟩ := len7 hl
  obtain ⟨y0, y1, rfl⟩ := len2 hlen'
  · skip
    have h0 := hf 0 _ rfl; have h1 := hf 1 _ rfl
    simp [cellsLeaf, cellsSteps] at h0 h1
    obtain ⟨d, hd⟩ := open_leaf h0 hB (hk _ (by simp))
    obtain ⟨ds, hS, hn⟩ := open_structs (p := StepC) Tryz.underlying25 cellsStep (by omega) (open_step hB hB4) h1 (hk _ (by simp))
    exact ⟨⟨d, ds⟩, [q0, q1, q2, q3, q4, q5], b, rfl, hd, hS, Nat.le_trans (Nat.mul_le_mul_right 48 hn) hB4⟩
end
end Go.Proofs
