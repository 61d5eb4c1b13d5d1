/- List: of the document's proposals the program's, each in new memory. -/
import Derived.Test.YtknmfkdfiomicaaGreatDoorConv2
namespace Go.Proofs
open Go.RowKit
structure ListedD where
  who : Int
  prop : PropD
def ListedC (w : World) (cs : List Value) (d : ListedD) : Prop := ∃ ps, cs = .int .i64 d.who :: ps ∧ PropC w ps d.prop
theorem ListedC.below {w w' : World} {cs : List Value} {d : ListedD} (h : ListedC w cs d) (hb : Below w.heap.size w w') : ListedC w' cs d := by
  obtain ⟨ps, h0, h1⟩ := h
  exact ⟨ps, h0, h1.below hb⟩
theorem LeafC.length {w : World} {cs : List Value} {d : LeafD} (h : LeafC w cs d) : cs.length = 6 := by
  obtain ⟨a, b, c, e, f, rfl, _⟩ := h; rfl
theorem PackC.length {w : World} {cs : List Value} {d : PackD} (h : PackC w cs d) : cs.length = 8 := by
  obtain ⟨a, ls, b, rfl, _, h2, _⟩ := h; simp [h2.length]
theorem PropC.length {w : World} {cs : List Value} {d : PropD} (h : PropC w cs d) : cs.length = 19 := by
  obtain ⟨ps, ls, a, b, c, rfl, h1, h2, _⟩ := h; simp [h1.length, h2.length]
theorem ListedC.length {w : World} {cs : List Value} {d : ListedD} (h : ListedC w cs d) : cs.length = 20 := by
  obtain ⟨ps, rfl, h⟩ := h; simp [h.length]
/-- a slice of structs, element by element -/
def Structs {α : Type} (w : World) (size : Nat) (v : Value) (ds : List α) (p : World → List Value → α → Prop) : Prop :=
  ∃ A c, v = .slice A ds.length c ∧ ds.length ≤ c ∧ (0 < ds.length → ∃ b off, A = some ⟨b, off, none⟩ ∧ b < w.heap.size ∧
    ∀ i d, ds[i]? = some d → ∃ cs : List Value, cs.length = size ∧ p w cs d ∧ ∀ j u, cs[j]? = some u → w.cell? ⟨b, off + i * size + j, none⟩ = some u)
theorem Structs.below {α : Type} {w w' : World} {size : Nat} {v : Value} {ds : List α} {p : World → List Value → α → Prop} (h : Structs w size v ds p) (hb : Below w.heap.size w w')
    (hp : ∀ cs d, p w cs d → p w' cs d) : Structs w' size v ds p := by
  obtain ⟨A, c, hv, hc, hA⟩ := h
  refine ⟨A, c, hv, hc, fun h0 => ?_⟩
  obtain ⟨b, off, ha, hlt, hel⟩ := hA h0
  refine ⟨b, off, ha, Nat.lt_of_lt_of_le hlt hb.size, fun i d hd => ?_⟩
  obtain ⟨cs, h1, h2, h3⟩ := hel i d hd
  exact ⟨cs, h1, hp cs d h2, fun j u hu => (hb.cell (p := ⟨b, off + i * size + j, none⟩) hlt).trans (h3 j u hu)⟩
theorem LeafC.ones {w : World} {cs : List Value} {d : LeafD} (h : LeafC w cs d) : ∀ u ∈ cs, u.oneCell' = true := by
  obtain ⟨a, b, c, e, f, rfl, h1, h2, h3, h4, h5⟩ := h
  intro u hu
  simp only [List.mem_cons, List.not_mem_nil, or_false] at hu
  rcases hu with rfl | rfl | rfl | rfl | rfl | rfl
  · exact h1.one
  · exact h2.one
  · exact h3.one
  · rfl
  · exact h4.one
  · exact h5.one
theorem PackC.ones {w : World} {cs : List Value} {d : PackD} (h : PackC w cs d) : ∀ u ∈ cs, u.oneCell' = true := by
  obtain ⟨a, ls, b, rfl, h1, h2, h3⟩ := h
  have := h2.ones
  intro u hu
  simp only [List.mem_cons, List.mem_append, List.not_mem_nil, or_false] at hu
  rcases hu with rfl | hu | rfl
  · exact h1.one
  · exact this u hu
  · exact h3.one
theorem PropC.ones {w : World} {cs : List Value} {d : PropD} (h : PropC w cs d) : ∀ u ∈ cs, u.oneCell' = true := by
  obtain ⟨ps, ls, a, b, c, rfl, h1, h2, h3, h4, h5⟩ := h
  have g1 := h1.ones
  have g2 := h2.ones
  intro u hu
  simp only [List.mem_cons, List.mem_append, List.not_mem_nil, or_false] at hu
  rcases hu with rfl | hu | hu | rfl | rfl | rfl | rfl
  · rfl
  · exact g1 u hu
  · exact g2 u hu
  · rfl
  · exact h3.one
  · exact h4.one
  · exact h5.one
theorem later_at {row : Option Nat} {w : World} {b o : Nat} {cs : List Value} (h : ∀ j u, cs[j]? = some u → w.cell? ⟨b, o + j, none⟩ = some u) (hr : some b ≠ row) (j : Nat) (u : Value) (hj : cs[j]? = some u) :
    ∀ x, (later row w x).cell? ⟨b, o + j, none⟩ = some u := later_cell (p := ⟨b, o + j, none⟩) (h j u hj) hr
end Go.Proofs
