/- An empty reader, and one that is at fault. -/
import Derived.Test.YtknmfkdfiomicaaGreatDoorStep
import Derived.Test.YtknmfkdfiomicaaGreatDoorCodec
namespace Go.Proofs
open Go.RowKit
theorem grownBy_set (w : World) (b i : Nat) (v : Value) : w.grownBy (w.setCell ⟨b, i, none⟩ v) (some b) :=
  ⟨by unfold World.setCell; split <;> rfl, by unfold World.setCell; split <;> rfl, by unfold World.setCell; split <;> rfl, by simp, fun j _ hj => Below.heap_setCell w _ v j (fun e => hj (by simp [e]))⟩
theorem Tryz.eqNil : ∀ w : World, (binOp .eql 22 (.slice none 0 0) (.slice none 0 0)).run Tryz.prog w = .ok (.bool true) w := fun _ => by kernel_rfl
theorem clone_nil (w : World) : Calls Tryz.prog 52 #[.slice none 0 0] w fun e w' => e = .returned (.slice none 0 0) ∧ w = w' := by
  have hm := Tryz.eqNil
  go_enter Tryz.func52, Tryz.ntmps52; go_wp2; go_ret; exact ⟨rfl, rfl⟩
/-- a reader: what is left of the bytes, and the first fault -/
abbrev Reader (w : World) (b : Nat) (s : Value) (e : Int) : Prop := isRow w b 207 #[s, .int .i64 e, .bool true]
theorem new_nil (w : World) : Calls Tryz.prog 85 #[.slice none 0 0] w (Some_ w fun v w' => ∃ b, v = .pointer (some ⟨b, 0, none⟩) ∧ w.heap.size ≤ b ∧ Reader w' b (.slice none 0 0) 0) := by
  go_enter Tryz.func85, Tryz.ntmps85
  go_wp2_with (go_at_call 52; refine (clone_nil _).mono ?_; rintro e w' ⟨rfl, rfl⟩)
  go_ret
  exact ⟨_, rfl, ⟨_, rfl, Nat.le_refl _, isRow.new _ _ _⟩, (Below.refl _ _).alloc (Nat.le_refl _) _⟩
theorem reader_err (w : World) (b : Nat) (s : Value) (e : Int) (h : Reader w b s e) : Calls Tryz.prog 131 #[.pointer (some ⟨b, 0, none⟩)] w fun en w' => en = .returned (.int .i64 e) ∧ w = w' := by
  have h1 : w.cell? ⟨b, 1, none⟩ = some (.int .i64 e) := by rw [h.cell]; rfl
  have h2 : w.cell? ⟨b, 2, none⟩ = some (.bool true) := by rw [h.cell]; rfl
  clear h
  go_enter Tryz.func131, Tryz.ntmps131; go_wp2; go_ret; exact ⟨rfl, rfl⟩
theorem vector_err (w : World) (b : Nat) (s : Value) (e : Int) (h : Reader w b s e) (he : e ≠ 0) : Calls Tryz.prog 86 #[.pointer (some ⟨b, 0, none⟩)] w fun en w' => en = .returned (.slice none 0 0) ∧ w = w' := by
  have H := Lib.hid h
  have he' : (e == 0) = false := by simpa using he
  clear h he
  go_enter Tryz.func86, Tryz.ntmps86
  go_wp2_with (go_at_call 131; refine (reader_err _ _ _ _ H.out).mono ?_; rintro e w' ⟨rfl, rfl⟩)
  go_ret; exact ⟨rfl, rfl⟩
theorem jump_ret {l : Nat} {J : Act → World → Prop} {Q : Exit → Act → World → Prop} {a : Act} {w : World} : Exit.jump l J Q .ret a w = Q .ret a w := rfl
theorem number_err (w : World) (b : Nat) (s : Value) (e n : Int) (h : Reader w b s e) (he : e ≠ 0) : Calls Tryz.prog 161 #[.pointer (some ⟨b, 0, none⟩), .int .i64 n] w fun en w' => en = .returned (.int .i64 0) ∧ w = w' := by
  have H := Lib.hid h
  have he' : (e == 0) = false := by simpa using he
  clear h he
  go_enter Tryz.func161, Tryz.ntmps161
  go_wp2
  refine wp_scope_fwd 0 rfl ?_
  go_wp2_with (go_at_call 131; refine (reader_err _ _ _ _ H.out).mono ?_; rintro e w' ⟨rfl, rfl⟩)
  rw [jump_ret]
  go_ret; exact ⟨rfl, rfl⟩
theorem take_err (w : World) (b : Nat) (s : Value) (e n : Int) (h : Reader w b s e) (he : e ≠ 0) : Calls Tryz.prog 133 #[.pointer (some ⟨b, 0, none⟩), .int .i64 n] w fun en w' => en = .returned (.slice none 0 0) ∧ w = w' := by
  have H := Lib.hid h
  have he' : (e == 0) = false := by simpa using he
  clear h he
  go_enter Tryz.func133, Tryz.ntmps133
  go_wp2_with (go_at_call 131; refine (reader_err _ _ _ _ H.out).mono ?_; rintro e w' ⟨rfl, rfl⟩)
  go_ret; exact ⟨rfl, rfl⟩
theorem end_err (w : World) (b : Nat) (s : Value) (e : Int) (h : Reader w b s e) (he : e ≠ 0) : Calls Tryz.prog 160 #[.pointer (some ⟨b, 0, none⟩)] w fun en w' => en = .returned (.int .i64 e) ∧ w = w' := by
  have H := Lib.hid h
  have he' : (e == 0) = false := by simpa using he
  clear h he
  go_enter Tryz.func160, Tryz.ntmps160
  go_wp2_with (go_at_call 131; refine (reader_err _ _ _ _ H.out).mono ?_; rintro e w' ⟨rfl, rfl⟩)
  go_ret; exact ⟨rfl, rfl⟩
theorem length_nil (w : World) (b : Nat) (h : Reader w b (.slice none 0 0) 0) : Calls Tryz.prog 132 #[.pointer (some ⟨b, 0, none⟩)] w fun en w' => en = .returned (.int .i64 0) ∧ Reader w' b (.slice none 0 0) 20 ∧ w.grownBy w' (some b) := by
  have h0 : w.cell? ⟨b, 0, none⟩ = some (.slice none 0 0) := by rw [h.cell]; rfl
  have h1 : w.cell? ⟨b, 1, none⟩ = some (.int .i64 0) := by rw [h.cell]; rfl
  have f1 : w.frozen? ⟨b, 1, none⟩ = false := h.free 1
  have H := Lib.hid h
  clear h
  go_enter Tryz.func132, Tryz.ntmps132
  go_wp2
  refine wp_scope_fwd 0 rfl ?_
  go_wp2_with (go_at_call 131; refine (reader_err _ _ _ _ H.out).mono ?_; rintro e w' ⟨rfl, rfl⟩)
  refine wp_goto ⟨rfl, ?_⟩
  go_wp2
  rw [Exit.noGoto_ret]
  go_ret
  exact ⟨rfl, H.out.set 1 _, grownBy_set _ _ _ _⟩
theorem vector_nil (w : World) (b : Nat) (h : Reader w b (.slice none 0 0) 0) : Calls Tryz.prog 86 #[.pointer (some ⟨b, 0, none⟩)] w fun en w' => en = .returned (.slice none 0 0) ∧ Reader w' b (.slice none 0 0) 20 ∧ w.grownBy w' (some b) := by
  have h0 : w.cell? ⟨b, 0, none⟩ = some (.slice none 0 0) := by rw [h.cell]; rfl
  have H := Lib.hid h
  clear h
  go_enter Tryz.func86, Tryz.ntmps86
  go_wp2_with (first
    | (go_at_call 131; refine (reader_err _ _ _ _ H.out).mono ?_; rintro e w' ⟨rfl, rfl⟩)
    | (go_at_call 132; refine (length_nil _ _ H.out).mono ?_; rintro e w1 ⟨rfl, hR, hg⟩
       have c1 : w1.cell? ⟨b, 1, none⟩ = some (.int .i64 20) := (by rw [hR.cell]; rfl)
       have f0 : w1.frozen? ⟨b, 0, none⟩ = false := hR.free 0
       have c0 : w1.cell? ⟨b, 0, none⟩ = some (.slice none 0 0) := (by rw [hR.cell]; rfl)
       have HR := Lib.hid hR; have HG := Lib.hid hg; clear hR hg h0)
    | (go_at_call 133; refine (take_err _ _ _ _ _ HR.out (by decide)).mono ?_; rintro e w' ⟨rfl, rfl⟩))
  go_ret
  exact ⟨rfl, HR.out.set 0 _, grownBy.trans' HG.out (grownBy_set _ _ _ _)⟩
end Go.Proofs
