/- path.Secrets of no step: the first secret alone. -/
import Derived.Test.YtknmfkdfiomicaaGreatDoorClone
namespace Go.Proofs
open Go.RowKit
set_option maxRecDepth 8000 in
set_option maxHeartbeats 800000 in
theorem secrets0 (a : Addr) (c : Nat) (l : List UInt8) (w : World) (h : Bytes w (.slice (some a) 32 c) l) (hl : l.length = 32) :
    Calls Tryz.prog 17 #[.slice (some a) 32 c, .int .i64 0] w (Some_ w fun v w' => ∃ g A n, v = .tuple #[.slice (some ⟨g, 0, none⟩) 1 1, .int .i64 0] ∧ isRow w' g 22 #[.slice A 32 n] ∧ Bytes w' (.slice A 32 n) l) := by
  have H := Lib.hid h; have HL := Lib.hid hl; have HM := Lib.hid (show l.length ≤ lim by rw [hl]; exact Nat.le_of_ble_eq_true rfl)
  clear h hl
  go_enter Tryz.func17, Tryz.ntmps17
  go_wp2_with (go_at_call 52; refine (clone_some _ _ _ l _ H.out HM.out).mono ?_; rintro e w1 ⟨_, rfl, ⟨A1, c1, rfl, hb⟩, hw⟩
               rw [HL.out] at hb ⊢
               have HB := Lib.hid hb; have HW := Lib.hid hw; clear hb hw)
  go_rounds 1
  go_ret2
  exact ⟨_, rfl, ⟨_, _, _, rfl, isRow.new _ _ _, HB.out.below ((Below.refl _ _).alloc (Nat.le_refl _) _)⟩, HW.out.alloc HW.out.size _⟩
end Go.Proofs
