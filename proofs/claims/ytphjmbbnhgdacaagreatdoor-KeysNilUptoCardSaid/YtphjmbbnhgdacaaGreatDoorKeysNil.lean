/- KeysNil: what the law's function answers, whatever the list. -/
import Derived.Test.YtphjmbbnhgdacaaGreatDoorKnows
import Derived.Test.YtphjmbbnhgdacaaGreatDoorTree0
import Derived.Test.YtphjmbbnhgdacaaGreatDoorList20
namespace Go.Proofs
open Go.RowKit
set_option maxHeartbeats 800000 in
theorem keysNil_calls (v : Value) (ds : List ListedD) (i : Int) (w : World) (h : Structs w 20 v ds ListedC) (hn : ds.length * 400 ≤ lim) :
    Calls Tryz.prog 3 #[.int .i64 i, v] w fun e w' => e = .returned (.bool true) ∧ Below w.heap.size w w' := by
  have hv := h
  obtain ⟨A, c, rfl, -⟩ := hv
  have HS := Lib.hid h; have HN := Lib.hid hn; have HB := Lib.hid (Below.refl w.heap.size w); have HT := Lib.hid (show NoTree w none from .inl rfl)
  clear h hn
  go_enter Tryz.func3, Tryz.ntmps3
  go_wp2
  refine wp_loop_rounds 3 ?_
  iterate 2 (rw [rounds_succ]; go_wp2_with (first
    | (go_at_call 5; refine (list20 _ ds _ HS.out HN.out).mono ?_; rintro e w1 ⟨_, rfl, ⟨A1, c1, rfl, -⟩, hb⟩
       have HS := Lib.hid (HS.out.below hb (fun cs d h => h.below hb)); have HT := Lib.hid (HT.out.below hb); have HB := Lib.hid (HB.out.trans (hb.mono HB.out.size)); clear hb)
    | (go_at_call 4; refine (apply_none _ _ _ HT.out).mono ?_; rintro e w1 ⟨rfl, rfl⟩)
    | (go_at_call 6; refine (num20 _ _).mono ?_; rintro e w1 ⟨rfl, rfl⟩)
    | (go_at_call 7; refine (checkList_none _ _ _ _ HT.out).mono ?_; rintro e w1 ⟨rfl, hb⟩
       have HS := Lib.hid (HS.out.below hb (fun cs d h => h.below hb)); have HT := Lib.hid (HT.out.below hb); have HB := Lib.hid (HB.out.trans (hb.mono HB.out.size)); clear hb)
    | (refine wpList_box 34 (.tmp 37) #[.int .i64 0, .map none] rfl rfl rfl ?_; intro W r g s
       have HS := Lib.hid (HS.out.below (toB g) (fun cs d h => h.below (toB g))); have HT := Lib.hid (show NoTree W _ from .inr ⟨_, rfl, r⟩); have HB := Lib.hid (HB.out.trans ((toB g).mono HB.out.size)); clear r g s)))
  rw [rounds_succ]
  go_wp2_with (go_at_call 8; refine (knows20 _).mono ?_; rintro e w1 ⟨rfl, hb⟩; have HB := Lib.hid (HB.out.trans (hb.mono HB.out.size)); clear hb)
  go_ret
  exact ⟨rfl, HB.out⟩
end Go.Proofs
