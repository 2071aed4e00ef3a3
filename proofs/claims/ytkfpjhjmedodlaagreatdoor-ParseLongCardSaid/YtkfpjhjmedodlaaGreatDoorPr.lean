/- ParseLong: a text that is too long gives the error of sizes, whatever else is wrong: the card, for every input and with no condition but those of the card. -/
import Derived.Test.YtkfpjhjmedodlaaGreatDoorPp
import Derived.Test.YtkfpjhjmedodlaaGreatDoorPq
import Derived.Test.YtkfpjhjmedodlaaGreatDoorPn
/- reckonerlaw24.ParseLong: the row and its card. -/
set_option maxRecDepth 100000
namespace Go.Proofs.YtkfpjhjmedodlaaGreatDoor.parseLong
open Go.ChangeShapes Go.WideShapes Go.ChangeAt Go.RowKit
theorem said (hP : ∀ w, Glob w → Wd.More w → Calls Tryz.prog 15 #[Wd.f511, .int .i64 0, .string ⟨#[48, 46, 49]⟩] w (PFloPost0 w)) : Rows.ParseLongSaid :=
  OpenClaim.holds_of_cond 5 Tryz.f5 rfl rfl rfl rfl rfl rfl rfl ⟨rfl, rfl, rfl, rfl, rfl⟩ rfl rfl rfl rfl rfl named Tryz.func5 closed
    inst wrap
    (fun os started H enc _ F => by rw [OpenClaim.pre_eq_preRow]; exact lifted hP os started H enc F)
/-- No parameter wants a stand-in; the program's own looks are off: what the card asks. -/
theorem plain (f : FuncId) (fn : Func) (hf : Tryz.pinned.checked.prog.funcNamed "reckoner/reckonerlaw24.ParseLong" = some f) (hfn : Tryz.pinned.checked.prog.funcs[f]? = some fn) :
    false = Tryz.pinned.checked.prog.looks [] ∧ ∀ (j : Nat) t, fn.params[j]? = some t → Tryz.pinned.checked.prog.wantsStandIn t = false := by
  obtain rfl : f = 5 := Option.some.inj ((show Tryz.prog.funcNamed "reckoner/reckonerlaw24.ParseLong" = some 5 by kernel_rfl).symm.trans hf) |>.symm
  obtain rfl : fn = Tryz.f5 := (Option.some.inj (Tryz.func5.symm.trans hfn)).symm
  refine ⟨by kernel_rfl, fun j t ht => ?_⟩
  rw [Tryz.params5] at ht
  have hm : t = 42 ∨ t = 43 ∨ t = 56 ∨ t = 5 := by simpa using Array.mem_of_getElem? ht
  rcases hm with rfl | rfl | rfl | rfl
  · exact (show Tryz.prog.wantsStandIn 42 = false by kernel_rfl)
  · exact (show Tryz.prog.wantsStandIn 43 = false by kernel_rfl)
  · exact (show Tryz.prog.wantsStandIn 56 = false by kernel_rfl)
  · exact (show Tryz.prog.wantsStandIn 5 = false by kernel_rfl)
theorem card (hP : ∀ w, Glob w → Wd.More w → Calls Tryz.prog 15 #[Wd.f511, .int .i64 0, .string ⟨#[48, 46, 49]⟩] w (PFloPost0 w)) : Rows.ParseLongCardSaid :=
  Claim7.holds_tied_plain_at .later [] _ _ _ _ (said hP) (fun _ h => by cases h) (by kernel_rfl) (fun _ h => by cases h) parseLong_row_tie rfl ⟨rfl, rfl⟩ (by kernel_rfl) rfl plain (by kernel_rfl)
end Go.Proofs.YtkfpjhjmedodlaaGreatDoor.parseLong

/- reckonerlaw24.ParseLong: the card. -/
namespace Go.Proofs.YtkfpjhjmedodlaaGreatDoor.parseLong
/-- ████ THE CARD ████ -/
theorem parseLong_card : Rows.ParseLongCardSaid := card pfloat_a
end Go.Proofs.YtkfpjhjmedodlaaGreatDoor.parseLong
