/- The row of ParseLong: what the program forces of its closed cells. -/
import Derived.Test.YtkfpjhjmedodlaaGreatDoorRows
import Derived.JoinedCond
import Derived.KernelRfl
/- reckonerlaw24.ParseLong: the row's closed facts. -/
set_option maxRecDepth 100000
namespace Go.Proofs.YtkfpjhjmedodlaaGreatDoor.parseLong
open Go
theorem bt {a b : Bool} (h1 : a = true) (h2 : b = true) : (a && b) = true := by rw [h1, h2]; rfl
theorem k1 : (Rows.parseLongRow.inPlace == Tryz.pinned.checked.prog.inPlace 5) = true := by kernel_rfl
theorem k2 : (Rows.parseLongRow.unfollowed == Tryz.pinned.checked.prog.unfollowed 5) = true := by kernel_rfl
theorem k3 : (Rows.parseLongRow.recurses == Tryz.pinned.checked.prog.recurses 5) = true := by kernel_rfl
theorem k4 : (Rows.parseLongRow.named == Tryz.pinned.checked.prog.varsNamed 5) = true := by kernel_rfl
theorem k5 : Rows.parseLongRow.wf (OpenSpec.ofChange (OpenSpec.ofChange Rows.parseLongSpec).bare) = true := by kernel_rfl
theorem k6 : laidOutB Tryz.pinned.checked.prog = true := by kernel_rfl
theorem k7 : mapsRowed Tryz.pinned.checked.prog = true := by kernel_rfl
theorem k8 : (Rows.parseLongRow.lifted == Tryz.pinned.checked.prog.liftsFinal) = true := by kernel_rfl
/-- The row's closed facts: what the program forces. -/
theorem closed : joinedFacts Tryz.pinned.checked.prog 5 Tryz.f5 (OpenSpec.ofChange Rows.parseLongSpec).bare Rows.parseLongRow = true := by
  unfold joinedFacts
  iterate 31 refine bt ?_ ?_
  all_goals with_reducible first | exact k1 | exact k2 | exact k3 | exact k4 | exact k5 | exact k6 | exact k7 | exact k8 | skip
  all_goals kernel_rfl
/-- The function by its name. -/
theorem named : Tryz.pinned.checked.prog.funcNamed Rows.parseLongRow.func = some 5 := by kernel_rfl
theorem inst : (Tryz.f5).isInstance Tryz.pinned.checked.prog Rows.parseLongRow.origin Rows.parseLongRow.targs := of_decide_eq_true (by kernel_rfl)
theorem wrap : (Tryz.f5).isWrapper Tryz.pinned.checked.prog Rows.parseLongRow.wrapper Rows.parseLongRow.mainSum := by
  unfold Func.isWrapper
  first | (rw [if_pos (by decide +kernel)]; kernel_rfl) | (rw [if_neg (by decide +kernel)]; exact ⟨rfl, rfl⟩)
end Go.Proofs.YtkfpjhjmedodlaaGreatDoor.parseLong
