/- Digests: what the listed tables give; the start that fits. -/
import Derived.Test.YthdjdlndfkemiaaGreatDoorRows
import Derived.Test.YthdjdlndfkemiaaGreatDoorSd
import Derived.ProofKit
import Derived.LaidMore
import Derived.OpenShut
import Derived.Stop.Joined
set_option linter.unusedSimpArgs false
set_option linter.unusedVariables false
set_option maxRecDepth 100000
namespace Go.Proofs.YthdjdlndfkemiaaGreatDoor
open Go.ChangeShapes Go.WideShapes Go.ChangeAt Go.WideMaps Go.WideElems Go.RowKit
namespace S

def laid5 : List (String × DataW Unit) := Rows.sealSecretsRow.laid
theorem tdb : (Tryz.prog.globals[5]?).map (·.type) = some 146 := by kernel_rfl
theorem tp10 : (Tryz.prog.globals[1]?).map (·.type) = some 133 := by kernel_rfl
set_option maxRecDepth 100000 in
theorem of_laid {W : World} (h : laidMetH Tryz.prog laid5 W) : Tabs W := by
  rw [MakeChecks.laidMetH_plain _ _ _ (by kernel_rfl)] at h
  obtain ⟨ps, ⟨g0, t0, cs0, f0, p0, q0, hg0, ht0, hv0, hd0, ⟨g1, t1, cs1, f1, p1, q1, hg1, ht1, hv1, hd1, ⟨g2, t2, cs2, f2, p2, q2, hg2, ht2, hv2, hd2, _⟩, _⟩, _⟩, _, _⟩ := h
  obtain rfl := Option.some.inj (gdb.symm.trans hg1)
  obtain rfl := Option.some.inj (gp10.symm.trans hg2)
  obtain rfl := Option.some.inj (tdb.symm.trans ht1)
  obtain rfl := Option.some.inj (tp10.symm.trans ht2)
  refine ⟨?_, ?_⟩
  · unfold Lib.TabIs
    rw [hv1, ← Lib.cells_of_tab Tryz.underlying146 Tryz.underlying5 (by kernel_rfl) (by kernel_rfl) (show DataW.trod _ Tryz.prog W _ _ _ _ _ _ = some (Lib.tabData .u8 dbTab, _) from hd1)]
  · unfold Lib.TabIs
    rw [hv2, ← Lib.cells_of_tab Tryz.underlying133 Tryz.underlying64 (by kernel_rfl) (by kernel_rfl) (show DataW.trod _ Tryz.prog W _ _ _ _ _ _ = some (Lib.tabData .u64 Lib.pow10Tab, _) from hd2)]
def datCells : DataW Unit → List Value
  | .agg l => l.map fun d => match d with | .lit (.int k n) => Value.int k n | _ => undef
  | _ => []
/-- The start that fits: the door's own heap, with the pinned table beside it. -/
noncomputable def laidWorld (os : Os) : World := (World.doorLaid Tryz.prog 4000 os).setRow 2 (datCells Go.Pinned.utf8First).toArray
theorem door_met (os : Os) (args : Array Value) : laidMetH Tryz.prog laid5 ((laidWorld os).forCall (fun _ _ => 0) ⟨#[], args, []⟩).memory :=
  laidMetH_of_parts3 (fuel := 8) (laidMet_of_run' 8 (by kernel_rfl) (by kernel_rfl)) (by kernel_rfl) (by kernel_rfl)

end S
end Go.Proofs.YthdjdlndfkemiaaGreatDoor
