/-
  The functions without a Go body that the evaluator knows.
-/
import Derived.Test.YthecahanniaggaaAvOpA
import Derived.KernelRfl
namespace Go.AV

theorem next1 : Extern.allNextRows.lookup "internal/abi.NoEscape" = none := by kernel_rfl
theorem next2 : Extern.allNextRows.lookup "internal/bytealg.MakeNoZero" = none := by kernel_rfl
theorem next3 : Extern.allNextRows.lookup "internal/bytealg.IndexByteString" = none := by kernel_rfl
theorem next4 : Extern.allNextRows.lookup "internal/bytealg.CountString" = none := by kernel_rfl
theorem next0 : Extern.allNextRows.lookup "" = none := by kernel_rfl
theorem gen1 : Extern.allGenericRows.lookup "internal/abi.NoEscape" = none := by kernel_rfl
theorem gen2 : Extern.allGenericRows.lookup "internal/bytealg.MakeNoZero" = none := by kernel_rfl
theorem gen3 : Extern.allGenericRows.lookup "internal/bytealg.IndexByteString" = none := by kernel_rfl
theorem gen4 : Extern.allGenericRows.lookup "internal/bytealg.CountString" = none := by kernel_rfl
theorem typ1 : Extern.allTypedRows.lookup "internal/abi.NoEscape" = none := by kernel_rfl
theorem typ2 : Extern.allTypedRows.lookup "internal/bytealg.MakeNoZero" = some Extern.BytealgMakeNoZero.makeNoZero := by kernel_rfl
theorem typ3 : Extern.allTypedRows.lookup "internal/bytealg.IndexByteString" = none := by kernel_rfl
theorem typ4 : Extern.allTypedRows.lookup "internal/bytealg.CountString" = none := by kernel_rfl
theorem row1 : Extern.allRows.lookup "internal/abi.NoEscape" = some Extern.AbiNoEscape.same := by kernel_rfl
theorem row3 : Extern.allRows.lookup "internal/bytealg.IndexByteString" = some Extern.BytealgIndexByte.indexByte := by kernel_rfl
theorem row4 : Extern.allRows.lookup "internal/bytealg.CountString" = some Extern.BytealgCount.count := by kernel_rfl

end Go.AV
