/-
  A part of the proof: lemmas of my own.
-/
import Derived.Test.YtpfkdbhflciifaaGreatDoorXDat
import Derived.Test.YtpfkdbhflciifaaGreatDoorProg
import Derived.KernelRfl
import Derived.Test.YtpfkdbhflciifaaGreatDoorAvE
import Derived.Test.YtpfkdbhflciifaaGreatDoorXRc
import Derived.Test.YtpfkdbhflciifaaGreatDoorXRe
import Derived.Test.YtpfkdbhflciifaaGreatDoorXRg
set_option linter.unusedVariables false
set_option linter.unusedSimpArgs false
namespace Go.Proofs
open Go Go.AV
set_option maxRecDepth 100000
theorem X48hD7 : DrawOK Tryz.prog := drawOK (by kernel_rfl)
-- transit/footpath.closure, 2217 operations
theorem e49_ok : EntOK Tryz.prog e49 := ent_ok X48hD7 (es := []) (.nil) 30000 (by kernel_rfl)
-- transit/transitlaw48.exampleHolds, 1844 operations
theorem e50_ok : EntOK Tryz.prog e50 := ent_ok X48hD7 (es := [e16, e31, e48, e49]) (.cons e16_ok (.cons e31_ok (.cons e48_ok (.cons e49_ok (.nil))))) 30000 (by kernel_rfl)
end Go.Proofs
