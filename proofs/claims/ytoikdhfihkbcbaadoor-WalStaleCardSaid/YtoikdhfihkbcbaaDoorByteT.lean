/- The types []byte and byte. -/
import Derived.Test.YtoikdhfihkbcbaaDoorProg
import Derived.Test.YtoikdhfihkbcbaaDoorPlain
namespace Go.Proofs.YtoikdhfihkbcbaaDoor
open Go.RowKit
set_option linter.unusedVariables false

theorem byteT : ByteT Tryd.prog 33 5 := ⟨Tryd.underlying33, Tryd.t5, by kernel_rfl, by kernel_rfl, by kernel_rfl, by kernel_rfl⟩
end Go.Proofs.YtoikdhfihkbcbaaDoor
