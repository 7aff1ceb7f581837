/- The types []byte and byte. -/
import Derived.Test.YtccfiohcblecoaaDoorProg
import Derived.Test.YtccfiohcblecoaaDoorPlain
namespace Go.Proofs.YtccfiohcblecoaaDoor
open Go.RowKit
set_option linter.unusedVariables false

theorem byteT : ByteT Tryd.prog 46 5 := ⟨Tryd.underlying46, Tryd.t5, by kernel_rfl, by kernel_rfl, by kernel_rfl, by kernel_rfl⟩
end Go.Proofs.YtccfiohcblecoaaDoor
