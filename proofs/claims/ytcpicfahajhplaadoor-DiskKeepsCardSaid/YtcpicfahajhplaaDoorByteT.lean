/- The types []byte and byte. -/
import Derived.Test.YtcpicfahajhplaaDoorProg
import Derived.Test.YtcpicfahajhplaaDoorPlain
namespace Go.Proofs.YtcpicfahajhplaaDoor
open Go.RowKit
set_option linter.unusedVariables false

theorem byteT : ByteT Tryd.prog 27 5 := ⟨Tryd.underlying27, Tryd.t5, by kernel_rfl, by kernel_rfl, by kernel_rfl, by kernel_rfl⟩
end Go.Proofs.YtcpicfahajhplaaDoor
