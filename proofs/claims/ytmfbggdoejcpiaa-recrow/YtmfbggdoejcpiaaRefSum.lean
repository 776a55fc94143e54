/- The document's check sum (commonsref1.Sum). No condition. -/
import Derived.Test.YtmfbggdoejcpiaaCrc
import Derived.Test.YtmfbggdoejcpiaaChecked
import Derived.WalkSpells
import Derived.WalkLawsBesides
import Derived.Handy
import Derived.Lib.Hide
namespace Go.Proofs.Ytmfbggdoejcpiaa.SM
open Go.RowKit
set_option linter.unusedVariables false

end Go.Proofs.Ytmfbggdoejcpiaa.SM
