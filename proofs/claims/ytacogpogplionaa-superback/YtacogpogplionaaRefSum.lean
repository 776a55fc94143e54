/- The document's check sum (commonsref1.Sum). No condition. -/
import Derived.Test.YtacogpogplionaaCrc
import Derived.Test.YtacogpogplionaaChecked
import Derived.WalkSpells
import Derived.WalkLawsBesides
import Derived.Handy
import Derived.Lib.Hide
namespace Go.Proofs.Ytacogpogplionaa.SM
set_option maxRecDepth 100000
open Go.RowKit
set_option linter.unusedVariables false

end Go.Proofs.Ytacogpogplionaa.SM
