/- Facts of the program's tables, each read off by the kernel. -/
import Derived.Attr
import Derived.KernelRfl
import Derived.Test.YteencmkompkkjaaGreatDoorProg
import Derived.Test.YteencmkompkkjaaGreatDoorClG
set_option linter.all false
namespace Go.Cl.Jo
open Go Go.Cl

end Go.Cl.Jo
