/- 'guard.After' and the document's AfterOf answer alike, 'guard.Target' and TargetOf too; so the laws over them are true. Conditions: none. -/
import Derived.Test.YtapbdfcihheecaaBase
import Derived.Handy
namespace Go.Proofs.Ytapbdfcihheecaa
open Go.ChangeShapes Go.WideShapes Go.ChangeAt Go.RowKit

def afterF (op : Int) : Int := if op == 24 || op == 28 || op == 31 || op == 33 then 25 else if op == 36 || op == 39 then 40 else 0
end Go.Proofs.Ytapbdfcihheecaa
