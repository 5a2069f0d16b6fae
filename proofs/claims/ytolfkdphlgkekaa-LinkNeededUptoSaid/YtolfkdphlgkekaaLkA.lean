/- LkA: the program of the linker. -/
import Derived.Test.YtolfkdphlgkekaaProg
import Derived.KernelRfl
import Derived.Test.YtolfkdphlgkekaaPmQ
namespace Go.Pm
/-- Functions that write into what they are handed. -/
def Lk.imp : List Go.FuncId := [27, 28, 29, 55, 56, 43]
end Go.Pm
