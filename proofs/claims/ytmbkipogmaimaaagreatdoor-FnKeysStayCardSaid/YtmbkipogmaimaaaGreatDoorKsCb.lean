/- The stay of keys, part Cb: what the law does once the number of its keys is drawn. Conditions: none. -/
import Derived.Test.YtmbkipogmaimaaaGreatDoorKsA
import Derived.Test.YtmbkipogmaimaaaGreatDoorFwZf
namespace Go.Fw.Ks
open Go Go.Fw
theorem rest3 : isT (runB (callN TB 2000) 2000 b4r ⟨[(2, .t [] (.pl false [.bool false])), (3, .t [] (.pl false [.int .i64 3]))], [], []⟩ [.t 2] []) = true := by decide +kernel
end Go.Fw.Ks
