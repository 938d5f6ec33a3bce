/- The walk of the law BoundTells: its ways together. -/
import Derived.Test.YtdpbacmophaheaaMD1
import Derived.Test.YtdpbacmophaheaaMD2
import Derived.Test.YtdpbacmophaheaaMD3
import Derived.Test.YtdpbacmophaheaaMD4
import Derived.Test.YtdpbacmophaheaaMD5
import Derived.Test.YtdpbacmophaheaaMD6
import Derived.Test.YtdpbacmophaheaaMD7
namespace Go.Proofs.Ytdpbacmophaheaa
open Go.RowKit

section
variable {w : World} {F G : Nat → Prop} {A B : Option Addr} {n c m d : Nat}
theorem tells_main {l : List Int} {x0 x1 x2 x3 k : Int} (h : Sl Enc.i64 w F A n c l) (hn : n ≤ 100) :
    Calls Try.prog 12 #[.agg #[.int .i64 x0, .int .i64 x1, .int .i64 x2, .int .i64 x3], .int .i64 k, .slice A n c] w fun e w' => e = .returned (.bool true) ∧ Below w.heap.size w w' := by
  cases hg : geomB x0 x1 x2 x3
  · exact tells_no h hn hg
  · by_cases h8 : k = 8
    · exact tells_8 h hn hg h8
    · by_cases h1 : k < 1
      · exact tells_lo h hn hg h1
      · by_cases h2 : 10 < k
        · exact tells_hi h hn hg h2
        · by_cases h6 : k = 6
          · exact tells_6 h hn hg h6
          · by_cases h7 : k = 7
            · exact tells_7 h hn hg h7
            · exact tells_ch h hn hg (by simp [changesB]; omega) h8
end
end Go.Proofs.Ytdpbacmophaheaa
