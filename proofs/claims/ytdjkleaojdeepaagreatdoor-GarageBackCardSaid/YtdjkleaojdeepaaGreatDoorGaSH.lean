/- How long what Parse gives is. -/
import Derived.Test.YtdjkleaojdeepaaGreatDoorGaBk1
import Derived.Test.YtdjkleaojdeepaaGreatDoorGaRun
set_option maxHeartbeats 16000000
set_option maxRecDepth 8000
namespace Fw
open Go
attribute [local irreducible] evCode evOps evOpsD evOper evOperD evOp evFn loopN T.All T.bind callPure callOp opsK opsDK restK seqK blockK loopS setK setQ giveK scalK gcK finish finS rfunK yldK yldB loopK

theorem parseL_length (h : HallI) (s : List UInt8) (hs : s.length ≤ 4096) : (parseL h s).1.length < 50000 := by
 have hg := goL_length (splitS 10 s) []
 rw [splitS_length] at hg
 have h2 : s.count 10 ≤ s.length := List.count_le_length
 unfold parseL
 split
 ·split
  ·simp
  ·split
   ·simp only [List.length_nil] at hg ⊢; omega
   ·simp
 ·simp

end Fw
