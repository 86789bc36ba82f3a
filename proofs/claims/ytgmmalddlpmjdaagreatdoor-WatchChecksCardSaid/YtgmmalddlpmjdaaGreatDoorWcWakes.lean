/- The examples of the chapter, by the kernel. -/
import Derived.Test.YtgmmalddlpmjdaaGreatDoorWcKer
import Derived.Test.YtgmmalddlpmjdaaGreatDoorWcS
set_option maxRecDepth 1000000
namespace Go.AM.Wc
open Go Go.AM
noncomputable def K : KEnv := ⟨kfT.get, extF⟩
def isT : FR → AHeap → Bool := fun r H => match r with
  | .ret (.bool true) => (match H.blks with
    | [] => Nat.beq H.next 0
    | _ => false)
  | _ => false
theorem wakes_true : callB K 1000 (.fn 5 []) [] ⟨0, []⟩ isT = true := by kernel_rfl
end Go.AM.Wc
