/- The slim functions are the program's: each checked by the kernel. -/
import Derived.Test.YtgmmalddlpmjdaaGreatDoorProg
import Derived.Test.YtgmmalddlpmjdaaGreatDoorWcSlim
import Derived.Test.YtgmmalddlpmjdaaGreatDoorWcAnn
import Derived.KernelRfl
set_option maxRecDepth 1000000
namespace Go.AM.Wc
open Go Go.AM Go.Proofs
def globs : Nat → Option (List AV)
  | 0 => some glob0
  | 2 => some glob2
  | 3 => some glob3
  | _ => none
def extL : List Nat := [20, 21, 22, 23, 24]
def dropL : List Nat := [6, 8, 26, 27, 10, 15, 16, 17, 49, 51, 77, 69, 88, 60, 38, 5, 35, 3, 25]
noncomputable def E : Env := { P := Tryz.prog, ann := fun f id => ((annT.get f).getD []).getD id {}, glob := globs, fns := fun g => (funT.get g).isSome || extL.elem g, drop := fun g => dropL.elem g, bT := 61, bE := 5 }
theorem sl3 : slimFn E 3 Tryz.f3 = some sf3 := by kernel_rfl
theorem sl4 : slimFn E 4 Tryz.f4 = some sf4 := by kernel_rfl
theorem sl5 : slimFn E 5 Tryz.f5 = some sf5 := by kernel_rfl
theorem sl6 : slimFn E 6 Tryz.f6 = some sf6 := by kernel_rfl
theorem sl7 : slimFn E 7 Tryz.f7 = some sf7 := by kernel_rfl
theorem sl8 : slimFn E 8 Tryz.f8 = some sf8 := by kernel_rfl
theorem sl9 : slimFn E 9 Tryz.f9 = some sf9 := by kernel_rfl
theorem sl10 : slimFn E 10 Tryz.f10 = some sf10 := by kernel_rfl
theorem sl11 : slimFn E 11 Tryz.f11 = some sf11 := by kernel_rfl
theorem sl12 : slimFn E 12 Tryz.f12 = some sf12 := by kernel_rfl
theorem sl13 : slimFn E 13 Tryz.f13 = some sf13 := by kernel_rfl
theorem sl14 : slimFn E 14 Tryz.f14 = some sf14 := by kernel_rfl
theorem sl15 : slimFn E 15 Tryz.f15 = some sf15 := by kernel_rfl
theorem sl16 : slimFn E 16 Tryz.f16 = some sf16 := by kernel_rfl
theorem sl17 : slimFn E 17 Tryz.f17 = some sf17 := by kernel_rfl
theorem sl18 : slimFn E 18 Tryz.f18 = some sf18 := by kernel_rfl
theorem sl19 : slimFn E 19 Tryz.f19 = some sf19 := by kernel_rfl
theorem sl25 : slimFn E 25 Tryz.f25 = some sf25 := by kernel_rfl
theorem sl26 : slimFn E 26 Tryz.f26 = some sf26 := by kernel_rfl
theorem sl27 : slimFn E 27 Tryz.f27 = some sf27 := by kernel_rfl
theorem sl28 : slimFn E 28 Tryz.f28 = some sf28 := by kernel_rfl
theorem sl29 : slimFn E 29 Tryz.f29 = some sf29 := by kernel_rfl
theorem sl30 : slimFn E 30 Tryz.f30 = some sf30 := by kernel_rfl
theorem sl31 : slimFn E 31 Tryz.f31 = some sf31 := by kernel_rfl
theorem sl32 : slimFn E 32 Tryz.f32 = some sf32 := by kernel_rfl
theorem sl33 : slimFn E 33 Tryz.f33 = some sf33 := by kernel_rfl
theorem sl34 : slimFn E 34 Tryz.f34 = some sf34 := by kernel_rfl
theorem sl35 : slimFn E 35 Tryz.f35 = some sf35 := by kernel_rfl
theorem sl36 : slimFn E 36 Tryz.f36 = some sf36 := by kernel_rfl
theorem sl37 : slimFn E 37 Tryz.f37 = some sf37 := by kernel_rfl
theorem sl38 : slimFn E 38 Tryz.f38 = some sf38 := by kernel_rfl
theorem sl39 : slimFn E 39 Tryz.f39 = some sf39 := by kernel_rfl
theorem sl40 : slimFn E 40 Tryz.f40 = some sf40 := by kernel_rfl
theorem sl41 : slimFn E 41 Tryz.f41 = some sf41 := by kernel_rfl
theorem sl42 : slimFn E 42 Tryz.f42 = some sf42 := by kernel_rfl
theorem sl43 : slimFn E 43 Tryz.f43 = some sf43 := by kernel_rfl
theorem sl44 : slimFn E 44 Tryz.f44 = some sf44 := by kernel_rfl
theorem sl45 : slimFn E 45 Tryz.f45 = some sf45 := by kernel_rfl
theorem sl46 : slimFn E 46 Tryz.f46 = some sf46 := by kernel_rfl
theorem sl47 : slimFn E 47 Tryz.f47 = some sf47 := by kernel_rfl
theorem sl48 : slimFn E 48 Tryz.f48 = some sf48 := by kernel_rfl
theorem sl49 : slimFn E 49 Tryz.f49 = some sf49 := by kernel_rfl
theorem sl50 : slimFn E 50 Tryz.f50 = some sf50 := by kernel_rfl
theorem sl51 : slimFn E 51 Tryz.f51 = some sf51 := by kernel_rfl
theorem sl52 : slimFn E 52 Tryz.f52 = some sf52 := by kernel_rfl
theorem sl56 : slimFn E 56 Tryz.f56 = some sf56 := by kernel_rfl
theorem sl57 : slimFn E 57 Tryz.f57 = some sf57 := by kernel_rfl
theorem sl58 : slimFn E 58 Tryz.f58 = some sf58 := by kernel_rfl
theorem sl59 : slimFn E 59 Tryz.f59 = some sf59 := by kernel_rfl
theorem sl60 : slimFn E 60 Tryz.f60 = some sf60 := by kernel_rfl
theorem sl61 : slimFn E 61 Tryz.f61 = some sf61 := by kernel_rfl
theorem sl62 : slimFn E 62 Tryz.f62 = some sf62 := by kernel_rfl
theorem sl63 : slimFn E 63 Tryz.f63 = some sf63 := by kernel_rfl
theorem sl64 : slimFn E 64 Tryz.f64 = some sf64 := by kernel_rfl
theorem sl65 : slimFn E 65 Tryz.f65 = some sf65 := by kernel_rfl
theorem sl66 : slimFn E 66 Tryz.f66 = some sf66 := by kernel_rfl
theorem sl67 : slimFn E 67 Tryz.f67 = some sf67 := by kernel_rfl
theorem sl68 : slimFn E 68 Tryz.f68 = some sf68 := by kernel_rfl
theorem sl69 : slimFn E 69 Tryz.f69 = some sf69 := by kernel_rfl
theorem sl70 : slimFn E 70 Tryz.f70 = some sf70 := by kernel_rfl
theorem sl71 : slimFn E 71 Tryz.f71 = some sf71 := by kernel_rfl
theorem sl72 : slimFn E 72 Tryz.f72 = some sf72 := by kernel_rfl
theorem sl73 : slimFn E 73 Tryz.f73 = some sf73 := by kernel_rfl
theorem sl74 : slimFn E 74 Tryz.f74 = some sf74 := by kernel_rfl
theorem sl75 : slimFn E 75 Tryz.f75 = some sf75 := by kernel_rfl
theorem sl76 : slimFn E 76 Tryz.f76 = some sf76 := by kernel_rfl
theorem sl77 : slimFn E 77 Tryz.f77 = some sf77 := by kernel_rfl
theorem sl78 : slimFn E 78 Tryz.f78 = some sf78 := by kernel_rfl
theorem sl82 : slimFn E 82 Tryz.f82 = some sf82 := by kernel_rfl
theorem sl83 : slimFn E 83 Tryz.f83 = some sf83 := by kernel_rfl
theorem sl84 : slimFn E 84 Tryz.f84 = some sf84 := by kernel_rfl
theorem sl85 : slimFn E 85 Tryz.f85 = some sf85 := by kernel_rfl
theorem sl86 : slimFn E 86 Tryz.f86 = some sf86 := by kernel_rfl
theorem sl87 : slimFn E 87 Tryz.f87 = some sf87 := by kernel_rfl
theorem sl88 : slimFn E 88 Tryz.f88 = some sf88 := by kernel_rfl
theorem sl89 : slimFn E 89 Tryz.f89 = some sf89 := by kernel_rfl
theorem sl90 : slimFn E 90 Tryz.f90 = some sf90 := by kernel_rfl
theorem sl91 : slimFn E 91 Tryz.f91 = some sf91 := by kernel_rfl
theorem sl97 : slimFn E 97 Tryz.f97 = some sf97 := by kernel_rfl
theorem sl98 : slimFn E 98 Tryz.f98 = some sf98 := by kernel_rfl
theorem sl106 : slimFn E 106 Tryz.f106 = some sf106 := by kernel_rfl
theorem sl107 : slimFn E 107 Tryz.f107 = some sf107 := by kernel_rfl
theorem sl108 : slimFn E 108 Tryz.f108 = some sf108 := by kernel_rfl
end Go.AM.Wc
