/- The arguments of WatchChecks as plain data. The library functions that are known by what they come to. The evaluator of this statement: its functions. -/
import Derived.Test.YtgmmalddlpmjdaaGreatDoorAmWp
import Derived.Test.YtgmmalddlpmjdaaGreatDoorWcSlim
import Derived.Test.YtgmmalddlpmjdaaGreatDoorAmExt
set_option linter.unusedVariables false
namespace Go.AM.Wc
open Go Go.AM
structure G where
  name : List UInt8
  acc : Int
  drift : Int
  since : Int
structure Q where
  name : List UInt8
  lo : Int
  hi : Int
  rise : Int
  fall : Int
  bad : Int
  gs : Sl G
structure M where
  name : List UInt8
  crew : List UInt8
  rank : Int
  lag : Int
  takes : Int
structure A where
  qu : Int
  lev : Int
  lim : Int
  ms : Int
structure P where
  qs : Sl Q
  ms : Sl M
  as : Sl A
@[simp] def G.row (g : G) : List AV := [.str g.name, .int .i64 g.acc, .int .i64 g.drift, .int .i64 g.since]
@[simp] def Q.row (q : Q) : List AV := [.str q.name, .int .i64 q.lo, .int .i64 q.hi, .int .i64 q.rise, .int .i64 q.fall, .int .i64 q.bad, q.gs.av G.row]
@[simp] def M.row (m : M) : List AV := [.str m.name, .str m.crew, .int .i64 m.rank, .int .i64 m.lag, .int .i64 m.takes]
@[simp] def A.row (a : A) : List AV := [.int .i64 a.qu, .int .i64 a.lev, .int .i64 a.lim, .int .i64 a.ms]
@[simp] def P.row (p : P) : List AV := [p.qs.av Q.row, p.ms.av M.row, p.as.av A.row]
end Go.AM.Wc
set_option linter.unusedVariables false
namespace Go.AM.Wc
open Go Go.AM
def extF : ExtF := fun g =>
  match Nat.ble 20 g && Nat.ble g 24 with
  | false => none
  | true => if g = 20 then some eItoa else if g = 21 then some eWrite else if g = 22 then some eJoin else if g = 23 then some eLen else if g = 24 then some eStr else none
end Go.AM.Wc
set_option linter.unusedVariables false
namespace Go.AM.Wc
open Go Go.AM
noncomputable def S : SEnv := ⟨funT.get, extF⟩
theorem S_fn {g : Nat} {sf : SFun} (hf : funT.get g = some sf) : S.funs g = some sf := hf
theorem call_ext {g : Nat} {e : List AV → AHeap → Option (FR × AHeap)} (hx : extF g = some e) {n : Nat} (hn : 1 ≤ n) {args : List AV} {H : AHeap} {r : FR × AHeap} (h : e args H = some r) : evalFn S n (.fn g []) args H = some r := by
  obtain ⟨m, rfl⟩ : ∃ m, n = m + 1 := ⟨n - 1, by omega⟩
  rw [evalFn_ext (S := S) hx, List.append_nil]
  exact h
end Go.AM.Wc
