/- AM: what some library functions come to: strconv.Itoa, strings.Join, strings.Builder's WriteString, Len, String. AM: a world turned at some blocks that stand for things of the heap. -/
import Derived.Test.YtgmmalddlpmjdaaGreatDoorAmVal
import Derived.Lib.ItoaNum
import Derived.Lib.Join
import Derived.Test.YtgmmalddlpmjdaaGreatDoorAmRel
set_option linter.unusedVariables false
namespace Go.AM
open Go
def eItoa : List AV → AHeap → Option (FR × AHeap)
  | [.int .i64 n], H => if -9223372036854775808 ≤ n ∧ n ≤ 9223372036854775807 then some (.ret (.str (Lib.itoa n)), H) else none
  | _, _ => none
def strRows : List (List AV) → Option (List (List UInt8))
  | [] => some []
  | [.str s] :: r => (strRows r).map (s :: ·)
  | _ => none
def eJoin : List AV → AHeap → Option (FR × AHeap)
  | [x, .str sep], H => (sliceRows H x).bind fun rows => (strRows rows).bind fun xs =>
      if 0 < xs.length ∧ xs.length ≤ 140737488355328 ∧ (Lib.join xs sep).length ≤ 140737488355328 then some (.ret (.str (Lib.join xs sep)), H) else none
  | _, _ => none
def eWrite : List AV → AHeap → Option (FR × AHeap)
  | [.ptr id 0 0, .str s], H =>
    match H.get id with
    | some (.obj 0 []) =>
      if s.length ≤ 140737488355328 then
        if s.length = 0 then some (.ret (.tup [.int .i64 0, .nilifc]), H)
        else some (.ret (.tup [.int .i64 s.length, .nilifc]), (H.set id (.obj 0 [.ptr H.next 0 s.length])).add (.obj 1 [.str s]))
      else none
    | some (.obj 0 [.ptr bid _ n]) =>
      (match H.get bid with
      | some (.obj 1 [.str bs]) =>
        if n = bs.length ∧ bs.length + s.length ≤ 140737488355328 ∧ bid ≠ id ∧ 0 < s.length then
          some (.ret (.tup [.int .i64 s.length, .nilifc]), (((H.free bid).set id (.obj 0 [.ptr H.next 0 (bs.length + s.length)])).add (.obj 1 [.str (bs ++ s)])))
        else none
      | _ => none)
    | _ => none
  | _, _ => none
def eLen : List AV → AHeap → Option (FR × AHeap)
  | [.ptr id 0 0], H =>
    match H.get id with
    | some (.obj 0 []) => some (.ret (.int .i64 0), H)
    | some (.obj 0 [.ptr bid _ n]) =>
      (match H.get bid with
      | some (.obj 1 [.str bs]) => if n = bs.length then some (.ret (.int .i64 n), H) else none
      | _ => none)
    | _ => none
  | _, _ => none
def eStr : List AV → AHeap → Option (FR × AHeap)
  | [.ptr id 0 0], H =>
    match H.get id with
    | some (.obj 0 []) => some (.ret (.str []), H)
    | some (.obj 0 [.ptr bid _ n]) =>
      (match H.get bid with
      | some (.obj 1 [.str bs]) => if n = bs.length ∧ 0 < n then some (.ret (.str bs), H) else none
      | _ => none)
    | _ => none
  | _, _ => none
end Go.AM
set_option linter.unusedVariables false
namespace Go.AM
open Go Go.RowKit
section
variable {E : Env} {w0 : World} {c : Ctx} {H : AHeap} {w w' : World}
/-- One thing's block is turned; it is said to hold what it held. -/
theorem Rel.touch (R : Rel E w0 c H w) {id : Nat} {blk : ABlk} {l : Loc} (hg : H.get id = some blk) (hl : c.rho id = some l) (ho : w'.os = w.os) (htp : w'.tape = w.tape) (hout : w'.output = w.output) (hsz : w.heap.size ≤ w'.heap.size)
    (hk : ∀ k, k < w.heap.size → k ≠ l.blk → w'.heap[k]? = w.heap[k]?) (hB : BRel E c w' l blk) : Ext c H w c H w' ∧ Rel E w0 c H w' := by
  have hI : ¬ c.I l.blk := by
    obtain ⟨l2, h1, h2, _⟩ := R.live id blk hg
    rw [hl] at h1
    cases h1
    exact h2
  have hkeep : ∀ b, c.I b → w'.heap[b]? = w.heap[b]? := fun b hb => hk b (R.ilt b hb) (fun e => hI (e ▸ hb))
  refine ⟨⟨fun _ _ h => h, fun _ h => h, fun _ h => .inl h, Nat.le_refl _, hsz, hkeep, fun b hb hn => hk b hb (fun e => hn id l (by rw [hg]; rfl) hl e.symm), fun i x h1 h2 => .inr ⟨i, x, h1, h2, rfl⟩⟩,
    ⟨R.dom, R.hdom, fun i b h => ?_, R.inj, fun b h => Nat.lt_of_lt_of_le (R.ilt b h) hsz, R.old, ?_, fun g row h => VRel.mono (c := c) (c' := c) (w := w) (fun _ _ h => h) (fun _ h => h) hkeep _ _ (R.glob g row h)⟩⟩
  · obtain ⟨l2, h1, h2, h3, h4⟩ := R.live i b h
    by_cases hi : i = id
    · subst hi
      rw [hg] at h
      cases h
      rw [hl] at h1
      cases h1
      exact ⟨l, hl, h2, Nat.lt_of_lt_of_le h3 hsz, hB⟩
    · refine ⟨l2, h1, h2, Nat.lt_of_lt_of_le h3 hsz, BRel.mono (c := c) (c' := c) (fun _ _ h => h) (fun _ h => h) hkeep (hk _ h3 ?_) h4⟩
      exact R.inj i id l2 l (by rw [h]; rfl) (by rw [hg]; rfl) hi h1 hl
  · exact ⟨ho.trans R.below.os, htp.trans R.below.tape, hout.trans R.below.output, Nat.le_trans R.below.size hsz, fun k hk' => (hkeep k (R.old k hk')).trans (R.below.block k hk')⟩
/-- One thing's block is turned; another's is given up; a new thing stands in that block or in a new one. -/
theorem Rel.remake (R : Rel E w0 c H w) {id bid : Nat} {blk0 blk blk1 : ABlk} {l l' : Loc} {H' : AHeap} (hg : H.get id = some blk0) (hl : c.rho id = some l) (hne : id ≠ bid)
    (hget : ∀ i, H'.get i = if i = H.next then some blk1 else if i = id then some blk else if i = bid then none else H.get i) (hnext : H'.next = H.next + 1)
    (ho : w'.os = w.os) (htp : w'.tape = w.tape) (hout : w'.output = w.output) (hsz : w.heap.size ≤ w'.heap.size)
    (hk : ∀ k, k < w.heap.size → k ≠ l.blk → (∀ lb, (H.get bid).isSome = true → c.rho bid = some lb → k ≠ lb.blk) → w'.heap[k]? = w.heap[k]?)
    (hnew : w.heap.size ≤ l'.blk ∨ ∃ lb, (H.get bid).isSome = true ∧ c.rho bid = some lb ∧ lb.blk = l'.blk) (hlt : l'.blk < w'.heap.size) (hdiff : l'.blk ≠ l.blk)
    (hB : ∀ c', (∀ i x, c.rho i = some x → c'.rho i = some x) → c'.rho H.next = some l' → BRel E c' w' l blk ∧ BRel E c' w' l' blk1) :
    Ext c H w (c.addR H.next l') H' w' ∧ Rel E w0 (c.addR H.next l') H' w' := by
  have hI : ∀ i x, (H.get i).isSome = true → c.rho i = some x → ¬ c.I x.blk ∧ x.blk < w.heap.size := by
    intro i x h1 h2
    obtain ⟨b, hb⟩ := Option.isSome_iff_exists.1 h1
    obtain ⟨l2, h3, h4, h5, _⟩ := R.live i b hb
    rw [h2] at h3
    cases h3
    exact ⟨h4, h5⟩
  have hid : (H.get id).isSome = true := by rw [hg]; rfl
  have hkeep : ∀ b, c.I b → w'.heap[b]? = w.heap[b]? := fun b hb => hk b (R.ilt b hb) (fun e => (hI id l hid hl).1 (e ▸ hb)) (fun lb h1 h2 e => (hI bid lb h1 h2).1 (e ▸ hb))
  have hrho := addR_old R l'
  have hidlt : id < H.next := R.dom id l hl
  have hsome : ∀ i, (H'.get i).isSome = true → i = H.next ∨ (i ≠ H.next ∧ (H.get i).isSome = true ∧ i ≠ bid) := by
    intro i h
    rw [hget] at h
    split at h
    · rename_i e; exact .inl e
    · rename_i e1
      split at h
      · rename_i e; subst e; exact .inr ⟨e1, hid, hne⟩
      · split at h
        · cases h
        · rename_i e3; exact .inr ⟨e1, h, e3⟩
  have hrx : ∀ i x, i ≠ H.next → (c.addR H.next l').rho i = some x → c.rho i = some x := by
    intro i x h1 h2
    simpa [Ctx.addR, h1] using h2
  have hrn : ∀ x, (c.addR H.next l').rho H.next = some x → x = l' := by
    intro x h
    simp only [Ctx.addR, if_true, Option.some.injEq] at h
    exact h.symm
  have hb := hB (c.addR H.next l') hrho (by simp [Ctx.addR])
  refine ⟨⟨hrho, fun _ h => h, fun _ h => .inl h, by rw [hnext]; omega, hsz, hkeep, fun b hb hn => hk b hb (fun e => hn id l hid hl e.symm) (fun lb h1 h2 e => hn bid lb h1 h2 e.symm), fun i x h1 h2 => ?_⟩,
    ⟨fun i x h => ?_, fun i h => ?_, fun i b h => ?_, fun i i' x x' h1 h2 h3 h4 h5 => ?_, fun b h => Nat.lt_of_lt_of_le (R.ilt b h) hsz, R.old, ?_, fun g row h => VRel.mono (c := c) (c' := c.addR H.next l') (w := w) hrho (fun _ h => h) hkeep _ _ (R.glob g row h)⟩⟩
  · rcases hsome i h1 with rfl | ⟨e1, e2, e3⟩
    · obtain rfl := hrn x h2
      rcases hnew with h | ⟨lb, h3, h4, h5⟩
      · exact .inl h
      · exact .inr ⟨bid, lb, h3, h4, h5⟩
    · exact .inr ⟨i, x, e2, hrx i x e1 h2, rfl⟩
  · rw [hnext]
    by_cases hi : i = H.next
    · omega
    · have := R.dom i x (hrx i x hi h); omega
  · rw [hnext]
    rcases hsome i h with rfl | ⟨e1, e2, e3⟩
    · omega
    · have := R.hdom i e2; omega
  · by_cases hi : i = H.next
    · subst hi
      rw [hget, if_pos rfl] at h
      cases h
      refine ⟨l', by simp [Ctx.addR], fun hh => ?_, hlt, hb.2⟩
      rcases hnew with h | ⟨lb, h3, h4, h5⟩
      · have := R.ilt _ hh; omega
      · exact (hI bid lb h3 h4).1 (h5 ▸ hh)
    · rw [hget, if_neg hi] at h
      split at h
      · rename_i e
        subst e
        cases h
        exact ⟨l, hrho _ _ hl, (hI i l hid hl).1, Nat.lt_of_lt_of_le (hI i l hid hl).2 hsz, hb.1⟩
      · rename_i e
        split at h
        · cases h
        · rename_i e2
          obtain ⟨l2, h1, h2, h3, h4⟩ := R.live i b h
          refine ⟨l2, hrho _ _ h1, h2, Nat.lt_of_lt_of_le h3 hsz, BRel.mono (c := c) (c' := c.addR H.next l') hrho (fun _ h => h) hkeep (hk _ h3 (R.inj i id l2 l (by rw [h]; rfl) hid e h1 hl) (fun lb k1 k2 => R.inj i bid l2 lb (by rw [h]; rfl) k1 e2 h1 k2)) h4⟩
  · rcases hsome i h1 with rfl | ⟨e1, e2, e3⟩
    · obtain rfl := hrn x h4
      rcases hsome i' h2 with rfl | ⟨f1, f2, f3⟩
      · exact absurd rfl h3
      · have hx' := hrx i' x' f1 h5
        rcases hnew with h | ⟨lb, k3, k4, k5⟩
        · have := (hI i' x' f2 hx').2; omega
        · rw [← k5]
          exact R.inj bid i' lb x' k3 f2 (fun e => f3 e.symm) k4 hx'
    · have hx := hrx i x e1 h4
      rcases hsome i' h2 with rfl | ⟨f1, f2, f3⟩
      · obtain rfl := hrn x' h5
        rcases hnew with h | ⟨lb, k3, k4, k5⟩
        · have := (hI i x e2 hx).2; omega
        · rw [← k5]
          exact R.inj i bid x lb e2 k3 e3 hx k4
      · exact R.inj i i' x x' e2 f2 h3 hx (hrx i' x' f1 h5)
  · exact ⟨ho.trans R.below.os, htp.trans R.below.tape, hout.trans R.below.output, Nat.le_trans R.below.size hsz, fun k hk' => (hkeep k (R.old k hk')).trans (R.below.block k hk')⟩
end
end Go.AM
