/- AM: what an abstract value, frame, heap says of the world. AM: lists of values, reading and writing rows of cells. AM: the operations that read, compute and compare are sound. AM: arithmetic, strings, comparisons are sound. AM: what a new block, a store, a block given up or frozen does to the relation. -/
import Derived.Test.YtgmmalddlpmjdaaGreatDoorAmVal
import Derived.Below
import Derived.Laws.World
import Derived.WalkKit
set_option linter.unusedVariables false
namespace Go.AM
open Go Go.RowKit

/-- Where a mutable block lies: the real block, where in it, the cells of a row, the real block's size. -/
structure Loc where
  blk : Nat
  base : Nat
  sz : Nat
  tot : Nat
structure Ctx where
  rho : Nat → Option Loc
  I : Nat → Prop

mutual
def VRel (c : Ctx) (w : World) : AV → Value → Prop
  | .bool b, v => v = .bool b
  | .int k n, v => v = .int k n
  | .str s, v => v = .string ⟨s.toArray⟩
  | .nilptr, v => v = .pointer none
  | .imm row off, v => ∃ b o cs t fr, v = .pointer (some ⟨b, o + off, none⟩) ∧ c.I b ∧ w.heap[b]? = some (.cells cs t fr) ∧ VRels c w row ((cs.toList.drop o).take row.length)
  | .ptr id r off, v => ∃ l, c.rho id = some l ∧ v = .pointer (some ⟨l.blk, l.base + r * l.sz + off, none⟩)
  | .nilsl, v => v = .slice none 0 0
  | .isl rows cap, v => ∃ a k, v = .slice (some a) rows.length k ∧ (∀ m, cap = some m → k = m) ∧ rows.length ≤ k ∧
      (rows = [] ∨ ∃ cs t fr sz, a.spot = none ∧ c.I a.block ∧ w.heap[a.block]? = some (.cells cs t fr) ∧ (∀ row, row ∈ rows → row.length = sz) ∧ VRelss c w rows (cs.toList.drop a.off))
  | .msl id lo len cap, v => ∃ l a k, c.rho id = some l ∧ v = .slice (some a) len k ∧ (∀ m, cap = some m → k = m) ∧ len ≤ k ∧
      (k = 0 ∨ (a = ⟨l.blk, l.base + lo * l.sz, none⟩ ∧ l.base + (lo + k) * l.sz ≤ l.tot))
  | .nilmap, v => v = .map none
  | .map id, v => ∃ l, c.rho id = some l ∧ v = .map (some l.blk)
  | .fn f caps, v => ∃ us, v = .func (.func f) #[] us ∧ VRels c w caps us.toList
  | .nilfn, v => v = .nilFunc
  | .yld id, v => ∃ l, c.rho id = some l ∧ v = .func (.yield l.blk) #[] #[]
  | .ifc t x, v => ∃ u, v = .iface t u ∧ VRel c w x u
  | .nilifc, v => v = .nilIface
  | .agg xs, v => ∃ us, v = .agg us ∧ VRels c w xs us.toList
  | .tup xs, v => ∃ us, v = .tuple us ∧ VRels c w xs us.toList
  | .junk, _ => True
def VRels (c : Ctx) (w : World) : List AV → List Value → Prop
  | [], us => us = []
  | x :: xs, us => ∃ u r, us = u :: r ∧ VRel c w x u ∧ VRels c w xs r
def VRelss (c : Ctx) (w : World) : List (List AV) → List Value → Prop
  | [], _ => True
  | x :: xs, us => VRels c w x (us.take x.length) ∧ VRelss c w xs (us.drop x.length)
end

structure Ext (c : Ctx) (H : AHeap) (w : World) (c' : Ctx) (H' : AHeap) (w' : World) : Prop where
  rho : ∀ id x, c.rho id = some x → c'.rho id = some x
  imm : ∀ b, c.I b → c'.I b
  inew : ∀ b, c'.I b → c.I b ∨ w.heap.size ≤ b ∨ ∃ id x, (H.get id).isSome = true ∧ c.rho id = some x ∧ x.blk = b
  next : H.next ≤ H'.next
  size : w.heap.size ≤ w'.heap.size
  keep : ∀ b, c.I b → w'.heap[b]? = w.heap[b]?
  frame : ∀ b, b < w.heap.size → (∀ id x, (H.get id).isSome = true → c.rho id = some x → x.blk ≠ b) → w'.heap[b]? = w.heap[b]?
  fresh : ∀ id x, (H'.get id).isSome = true → c'.rho id = some x → w.heap.size ≤ x.blk ∨ ∃ id0 x0, (H.get id0).isSome = true ∧ c.rho id0 = some x0 ∧ x0.blk = x.blk

mutual
theorem VRel.mono {c c' : Ctx} {w w' : World} (hr : ∀ id x, c.rho id = some x → c'.rho id = some x) (hi : ∀ b, c.I b → c'.I b) (hk : ∀ b, c.I b → w'.heap[b]? = w.heap[b]?) :
    ∀ (x : AV) (v : Value), VRel c w x v → VRel c' w' x v
  | .bool b, v, h => h
  | .int k n, v, h => h
  | .str s, v, h => h
  | .nilptr, v, h => h
  | .imm row off, v, h => by
    simp only [VRel] at h ⊢
    obtain ⟨b, o, cs, t, fr, hv, hI, hh, hs⟩ := h
    exact ⟨b, o, cs, t, fr, hv, hi _ hI, (hk _ hI).trans hh, VRels.mono hr hi hk row _ hs⟩
  | .ptr id r off, v, h => by
    simp only [VRel] at h ⊢
    obtain ⟨l, h1, h2⟩ := h
    exact ⟨l, hr _ _ h1, h2⟩
  | .nilsl, v, h => h
  | .isl rows cap, v, h => by
    simp only [VRel] at h ⊢
    obtain ⟨a, k, h1, h2, h3, h4⟩ := h
    refine ⟨a, k, h1, h2, h3, ?_⟩
    rcases h4 with h4 | ⟨cs, t, fr, sz, hsp, hI, hh, hsz, hs⟩
    · exact .inl h4
    · exact .inr ⟨cs, t, fr, sz, hsp, hi _ hI, (hk _ hI).trans hh, hsz, VRelss.mono hr hi hk rows _ hs⟩
  | .msl id lo len cap, v, h => by
    simp only [VRel] at h ⊢
    obtain ⟨l, a, k, h1, h2⟩ := h
    exact ⟨l, a, k, hr _ _ h1, h2⟩
  | .nilmap, v, h => h
  | .map id, v, h => by
    simp only [VRel] at h ⊢
    obtain ⟨l, h1, h2⟩ := h
    exact ⟨l, hr _ _ h1, h2⟩
  | .fn f caps, v, h => by
    simp only [VRel] at h ⊢
    obtain ⟨us, h1, h2⟩ := h
    exact ⟨us, h1, VRels.mono hr hi hk caps _ h2⟩
  | .nilfn, v, h => h
  | .yld id, v, h => by
    simp only [VRel] at h ⊢
    obtain ⟨l, h1, h2⟩ := h
    exact ⟨l, hr _ _ h1, h2⟩
  | .ifc t x, v, h => by
    simp only [VRel] at h ⊢
    obtain ⟨u, h1, h2⟩ := h
    exact ⟨u, h1, VRel.mono hr hi hk x _ h2⟩
  | .nilifc, v, h => h
  | .agg xs, v, h => by
    simp only [VRel] at h ⊢
    obtain ⟨us, h1, h2⟩ := h
    exact ⟨us, h1, VRels.mono hr hi hk xs _ h2⟩
  | .tup xs, v, h => by
    simp only [VRel] at h ⊢
    obtain ⟨us, h1, h2⟩ := h
    exact ⟨us, h1, VRels.mono hr hi hk xs _ h2⟩
  | .junk, v, h => h
theorem VRels.mono {c c' : Ctx} {w w' : World} (hr : ∀ id x, c.rho id = some x → c'.rho id = some x) (hi : ∀ b, c.I b → c'.I b) (hk : ∀ b, c.I b → w'.heap[b]? = w.heap[b]?) :
    ∀ (xs : List AV) (us : List Value), VRels c w xs us → VRels c' w' xs us
  | [], us, h => h
  | x :: xs, us, h => by
    simp only [VRels] at h ⊢
    obtain ⟨u, r, h1, h2, h3⟩ := h
    exact ⟨u, r, h1, VRel.mono hr hi hk x _ h2, VRels.mono hr hi hk xs _ h3⟩
theorem VRelss.mono {c c' : Ctx} {w w' : World} (hr : ∀ id x, c.rho id = some x → c'.rho id = some x) (hi : ∀ b, c.I b → c'.I b) (hk : ∀ b, c.I b → w'.heap[b]? = w.heap[b]?) :
    ∀ (xs : List (List AV)) (us : List Value), VRelss c w xs us → VRelss c' w' xs us
  | [], us, h => trivial
  | x :: xs, us, h => by
    simp only [VRelss] at h ⊢
    exact ⟨VRels.mono hr hi hk x _ h.1, VRelss.mono hr hi hk xs _ h.2⟩
end

def lst : LState → LoopState
  | .ready => .ready
  | .busy => .busy
  | .done => .done
/-- The temporaries of a frame. -/
def TRel (c : Ctx) (w : World) (nt : Nat) (fr : Fr) (tmps : Array Value) : Prop := tmps.size = nt ∧ ∀ t v, fr.get t = some v → t < nt ∧ VRel c w v (tmps.getD t undef)
/-- The cells of bytes. -/
def byteVals (bs : List UInt8) : List Value := bs.map fun b => .int .u8 (b.toNat : Int)
/-- A strings.Builder that is not written (0, []); one with its row (0, [row, bytes]); its row (1, [text]). -/
def KRel (E : Env) (c : Ctx) (w : World) (l : Loc) : Nat → List AV → Prop
  | 0, [] => ∃ p, (p = .pointer none ∨ p = .pointer (some ⟨l.blk, 0, none⟩)) ∧ l.base = 0 ∧ w.heap[l.blk]? = some (.cells #[p, .slice none 0 0] E.bT (0, 0))
  | 0, [.ptr bid _ n] => ∃ p lb, (p = .pointer none ∨ p = .pointer (some ⟨l.blk, 0, none⟩)) ∧ l.base = 0 ∧ c.rho bid = some lb ∧ w.heap[l.blk]? = some (.cells #[p, .slice (some ⟨lb.blk, 0, none⟩) n lb.tot] E.bT (0, 0))
  | 1, [.str bs] => ∃ cs fz, w.heap[l.blk]? = some (.cells cs E.bE fz) ∧ fz.2 ≤ bs.length ∧ bs.length ≤ cs.size ∧ cs.size ≤ maxLen ∧ cs.size = l.tot ∧ cs.toList.take bs.length = byteVals bs
  | _, _ => False
theorem KRel.mono {E : Env} {c c' : Ctx} {w w' : World} {l : Loc} {k : Nat} {d : List AV} (hr : ∀ id x, c.rho id = some x → c'.rho id = some x)
    (hl : w'.heap[l.blk]? = w.heap[l.blk]?) (h : KRel E c w l k d) : KRel E c' w' l k d := by
  unfold KRel at h ⊢
  split at h
  · obtain ⟨p, h1, h0, h2⟩ := h
    exact ⟨p, h1, h0, hl.trans h2⟩
  · obtain ⟨p, lb, h1, h0, h2, h3⟩ := h
    exact ⟨p, lb, h1, h0, hr _ _ h2, hl.trans h3⟩
  · obtain ⟨cs, fz, h1, h2⟩ := h
    exact ⟨cs, fz, hl.trans h1, h2⟩
  · exact h
def BRel (E : Env) (c : Ctx) (w : World) (l : Loc) : ABlk → Prop
  | .cells sz rows => sz = l.sz ∧ (∀ row, row ∈ rows → row.length = l.sz) ∧ ∃ cs t, w.heap[l.blk]? = some (.cells cs t (0, 0)) ∧ cs.size = l.tot ∧ l.base + rows.length * l.sz ≤ l.tot ∧ VRelss c w rows (cs.toList.drop l.base)
  | .loop st pend fn nt fr ps asg body => ∃ f' tmps d asgC bodyC, w.heap[l.blk]? = some (.loop { state := lst st, pending := pend, fn := f', tmps := tmps, params := ps.toArray, assign := asgC, body := bodyC, defers := d }) ∧ TRel c w nt fr tmps ∧
      slimCode E fn nt asgC = some asg ∧ slimCode E fn nt bodyC = some body ∧ ps.all (fun t => decide (t < nt)) = true
  | .dfr => w.heap[l.blk]? = some (.deferred (some []))
  | .obj k d => KRel E c w l k d
  | .map _ => False

structure Rel (E : Env) (w0 : World) (c : Ctx) (H : AHeap) (w : World) : Prop where
  dom : ∀ id x, c.rho id = some x → id < H.next
  hdom : ∀ id, (H.get id).isSome = true → id < H.next
  live : ∀ id blk, H.get id = some blk → ∃ l, c.rho id = some l ∧ ¬ c.I l.blk ∧ l.blk < w.heap.size ∧ BRel E c w l blk
  inj : ∀ id id' x x', (H.get id).isSome = true → (H.get id').isSome = true → id ≠ id' → c.rho id = some x → c.rho id' = some x' → x.blk ≠ x'.blk
  ilt : ∀ b, c.I b → b < w.heap.size
  old : ∀ b, b < w0.heap.size → c.I b
  below : Below w0.heap.size w0 w
  glob : ∀ g row, E.glob g = some row → VRel c w (.imm row 0) (.pointer (some ⟨g, 0, none⟩))

theorem Ext.vrel {c c' : Ctx} {H H' : AHeap} {w w' : World} (h : Ext c H w c' H' w') {x : AV} {v : Value} (hv : VRel c w x v) : VRel c' w' x v := VRel.mono h.rho h.imm h.keep x v hv
theorem Ext.vrels {c c' : Ctx} {H H' : AHeap} {w w' : World} (h : Ext c H w c' H' w') {x : List AV} {v : List Value} (hv : VRels c w x v) : VRels c' w' x v := VRels.mono h.rho h.imm h.keep x v hv

theorem Ext.refl (c : Ctx) (H : AHeap) (w : World) : Ext c H w c H w :=
  ⟨fun _ _ h => h, fun _ h => h, fun _ h => .inl h, Nat.le_refl _, Nat.le_refl _, fun _ _ => rfl, fun _ _ _ => rfl, fun id x h1 h2 => .inr ⟨id, x, h1, h2, rfl⟩⟩

theorem Ext.trans {E : Env} {w0 : World} {c c1 c2 : Ctx} {H H1 H2 : AHeap} {w w1 w2 : World} (R : Rel E w0 c H w) (h : Ext c H w c1 H1 w1) (k : Ext c1 H1 w1 c2 H2 w2) : Ext c H w c2 H2 w2 := by
  refine ⟨fun id x hx => k.rho _ _ (h.rho _ _ hx), fun b hb => k.imm _ (h.imm _ hb), fun b hb => ?_, Nat.le_trans h.next k.next, Nat.le_trans h.size k.size,
    fun b hb => (k.keep b (h.imm _ hb)).trans (h.keep b hb), fun b hb hn => ?_, fun id x h1 h2 => ?_⟩
  · rcases k.inew b hb with h1 | h1 | ⟨id, x, h1, h2, h3⟩
    · exact h.inew b h1
    · exact .inr (.inl (Nat.le_trans h.size h1))
    · rcases h.fresh id x h1 h2 with h4 | ⟨id0, x0, h5, h6, h7⟩
      · exact .inr (.inl (h3 ▸ h4))
      · exact .inr (.inr ⟨id0, x0, h5, h6, h7.trans h3⟩)
  · rw [k.frame b (Nat.lt_of_lt_of_le hb h.size) ?_, h.frame b hb hn]
    intro id x h1 h2 e
    rcases h.fresh id x h1 h2 with h3 | ⟨id0, x0, h3, h4, h5⟩
    · omega
    · exact hn id0 x0 h3 h4 (h5.trans e)
  · rcases k.fresh id x h1 h2 with h3 | ⟨id0, x0, h3, h4, h5⟩
    · exact .inl (Nat.le_trans h.size h3)
    · rcases h.fresh id0 x0 h3 h4 with h6 | ⟨id1, x1, h6, h7, h8⟩
      · exact .inl (h5 ▸ h6)
      · exact .inr ⟨id1, x1, h6, h7, h8.trans h5⟩

structure FrRel (c : Ctx) (w : World) (nt : Nat) (fr : Fr) (a : Act) : Prop where
  size : a.tmps.size = nt
  val : ∀ t v, fr.get t = some v → t < nt ∧ VRel c w v (a.tmps.getD t undef)
theorem FrRel.ext {c c' : Ctx} {H H' : AHeap} {w w' : World} {nt : Nat} {fr : Fr} {a : Act} (h : Ext c H w c' H' w') (hf : FrRel c w nt fr a) : FrRel c' w' nt fr a :=
  ⟨hf.size, fun t v e => ⟨(hf.val t v e).1, h.vrel (hf.val t v e).2⟩⟩

/-! ### Frames -/
theorem Fr.get_put (fr : Fr) (t s : Nat) (v : AV) : (fr.put t v).get s = if s = t then some v else fr.get s := by
  induction fr with
  | nil => simp [Fr.put, Fr.get]
  | cons p r ih =>
    obtain ⟨k, u⟩ := p
    simp only [Fr.put]
    split
    · simp only [Fr.get]
    · split
      · rename_i h1 h2
        subst h2
        simp only [Fr.get]
        split <;> rfl
      · rename_i h1 h2
        simp only [Fr.get, ih]
        split
        · rename_i h3
          subst h3
          rw [if_neg (by omega)]
        · rfl
theorem FrRel.putO {c : Ctx} {w : World} {nt : Nat} {fr : Fr} {a : Act} {d : Option Nat} {x : AV} {v : Value} (hf : FrRel c w nt fr a) (hd : dstOK nt d = true) (hv : VRel c w x v) :
    FrRel c w nt (fr.putO d x) (a.put d v) := by
  cases d with
  | none => exact hf
  | some d =>
    simp only [dstOK, decide_eq_true_eq] at hd
    refine ⟨by simp [Act.put, hf.size], fun t u e => ?_⟩
    simp only [Fr.putO, Fr.get_put] at e
    split at e
    · rename_i h
      subst h
      cases e
      refine ⟨hd, ?_⟩
      simp only [Act.put]
      rw [Array.getD_eq_getD_getElem?, Array.getElem?_setIfInBounds]
      simp [hf.size, hd, hv]
    · rename_i h
      refine ⟨(hf.val t u e).1, ?_⟩
      have := (hf.val t u e).2
      simp only [Act.put]
      rw [Array.getD_eq_getD_getElem?, Array.getElem?_setIfInBounds, if_neg (fun e => h e.symm)]
      rwa [Array.getD_eq_getD_getElem?] at this

/-! ### Constants and operands -/
theorem ofCell_rel (c : Ctx) (w : World) {v : Value} {x : AV} (h : ofCell v = some x) : VRel c w x v := by
  unfold ofCell at h
  split at h <;> first | (cases h; simp [VRel]; done) | (cases h; simp only [VRel]) | cases h
theorem ofCells_rel (c : Ctx) (w : World) : ∀ {vs : List Value} {xs : List AV}, ofCells vs = some xs → VRels c w xs vs
  | [], xs, h => by simp only [ofCells, Option.some.injEq] at h; subst h; simp [VRels]
  | v :: vs, xs, h => by
    simp only [ofCells, Option.bind_eq_some_iff] at h
    obtain ⟨x, hx, ys, hy, h⟩ := h
    cases h
    simp only [VRels]
    exact ⟨v, vs, rfl, ofCell_rel c w hx, ofCells_rel c w hy⟩
theorem ofConst_rel (c : Ctx) (w : World) {v : Value} {x : AV} (h : ofConst v = some x) : VRel c w x v := by
  unfold ofConst at h
  split at h
  · simp only [Option.map_eq_some_iff] at h
    obtain ⟨xs, hx, rfl⟩ := h
    simp only [VRel]
    exact ⟨_, rfl, ofCells_rel c w hx⟩
  · split at h
    · rename_i cs he
      cases h
      simp only [VRel, VRels]
      exact ⟨_, rfl, by simpa using he⟩
    · cases h
  · exact ofCell_rel c w h
theorem ev_rel {E : Env} {w0 : World} {c : Ctx} {H : AHeap} {w : World} {nt : Nat} {fr : Fr} {a : Act} (R : Rel E w0 c H w) (hf : FrRel c w nt fr a) :
    ∀ {x : Operand} {v : AV}, ev E fr x = some v → VRel c w v (a.eval x)
  | .tmp t, v, h => (hf.val t v h).2
  | .const u, v, h => ofConst_rel c w h
  | .global g, v, h => by
    simp only [ev, Option.map_eq_some_iff] at h
    obtain ⟨row, hr, rfl⟩ := h
    exact R.glob g row hr
  | .func f, v, h => by
    simp only [ev] at h
    cases h
    simp only [VRel, VRels]
    exact ⟨#[], rfl, rfl⟩
theorem evs_rel {E : Env} {w0 : World} {c : Ctx} {H : AHeap} {w : World} {nt : Nat} {fr : Fr} {a : Act} (R : Rel E w0 c H w) (hf : FrRel c w nt fr a) :
    ∀ {xs : List Operand} {vs : List AV}, evs E fr xs = some vs → VRels c w vs (xs.map a.eval)
  | [], vs, h => by simp only [evs, Option.some.injEq] at h; subst h; simp [VRels]
  | x :: xs, vs, h => by
    simp only [evs, Option.bind_eq_some_iff, Option.map_eq_some_iff] at h
    obtain ⟨v, hv, ys, hy, rfl⟩ := h
    simp only [VRels, List.map_cons]
    exact ⟨_, _, rfl, ev_rel R hf hv, evs_rel R hf hy⟩
end Go.AM
set_option linter.unusedVariables false
set_option linter.unusedSimpArgs false
namespace Go.AM
open Go Go.RowKit

section lists
variable {c : Ctx} {w : World}
theorem VRels.length : ∀ {xs : List AV} {us : List Value}, VRels c w xs us → us.length = xs.length
  | [], us, h => by simp only [VRels] at h; subst h; rfl
  | x :: xs, us, h => by
    simp only [VRels] at h
    obtain ⟨u, r, rfl, _, h⟩ := h
    simp [h.length]
theorem VRels.get : ∀ {xs : List AV} {us : List Value}, VRels c w xs us → ∀ {i : Nat} {x : AV}, xs[i]? = some x → ∃ u, us[i]? = some u ∧ VRel c w x u
  | [], us, h, i, x, e => by simp at e
  | y :: xs, us, h, i, x, e => by
    simp only [VRels] at h
    obtain ⟨u, r, rfl, hu, h⟩ := h
    cases i with
    | zero => simp at e; subst e; exact ⟨u, rfl, hu⟩
    | succ i => simp at e; simpa using h.get e
theorem VRels.drop : ∀ {xs : List AV} {us : List Value}, VRels c w xs us → ∀ n, VRels c w (xs.drop n) (us.drop n)
  | [], us, h, n => by simp only [VRels] at h; subst h; simp [VRels]
  | y :: xs, us, h, n => by
    simp only [VRels] at h
    obtain ⟨u, r, rfl, hu, h⟩ := h
    cases n with
    | zero => simp only [List.drop_zero, VRels]; exact ⟨u, r, rfl, hu, h⟩
    | succ n => simpa using h.drop n
theorem VRels.take : ∀ {xs : List AV} {us : List Value}, VRels c w xs us → ∀ n, VRels c w (xs.take n) (us.take n)
  | [], us, h, n => by simp only [VRels] at h; subst h; simp [VRels]
  | y :: xs, us, h, n => by
    simp only [VRels] at h
    obtain ⟨u, r, rfl, hu, h⟩ := h
    cases n with
    | zero => simp [VRels]
    | succ n => simp only [List.take_succ_cons, VRels]; exact ⟨u, _, rfl, hu, h.take n⟩
theorem VRels.append : ∀ {xs : List AV} {us : List Value} {ys : List AV} {vs : List Value}, VRels c w xs us → VRels c w ys vs → VRels c w (xs ++ ys) (us ++ vs)
  | [], us, ys, vs, h, k => by simp only [VRels] at h; subst h; simpa using k
  | x :: xs, us, ys, vs, h, k => by
    simp only [VRels] at h
    obtain ⟨u, r, rfl, hu, h⟩ := h
    simp only [List.cons_append, VRels]
    exact ⟨u, _, rfl, hu, h.append k⟩
theorem VRels.set : ∀ {xs : List AV} {us : List Value}, VRels c w xs us → ∀ {i : Nat} {x : AV} {u : Value}, VRel c w x u → VRels c w (xs.set i x) (us.set i u)
  | [], us, h, i, x, u, k => by simp only [VRels] at h; subst h; simp [VRels]
  | y :: xs, us, h, i, x, u, k => by
    simp only [VRels] at h
    obtain ⟨z, r, rfl, hu, h⟩ := h
    cases i with
    | zero => simp only [List.set_cons_zero, VRels]; exact ⟨u, r, rfl, k, h⟩
    | succ i => simp only [List.set_cons_succ, VRels]; exact ⟨z, _, rfl, hu, h.set k⟩
theorem VRels.split : ∀ {xs ys : List AV} {us : List Value}, VRels c w (xs ++ ys) us → VRels c w xs (us.take xs.length) ∧ VRels c w ys (us.drop xs.length) := by
  intro xs ys us h
  have h1 := h.take xs.length
  have h2 := h.drop xs.length
  simp only [List.take_left', List.drop_left'] at h1 h2
  exact ⟨h1, h2⟩
theorem VRels.replicate {x : AV} {u : Value} (h : VRel c w x u) : ∀ n, VRels c w (List.replicate n x) (List.replicate n u)
  | 0 => by simp [VRels]
  | n + 1 => by simp only [List.replicate_succ, VRels]; exact ⟨u, _, rfl, h, VRels.replicate h n⟩

theorem VRelss.flat : ∀ {rows : List (List AV)} {us : List Value}, VRelss c w rows us → VRels c w rows.flatten (us.take rows.flatten.length)
  | [], us, h => by simp [VRels]
  | r :: rs, us, h => by
    simp only [VRelss] at h
    have h2 := h.2.flat
    have hl := h.1.length
    simp only [List.length_take] at hl
    have := h.1.append h2
    simp only [List.flatten_cons, List.length_append]
    rw [List.take_add]
    exact this
theorem VRelss.of_flat : ∀ {rows : List (List AV)} {us : List Value}, VRels c w rows.flatten (us.take rows.flatten.length) → VRelss c w rows us
  | [], us, h => by simp [VRelss]
  | r :: rs, us, h => by
    simp only [List.flatten_cons, List.length_append] at h
    simp only [VRelss]
    obtain ⟨h1, h2⟩ := h.split
    refine ⟨by rw [List.take_take] at h1; rwa [Nat.min_eq_left (by omega)] at h1, VRelss.of_flat ?_⟩
    rw [List.drop_take] at h2
    rwa [show r.length + rs.flatten.length - r.length = rs.flatten.length from by omega] at h2
theorem flatten_len {rows : List (List AV)} {sz : Nat} (h : ∀ row, row ∈ rows → row.length = sz) : rows.flatten.length = rows.length * sz := by
  induction rows with
  | nil => simp
  | cons r rs ih =>
    simp only [List.flatten_cons, List.length_append, List.length_cons]
    rw [ih (fun row hr => h row (List.mem_cons_of_mem _ hr)), h r (List.mem_cons_self ..), Nat.add_mul, Nat.one_mul, Nat.add_comm]
theorem VRelss.get : ∀ {rows : List (List AV)} {us : List Value} {sz : Nat}, VRelss c w rows us → (∀ row, row ∈ rows → row.length = sz) → ∀ {i : Nat} {row : List AV}, rows[i]? = some row →
    VRels c w row ((us.drop (i * sz)).take sz)
  | [], us, sz, h, hs, i, row, e => by simp at e
  | r :: rs, us, sz, h, hs, i, row, e => by
    simp only [VRelss] at h
    have hr : r.length = sz := hs r (List.mem_cons_self ..)
    cases i with
    | zero =>
      simp at e
      subst e
      simpa [hr] using h.1
    | succ i =>
      simp at e
      have := VRelss.get h.2 (fun row hm => hs row (List.mem_cons_of_mem _ hm)) e
      rw [List.drop_drop, hr] at this
      rwa [show sz + i * sz = (i + 1) * sz from by rw [Nat.add_mul]; omega] at this
theorem VRelss.drop : ∀ {rows : List (List AV)} {us : List Value} {sz : Nat}, VRelss c w rows us → (∀ row, row ∈ rows → row.length = sz) → ∀ n, VRelss c w (rows.drop n) (us.drop (n * sz))
  | [], us, sz, h, hs, n => by simp [VRelss]
  | r :: rs, us, sz, h, hs, n => by
    cases n with
    | zero => simpa using h
    | succ n =>
      simp only [VRelss] at h
      have hr : r.length = sz := hs r (List.mem_cons_self ..)
      have := VRelss.drop h.2 (fun row hm => hs row (List.mem_cons_of_mem _ hm)) n
      rw [List.drop_drop, hr] at this
      rw [show sz + n * sz = (n + 1) * sz from by rw [Nat.add_mul]; omega] at this
      simpa using this
theorem VRelss.take : ∀ {rows : List (List AV)} {us : List Value}, VRelss c w rows us → ∀ n, VRelss c w (rows.take n) us
  | [], us, h, n => by simp [VRelss]
  | r :: rs, us, h, n => by
    cases n with
    | zero => simp [VRelss]
    | succ n =>
      simp only [VRelss] at h
      simp only [List.take_succ_cons, VRelss]
      exact ⟨h.1, h.2.take n⟩
end lists

theorem addr_add (b o n : Nat) : (⟨b, o, none⟩ : Addr).add n = ⟨b, o + n, none⟩ := by
  unfold Addr.add
  split
  · rename_i h; subst h; rfl
  · rfl
theorem cell_at {w : World} {b : Nat} {cs : Array Value} {t : TypeId} {fr : Nat × Nat} (h : w.heap[b]? = some (.cells cs t fr)) (j : Nat) : w.cell? ⟨b, j, none⟩ = cs[j]? := cell_of_row w b j cs t fr h
/-- Cells of a row, read. -/
theorem loadCells_row {P : Program} {w : World} {b o : Nat} {cs : Array Value} {t : TypeId} {fr : Nat × Nat} (h : w.heap[b]? = some (.cells cs t fr)) {us : List Value} (n : Nat) (hn : us.length = n)
    (hus : us = (cs.toList.drop o).take n) : (loadCells ⟨b, o, none⟩ n).run P w = .ok us.toArray w := by
  subst hn
  refine run_loadCells_list (P := P) w ⟨b, o, none⟩ us (fun j v hv => ?_)
  rw [addr_add, cell_at h]
  have hj : j < us.length := (List.getElem?_eq_some_iff.1 hv).1
  rw [hus, List.getElem?_take, if_pos hj, List.getElem?_drop] at hv
  simpa using hv
theorem run_isAgg {P : Program} {w : World} {t : TypeId} {g : Bool} (h : aggT P t = some g) : (isAgg t).run P w = .ok g w := by
  unfold aggT at h
  unfold isAgg
  split at h
  all_goals first | cases h | (rename_i d _; cases h)
  · rename_i hu; simp [run_underlying hu]
  · rename_i hu; simp [run_underlying hu]
  · rename_i d h1 h2 hu
    rw [Sem.run_bind, run_underlying hu]
    simp only [Result.andThen_ok]
    first | rfl | (split <;> simp_all)
theorem run_szT {P : Program} {w : World} {t : TypeId} {n : Nat} (h : szT P t = some n) : (Go.sizeOf t).run P w = .ok n w := by
  simp only [szT, Option.map_eq_some_iff] at h
  obtain ⟨i, hi, rfl⟩ := h
  simp [sizeOf, typeInfo, hi]
theorem VRel.agg_of {c : Ctx} {w : World} {xs : List AV} {us : List Value} (h : VRels c w xs us) : VRel c w (.agg xs) (.agg us.toArray) := by
  simp only [VRel]; exact ⟨_, rfl, by simpa using h⟩
theorem VRel.tup_of {c : Ctx} {w : World} {xs : List AV} {us : List Value} (h : VRels c w xs us) : VRel c w (.tup xs) (.tuple us.toArray) := by
  simp only [VRel]; exact ⟨_, rfl, by simpa using h⟩
theorem cut_rel {c : Ctx} {w : World} {P : Program} {t : TypeId} {g : Bool} {n off : Nat} {row : List AV} {v : AV} {b o : Nat} {cs : Array Value} {ty : TypeId} {fr : Nat × Nat}
    (hg : aggT P t = some g) (hn : szT P t = some n) (hh : w.heap[b]? = some (.cells cs ty fr)) (hr : VRels c w row ((cs.toList.drop o).take row.length)) (hc : cut g n off row = some v) :
    ∃ u, (loadVar t ⟨b, o + off, none⟩).run P w = .ok u w ∧ VRel c w v u := by
  unfold cut at hc
  unfold loadVar
  rw [Sem.run_bind, run_isAgg hg]
  simp only [Result.andThen_ok]
  split at hc
  · rename_i hgt
    subst hgt
    split at hc
    · rename_i hle
      cases hc
      have hl : ((cs.toList.drop o).take row.length).length = row.length := hr.length
      have h2 := (hr.drop off).take n
      have heq : ((((cs.toList.drop o).take row.length).drop off).take n) = (cs.toList.drop (o + off)).take n := by
        rw [List.drop_take, List.take_take, List.drop_drop, Nat.min_eq_left (by omega)]
      rw [heq] at h2
      refine ⟨_, ?_, VRel.agg_of h2⟩
      have hl2 := h2.length
      simp only [if_true, Sem.run_bind, run_szT hn, Result.andThen_ok]
      rw [loadCells_row hh n (by rw [hl2, List.length_take, List.length_drop]; omega) rfl]
      simp
    · cases hc
  · rename_i hgf
    have hgf' : g = false := by simpa using hgf
    subst hgf'
    obtain ⟨u, hu, hv⟩ := hr.get hc
    refine ⟨u, ?_, hv⟩
    have : w.cell? ⟨b, o + off, none⟩ = some u := by
      rw [cell_at hh]
      rw [List.getElem?_take] at hu
      split at hu
      · rw [List.getElem?_drop] at hu; simpa using hu
      · cases hu
    simp [this]
end Go.AM
set_option linter.unusedVariables false
set_option linter.unusedSimpArgs false
namespace Go.AM
open Go Go.RowKit

section
variable {E : Env} {w0 : World} {c : Ctx} {H : AHeap} {w : World}

/-- A mutable block's row. -/
theorem rows_rel (R : Rel E w0 c H w) {id sz : Nat} {rows : List (List AV)} (h : H.rows id = some (sz, rows)) :
    ∃ l cs t, c.rho id = some l ∧ H.get id = some (.cells sz rows) ∧ ¬ c.I l.blk ∧ l.blk < w.heap.size ∧ sz = l.sz ∧ (∀ row, row ∈ rows → row.length = l.sz) ∧ w.heap[l.blk]? = some (.cells cs t (0, 0)) ∧ cs.size = l.tot ∧
      l.base + rows.length * l.sz ≤ l.tot ∧ VRelss c w rows (cs.toList.drop l.base) := by
  unfold AHeap.rows at h
  split at h
  · rename_i sz' rows' hg
    cases h
    obtain ⟨l, hl, hI, hlt, hb⟩ := R.live id _ hg
    obtain ⟨h1, h2, cs, t, h3, h4, h5, h6⟩ := hb
    exact ⟨l, cs, t, hl, hg, hI, hlt, h1, h2, h3, h4, h5, h6⟩
  · cases h

theorem rowAt_rel (R : Rel E w0 c H w) {a : AV} {v : Value} {row : List AV} {off : Nat} (hv : VRel c w a v) (h : rowAt H a = some (row, off)) :
    ∃ b o cs t fr, v = .pointer (some ⟨b, o + off, none⟩) ∧ w.heap[b]? = some (.cells cs t fr) ∧ VRels c w row ((cs.toList.drop o).take row.length) := by
  unfold rowAt at h
  split at h
  · cases h
    simp only [VRel] at hv
    obtain ⟨b, o, cs, t, fr, h1, _, h2, h3⟩ := hv
    exact ⟨b, o, cs, t, fr, h1, h2, h3⟩
  · rename_i id r off'
    simp only [Option.bind_eq_some_iff, Option.map_eq_some_iff] at h
    obtain ⟨⟨sz, rows⟩, hb, row', hr, he⟩ := h
    cases he
    simp only [VRel] at hv
    obtain ⟨l, hl, rfl⟩ := hv
    obtain ⟨l', cs, t, hl', _, _, _, h1, h2, h3, h4, h5, h6⟩ := rows_rel R hb
    rw [hl] at hl'
    cases hl'
    have hg := h6.get h2 hr
    refine ⟨l.blk, l.base + r * l.sz, cs, t, _, rfl, h3, ?_⟩
    rw [List.drop_drop] at hg
    rwa [h2 _ (List.mem_of_getElem? hr)]
  · cases h

theorem aload_rel (R : Rel E w0 c H w) {t : Nat} {a v : AV} {u : Value} (hu : VRel c w a u) (h : aload E.P H t a = some v) :
    ∃ x, (Instr.loadAt t u).run E.P w = .ok x w ∧ VRel c w v x := by
  unfold aload at h
  simp only [Option.bind_eq_some_iff] at h
  obtain ⟨g, hg, n, hn, ⟨row, off⟩, hr, hc⟩ := h
  obtain ⟨b, o, cs, ty, fr, rfl, hh, hrow⟩ := rowAt_rel R hu hr
  obtain ⟨x, hx, hv⟩ := cut_rel hg hn hh hrow hc
  exact ⟨x, by simp [Instr.loadAt, Instr.sureAddr, hx], hv⟩

theorem apart_rel {P : Program} {t off : Nat} {cs : List AV} {us : Array Value} {v : AV} (hs : VRels c w cs us.toList) (h : apart P t cs off = some v) :
    ∃ x, (part t us off).run P w = .ok x w ∧ VRel c w v x := by
  unfold apart at h
  simp only [Option.bind_eq_some_iff] at h
  obtain ⟨g, hg, n, hn, hc⟩ := h
  unfold part
  rw [Sem.run_bind, run_isAgg hg]
  simp only [Result.andThen_ok]
  unfold cut at hc
  split at hc
  · rename_i hgt
    subst hgt
    split at hc
    · rename_i hle
      cases hc
      simp only [if_true, Sem.run_bind, run_szT hn, Result.andThen_ok, Sem.run_pure]
      refine ⟨_, rfl, ?_⟩
      have h2 := (hs.drop off).take n
      simp only [VRel]
      refine ⟨_, rfl, ?_⟩
      have : (us.extract off (off + n)).toList = (us.toList.drop off).take n := by
        simp [List.extract_eq_take_drop]
      rw [this]
      exact h2
    · cases hc
  · rename_i hgf
    have hgf' : g = false := by simpa using hgf
    subst hgf'
    obtain ⟨u, hu, hv⟩ := hs.get hc
    have hu' : us[off]? = some u := by simpa using hu
    simp only [Bool.false_eq_true, if_false, hu', Sem.run_pure]
    exact ⟨u, rfl, hv⟩

theorem afield_rel {P : Program} {s f : Nat} {x v : AV} {u : Value} (hu : VRel c w x u) (h : afield P s x f = some v) :
    ∃ y, (Instr.field s u f).run P w = .ok y w ∧ VRel c w v y := by
  unfold afield at h
  split at h
  · rename_i fs cs hs
    simp only [VRel] at hu
    obtain ⟨us, rfl, hus⟩ := hu
    simp only [Option.bind_eq_some_iff] at h
    obtain ⟨fd, hfd, h⟩ := h
    obtain ⟨y, hy, hv⟩ := apart_rel hus h
    exact ⟨y, by simp [Instr.field, run_underlying hs, hfd, asAgg, hy], hv⟩
  · cases h

theorem afieldAddr_rel {P : Program} {s f : Nat} {x v : AV} {u : Value} (hu : VRel c w x u) (h : afieldAddr P s x f = some v) :
    ∃ y, (Instr.fieldAt s u f).run P w = .ok y w ∧ VRel c w v y := by
  unfold afieldAddr at h
  split at h
  · rename_i fs hs
    simp only [Option.bind_eq_some_iff] at h
    obtain ⟨fd, hfd, n, hn, h⟩ := h
    split at h
    · cases h
    · rename_i hn0
      split at h
      · rename_i row off
        cases h
        simp only [VRel] at hu ⊢
        obtain ⟨b, o, cs, t, fr, rfl, h1, h2, h3⟩ := hu
        refine ⟨_, ?_, b, o, cs, t, fr, rfl, h1, h2, h3⟩
        simp [Instr.fieldAt, run_underlying hs, hfd, Instr.sureAddr, fieldPlace, run_szT hn, hn0, addr_add, Nat.add_assoc]
      · rename_i id r off
        cases h
        simp only [VRel] at hu ⊢
        obtain ⟨l, h1, rfl⟩ := hu
        refine ⟨_, ?_, l, h1, rfl⟩
        simp [Instr.fieldAt, run_underlying hs, hfd, Instr.sureAddr, fieldPlace, run_szT hn, hn0, addr_add, Nat.add_assoc]
      · cases h
  · cases h

theorem aindexAddr_rel (R : Rel E w0 c H w) {t : Nat} {x i v : AV} {u j : Value} (hu : VRel c w x u) (hi : VRel c w i j) (h : aindexAddr E.P H t x i = some v) :
    ∃ y, (Instr.indexAt t u j).run E.P w = .ok y w ∧ VRel c w v y := by
  unfold aindexAddr at h
  split at h
  · rename_i k n
    simp only [VRel] at hi
    subst hi
    split at h
    · rename_i e rows cap hs
      simp only [Option.bind_eq_some_iff] at h
      obtain ⟨m, hm, h⟩ := h
      split at h
      · rename_i h0
        simp only [Option.bind_eq_some_iff] at h
        obtain ⟨row, hrow, h⟩ := h
        split at h
        · rename_i hlen
          cases h
          simp only [VRel] at hu
          obtain ⟨a, kk, rfl, hcap, hk, hc⟩ := hu
          have hlt : n.toNat < rows.length := (List.getElem?_eq_some_iff.1 hrow).1
          rcases hc with hc | ⟨cs, ty, fr, sz, hsp, hI, hh, hsz, hrel⟩
          · subst hc; simp at hlt
          · obtain ⟨b, o, sp⟩ := a
            simp only at hsp hI hh hrel
            subst hsp
            have hszm : sz = m := by rw [← hsz row (List.mem_of_getElem? hrow)]; exact hlen
            subst hszm
            have hg := hrel.get hsz hrow
            refine ⟨.pointer (some ⟨b, o + n.toNat * sz, none⟩), ?_, ?_⟩
            · have h1 : 0 ≤ n ∧ n < (rows.length : Int) := ⟨h0, by omega⟩
              simp only [Instr.indexAt, asIntOf, Sem.run_bind, Sem.run_pure, Result.andThen_ok, run_underlying hs]
              simp only [h1, if_true, and_self, Sem.run_bind, run_szT hm, Result.andThen_ok, Sem.run_pure, addr_add]
            · simp only [VRel]
              refine ⟨b, o + n.toNat * sz, cs, ty, fr, by simp, hI, hh, ?_⟩
              rw [List.drop_drop] at hg
              rwa [hlen]
        · cases h
      · cases h
    · rename_i e id lo len cap hs
      simp only [Option.bind_eq_some_iff] at h
      obtain ⟨m, hm, ⟨sz, rows⟩, hb, h⟩ := h
      split at h
      · rename_i hc
        obtain ⟨hsz, h0, hlt⟩ := hc
        cases h
        simp only [VRel] at hu
        obtain ⟨l, a, kk, hl, rfl, hcap, hk, hc⟩ := hu
        obtain ⟨l', cs, ty, hl', _, _, _, hsz', _⟩ := rows_rel R hb
        rw [hl] at hl'
        cases hl'
        simp only at hsz
        subst hsz
        rcases hc with hc | ⟨rfl, _⟩
        · omega
        · refine ⟨.pointer (some ⟨l.blk, l.base + lo * l.sz + n.toNat * l.sz, none⟩), ?_, ?_⟩
          · have h1 : 0 ≤ n ∧ n < (len : Int) := ⟨h0, hlt⟩
            simp only [Instr.indexAt, asIntOf, Sem.run_bind, Sem.run_pure, Result.andThen_ok, run_underlying hs]
            simp only [h1, if_true, and_self, Sem.run_bind, run_szT hm, Result.andThen_ok, Sem.run_pure, addr_add, hsz']
          · simp only [VRel]
            refine ⟨l, hl, ?_⟩
            rw [Nat.add_zero, Nat.add_mul, Nat.add_assoc]
      · cases h
    · rename_i len e row off hs
      simp only [Option.bind_eq_some_iff] at h
      obtain ⟨m, hm, h⟩ := h
      split at h
      · rename_i hlt
        cases h
        simp only [VRel] at hu
        obtain ⟨b, o, cs, ty, fr, rfl, h1, h2, h3⟩ := hu
        refine ⟨.pointer (some ⟨b, o + off + n.toNat * m, none⟩), ?_, ?_⟩
        · simp only [Instr.indexAt, asIntOf, Sem.run_bind, Sem.run_pure, Result.andThen_ok, run_underlying hs, Instr.sureAddr]
          simp only [hlt, if_true, and_self, Sem.run_bind, run_szT hm, Result.andThen_ok, Sem.run_pure, addr_add]
        · simp only [VRel]
          exact ⟨b, o, cs, ty, fr, by rw [Nat.add_assoc], h1, h2, h3⟩
      · cases h
    · rename_i len e id r off hs
      simp only [Option.bind_eq_some_iff] at h
      obtain ⟨m, hm, h⟩ := h
      split at h
      · rename_i hlt
        cases h
        simp only [VRel] at hu
        obtain ⟨l, hl, rfl⟩ := hu
        refine ⟨.pointer (some ⟨l.blk, l.base + r * l.sz + off + n.toNat * m, none⟩), ?_, ?_⟩
        · simp only [Instr.indexAt, asIntOf, Sem.run_bind, Sem.run_pure, Result.andThen_ok, run_underlying hs, Instr.sureAddr]
          simp only [hlt, if_true, and_self, Sem.run_bind, run_szT hm, Result.andThen_ok, Sem.run_pure, addr_add]
        · simp only [VRel]
          exact ⟨l, hl, by rw [Nat.add_assoc (l.base + r * l.sz)]⟩
      · cases h
    · cases h
  · cases h

theorem aindex_rel {P : Program} {t : Nat} {x i v : AV} {u j : Value} (hu : VRel c w x u) (hi : VRel c w i j) (h : aindex P t x i = some v) :
    ∃ y, (Instr.index t u j).run P w = .ok y w ∧ VRel c w v y := by
  unfold aindex at h
  split at h
  · rename_i k n
    simp only [VRel] at hi
    subst hi
    split at h
    · rename_i s hs
      simp only [VRel] at hu
      subst hu
      split at h
      · rename_i h0
        simp only [Option.map_eq_some_iff] at h
        obtain ⟨b, hb, rfl⟩ := h
        refine ⟨.int .u8 b.toNat, ?_, by simp [VRel]⟩
        have hb' : (ByteArray.mk s.toArray)[n.toNat]? = some b := by
          have hlt := (List.getElem?_eq_some_iff.1 hb).1
          rw [getElem?_pos (ByteArray.mk s.toArray) n.toNat (by show _ < s.toArray.size; simpa using hlt)]
          have := (List.getElem?_eq_some_iff.1 hb).2
          simp only [Option.some.injEq]
          rw [← this]; rfl
        simp only [Instr.index, asIntOf, Sem.run_bind, Sem.run_pure, Result.andThen_ok, run_underlying hs, h0, if_true, hb']
      · cases h
    · rename_i len e cs hs
      simp only [Option.bind_eq_some_iff] at h
      obtain ⟨m, hm, h⟩ := h
      split at h
      · rename_i hlt
        simp only [VRel] at hu
        obtain ⟨us, rfl, hus⟩ := hu
        obtain ⟨y, hy, hv⟩ := apart_rel hus h
        exact ⟨y, by simp only [Instr.index, asIntOf, Sem.run_bind, Sem.run_pure, Result.andThen_ok, run_underlying hs, hlt, if_true, and_self, run_szT hm, hy], hv⟩
      · cases h
    · cases h
  · cases h
end
end Go.AM
set_option linter.unusedVariables false
set_option linter.unusedSimpArgs false
namespace Go.AM
open Go Go.RowKit

def scal : AV → Value
  | .bool b => .bool b
  | .int k n => .int k n
  | .str s => .string ⟨s.toArray⟩
  | _ => undef
theorem intBin_rel {c : Ctx} {w : World} {P : Program} {op : BinOp} {k : IntKind} {a b : Int} {v : AV} {t : Nat} (h : intBin op k a b = some v) (hs1 : op ≠ .shl) (hs2 : op ≠ .shr) :
    ∃ y, (binOp op t (.int k a) (.int k b)).run P w = .ok y w ∧ VRel c w v y := by
  refine ⟨scal v, ?_⟩
  unfold intBin at h
  split at h
  all_goals first
    | (cases h; constructor <;> simp [binOp, Op.intArith, Op.intBits, Op.intCmp, scal, VRel]; done)
    | (split at h
       · cases h
       · rename_i hb
         cases h
         constructor <;> simp [binOp, Op.intDiv, hb, scal, VRel])
    | cases h
theorem shBin_rel {c : Ctx} {w : World} {P : Program} {op : BinOp} {k k' : IntKind} {a b : Int} {v : AV} {t : Nat} (h : shBin op k a b = some v) :
    ∃ y, (binOp op t (.int k a) (.int k' b)).run P w = .ok y w ∧ VRel c w v y := by
  refine ⟨scal v, ?_⟩
  unfold shBin at h
  split at h
  · cases h
  · rename_i hb
    split at h
    all_goals first
      | cases h; done
      | (cases h
         constructor <;> simp [binOp, Op.shift, hb, scal, VRel])
theorem toList_mk (x : List UInt8) : (ByteArray.mk x.toArray).toList = x := by rw [ByteArray.toList_eq]
theorem append_mk (x y : List UInt8) : (ByteArray.mk x.toArray) ++ (ByteArray.mk y.toArray) = ByteArray.mk (x ++ y).toArray := by
  apply ByteArray.ext
  simp
theorem size_mk (x : List UInt8) : (ByteArray.mk x.toArray).size = x.length := by show x.toArray.size = _; simp
theorem strBin_rel {c : Ctx} {w : World} {P : Program} {op : BinOp} {x y : List UInt8} {v : AV} {t : Nat} (h : strBin op x y = some v) :
    ∃ u, (binOp op t (.string ⟨x.toArray⟩) (.string ⟨y.toArray⟩)).run P w = .ok u w ∧ VRel c w v u := by
  have hm : IntKind.max IntKind.i64 = 9223372036854775807 := by decide
  refine ⟨scal v, ?_⟩
  unfold strBin at h
  split at h
  all_goals first
    | (cases h; constructor <;> simp [binOp, Op.stringOp, toList_mk, scal, VRel]; done)
    | (split at h
       · rename_i hl
         cases h
         have h2 : ¬ ((((ByteArray.mk x.toArray).size + (ByteArray.mk y.toArray).size : Nat) : Int) > IntKind.max IntKind.i64) := by
           rw [hm, size_mk, size_mk]; omega
         constructor
         · simp only [binOp, Op.stringOp, scal]
           rw [if_neg h2, append_mk]
           rfl
         · simp [scal, VRel]
       · cases h)
    | cases h

/-! ### '==' by the type -/
def aeqFields (P : Program) (eqd : Nat → AV → AV → Option Bool) (xs ys : List AV) : List Field → Option Bool
  | [] => some true
  | f :: fs =>
    if f.name ≠ "_" then
      (apart P f.type xs f.offset).bind fun a => (apart P f.type ys f.offset).bind fun b => (eqd f.type a b).bind fun e => if e = true then aeqFields P eqd xs ys fs else some false
    else aeqFields P eqd xs ys fs
theorem aeq_fields (P : Program) (d : Nat) (xs ys : List AV) (fs : List Field) :
    fs.foldr (fun f (acc : Unit → Option Bool) => fun _ =>
        if f.name ≠ "_" then
          (apart P f.type xs f.offset).bind fun a => (apart P f.type ys f.offset).bind fun b =>
            (aeq P d f.type a b).bind fun e => if e = true then acc () else some false
        else acc ()) (fun _ => some true) () = aeqFields P (aeq P d) xs ys fs := by
  induction fs with
  | nil => rfl
  | cons f fs ih => simp only [List.foldr_cons, aeqFields, ih]
theorem fieldsOf_eq {P : Program} {t : Nat} {fs : Array Field} (h : P.underlying t = some (.struct fs)) : P.fieldsOf t = fs := by simp [Program.fieldsOf, h]
theorem beq_mk (a b : List UInt8) : ((ByteArray.mk a.toArray) == (ByteArray.mk b.toArray)) = (a == b) := by rw [beq_toListBytes, toList_mk, toList_mk]
set_option maxHeartbeats 4000000 in
theorem aeq_rel {c : Ctx} {w : World} {P : Program} : ∀ (d t : Nat) (x y : AV) (u v : Value) (r : Bool), VRel c w x u → VRel c w y v → aeq P d t x y = some r → (Op.equalIn d t u v).run P w = .ok r w := by
  intro d
  induction d with
  | zero => intro t x y u v r _ _ h; cases h
  | succ d ih =>
    intro t x y u v r hx hy h
    simp only [aeq] at h
    split at h
    case h_23 fs xs ys ht =>
      split at h
      · cases h
      · rename_i hst
        rw [aeq_fields] at h
        simp only [VRel] at hx hy
        obtain ⟨us, rfl, hus⟩ := hx
        obtain ⟨vs, rfl, hvs⟩ := hy
        rw [run_equalIn_struct w d t us vs (by rw [ht, fieldsOf_eq ht]) (by simpa using hst), fieldsOf_eq ht]
        generalize fs.toList = l at h
        clear ht
        induction l generalizing r with
        | nil => simp only [aeqFields] at h; cases h; simp [Op.eqFields]
        | cons f fs ihl =>
          simp only [aeqFields] at h
          simp only [Op.eqFields]
          split at h
          · rename_i hname
            simp only [Option.bind_eq_some_iff] at h
            obtain ⟨a, ha, b, hb, e, he, h⟩ := h
            obtain ⟨a', ha', hra⟩ := apart_rel hus ha
            obtain ⟨b', hb', hrb⟩ := apart_rel hvs hb
            rw [if_pos hname]
            simp only [Sem.run_bind, ha', hb', Result.andThen_ok, ih f.type a b a' b' e hra hrb he]
            cases e with
            | true => simp only [if_true] at h; simp only [Bool.not_true, Bool.false_eq_true, if_false]; exact ihl r h
            | false => simp only [Bool.false_eq_true, if_false] at h; cases h; simp
          · rename_i hname
            rw [if_neg hname]
            exact ihl r h
    all_goals first
      | cases h; done
      | (rename_i ht
         first
           | (cases h
              simp only [VRel] at hx hy
              first | subst hx | skip
              first | subst hy | skip
              simp [Op.equalIn, run_underlying ht, beq_mk]; done)
           | (split at h
              · rename_i hk
                cases h
                simp only [VRel] at hx hy
                subst hx; subst hy
                simp [Op.equalIn, run_underlying ht, hk]
              · cases h)
           | (cases h
              simp only [VRel] at hx hy
              obtain ⟨_, _, _, _, _, _, rfl, _⟩ := hx
              subst hy
              simp [Op.equalIn, run_underlying ht]; done)
           | (cases h
              simp only [VRel] at hx hy
              obtain ⟨_, _, _, _, _, rfl, _⟩ := hx
              subst hy
              simp [Op.equalIn, run_underlying ht]; done)
           | (cases h
              simp only [VRel] at hx hy
              obtain ⟨_, _, _, _, rfl, _⟩ := hx
              subst hy
              simp [Op.equalIn, run_underlying ht]; done)
           | (cases h
              simp only [VRel] at hx hy
              obtain ⟨_, _, _, rfl, _⟩ := hx
              subst hy
              simp [Op.equalIn, run_underlying ht]; done)
           | (cases h
              simp only [VRel] at hx hy
              obtain ⟨_, _, rfl⟩ := hx
              subst hy
              simp [Op.equalIn, run_underlying ht]; done)
           | (cases h
              simp only [VRel] at hx hy
              obtain ⟨_, _, rfl, _⟩ := hx
              subst hy
              simp [Op.equalIn, run_underlying ht]; done)
           | (cases h
              simp only [VRel] at hx hy
              obtain ⟨_, rfl, _⟩ := hx
              subst hy
              simp [Op.equalIn, run_underlying ht]; done)
           | (cases h
              simp only [VRel] at hx hy
              subst hx
              obtain ⟨_, _, _, _, _, rfl, _⟩ := hy
              simp [Op.equalIn, run_underlying ht]; done)
           | (cases h
              simp only [VRel] at hx hy
              subst hx
              obtain ⟨_, _, _, _, rfl, _⟩ := hy
              simp [Op.equalIn, run_underlying ht]; done)
           | (cases h
              simp only [VRel] at hx hy
              subst hx
              obtain ⟨_, _, _, rfl, _⟩ := hy
              simp [Op.equalIn, run_underlying ht]; done)
           | (cases h
              simp only [VRel] at hx hy
              subst hx
              obtain ⟨_, _, rfl⟩ := hy
              simp [Op.equalIn, run_underlying ht]; done)
           | (cases h
              simp only [VRel] at hx hy
              subst hx
              obtain ⟨_, _, rfl, _⟩ := hy
              simp [Op.equalIn, run_underlying ht]; done)
           | (cases h
              simp only [VRel] at hx hy
              subst hx
              obtain ⟨_, rfl, _⟩ := hy
              simp [Op.equalIn, run_underlying ht]; done))
end Go.AM
set_option linter.unusedVariables false
set_option linter.unusedSimpArgs false
namespace Go.AM
open Go Go.RowKit

theorem lookupB_append (l : List (Nat × ABlk)) (i k : Nat) (b : ABlk) : lookupB (l ++ [(k, b)]) i = match lookupB l i with | some x => some x | none => if i = k then some b else none := by
  induction l with
  | nil => simp [lookupB]
  | cons p r ih =>
    obtain ⟨j, x⟩ := p
    simp only [List.cons_append, lookupB]
    split
    · rfl
    · exact ih
theorem AHeap.get_add (H : AHeap) (b : ABlk) (i : Nat) : (H.add b).get i = match H.get i with | some x => some x | none => if i = H.next then some b else none := lookupB_append H.blks i H.next b
theorem AHeap.get_add_new (H : AHeap) (b : ABlk) (h : H.get H.next = none) : (H.add b).get H.next = some b := by rw [get_add, h]; simp
theorem lookupB_removeB (l : List (Nat × ABlk)) (i k : Nat) : lookupB (removeB l k) i = if i = k then none else lookupB l i := by
  induction l with
  | nil => simp [removeB, lookupB]
  | cons p r ih =>
    obtain ⟨j, x⟩ := p
    simp only [removeB]
    split
    · rename_i h
      subst h
      rw [ih]
      split
      · rfl
      · rename_i h2; simp [lookupB, h2]
    · rename_i h
      simp only [lookupB]
      split
      · rename_i h2
        subst h2
        rw [if_neg (fun e => h e.symm)]
      · exact ih
theorem AHeap.get_free (H : AHeap) (k i : Nat) : (H.free k).get i = if i = k then none else H.get i := lookupB_removeB H.blks i k
theorem lookupB_setB (l : List (Nat × ABlk)) (i k : Nat) (b : ABlk) : lookupB (setB l k b) i = if i = k then (lookupB l k).map fun _ => b else lookupB l i := by
  induction l with
  | nil => simp [setB, lookupB]
  | cons p r ih =>
    obtain ⟨j, x⟩ := p
    simp only [setB]
    split
    · rename_i h
      subst h
      simp only [lookupB]
      split
      · rename_i h2; simp
      · rfl
    · rename_i h
      simp only [lookupB]
      split
      · rename_i h2
        subst h2
        rw [if_neg (fun e => h e.symm)]
      · rw [ih]
theorem AHeap.get_set (H : AHeap) (k i : Nat) (b : ABlk) : (H.set k b).get i = if i = k then (H.get k).map fun _ => b else H.get i := lookupB_setB H.blks i k b

section
variable {E : Env} {w0 : World} {c : Ctx} {H : AHeap} {w w' : World}

theorem BRel.mono {E : Env} {c c' : Ctx} {w w' : World} {l : Loc} {blk : ABlk} (hr : ∀ id x, c.rho id = some x → c'.rho id = some x) (hi : ∀ b, c.I b → c'.I b) (hk : ∀ b, c.I b → w'.heap[b]? = w.heap[b]?)
    (hl : w'.heap[l.blk]? = w.heap[l.blk]?) (h : BRel E c w l blk) : BRel E c' w' l blk := by
  cases blk with
  | cells sz rows =>
    obtain ⟨h1, h2, cs, t, h3, h4, h5, h6⟩ := h
    exact ⟨h1, h2, cs, t, hl.trans h3, h4, h5, VRelss.mono hr hi hk _ _ h6⟩
  | map es => exact h
  | loop st pend fn nt fr ps asg body =>
    obtain ⟨f', tmps, d, asgC, bodyC, h1, ⟨h2, h3⟩, h4⟩ := h
    exact ⟨f', tmps, d, asgC, bodyC, hl.trans h1, ⟨h2, fun t v e => ⟨(h3 t v e).1, VRel.mono hr hi hk _ _ (h3 t v e).2⟩⟩, h4⟩
  | dfr => exact hl.trans h
  | obj k d => exact KRel.mono hr hl h

def Ctx.addI (c : Ctx) (J : Nat → Prop) : Ctx := { c with I := fun b => c.I b ∨ J b }
/-- New blocks; those of J are immutable. -/
theorem Rel.grow (R : Rel E w0 c H w) (hb : Below w.heap.size w w') (J : Nat → Prop) (hJ : ∀ b, J b → w.heap.size ≤ b ∧ b < w'.heap.size) :
    Ext c H w (c.addI J) H w' ∧ Rel E w0 (c.addI J) H w' := by
  have hkeep : ∀ b, c.I b → w'.heap[b]? = w.heap[b]? := fun b h => hb.block b (R.ilt b h)
  refine ⟨⟨fun _ _ h => h, fun b h => .inl h, fun b h => ?_, Nat.le_refl _, hb.size, hkeep, fun b h _ => hb.block b h, fun id x h1 h2 => .inr ⟨id, x, h1, h2, rfl⟩⟩,
    ⟨R.dom, R.hdom, fun id blk h => ?_, R.inj, fun b h => ?_, fun b h => .inl (R.old b h), ?_, fun g row h => ?_⟩⟩
  · rcases h with h | h
    · exact .inl h
    · exact .inr (.inl (hJ b h).1)
  · obtain ⟨l, h1, h2, h3, h4⟩ := R.live id blk h
    refine ⟨l, h1, ?_, Nat.lt_of_lt_of_le h3 hb.size, BRel.mono (c := c) (c' := c.addI J) (fun _ _ h => h) (fun b h => .inl h) hkeep (hb.block _ h3) h4⟩
    rintro (h5 | h5)
    · exact h2 h5
    · have := (hJ _ h5).1; omega
  · rcases h with h | h
    · exact Nat.lt_of_lt_of_le (R.ilt b h) hb.size
    · exact (hJ b h).2
  · exact R.below.trans (hb.mono R.below.size)
  · exact VRel.mono (c := c) (c' := c.addI J) (w := w) (fun _ _ h => h) (fun b h => .inl h) hkeep _ _ (R.glob g row h)

def Ctx.addR (c : Ctx) (id : Nat) (l : Loc) : Ctx := { c with rho := fun i => if i = id then some l else c.rho i }
theorem Rel.rho_next (R : Rel E w0 c H w) : c.rho H.next = none := by
  cases h : c.rho H.next with
  | none => rfl
  | some x => exact absurd (R.dom _ _ h) (by omega)
theorem Rel.get_next (R : Rel E w0 c H w) : H.get H.next = none := by
  cases h : H.get H.next with
  | none => rfl
  | some x => exact absurd (R.hdom H.next (by rw [h]; rfl)) (by omega)
theorem addR_old (R : Rel E w0 c H w) (l : Loc) : ∀ id x, c.rho id = some x → (c.addR H.next l).rho id = some x := by
  intro id x h
  have := R.dom id x h
  simp only [Ctx.addR]
  rw [if_neg (by omega)]
  exact h
/-- A new mutable block, in new memory. -/
theorem Rel.add (R : Rel E w0 c H w) (hb : Below w.heap.size w w') {l : Loc} {blk : ABlk} (h1 : w.heap.size ≤ l.blk) (h2 : l.blk < w'.heap.size) (hB : ∀ c', (∀ id x, c.rho id = some x → c'.rho id = some x) → (∀ b, c.I b → c'.I b) → (∀ b, c.I b → w'.heap[b]? = w.heap[b]?) → BRel E c' w' l blk) :
    Ext c H w (c.addR H.next l) (H.add blk) w' ∧ Rel E w0 (c.addR H.next l) (H.add blk) w' := by
  have hkeep : ∀ b, c.I b → w'.heap[b]? = w.heap[b]? := fun b h => hb.block b (R.ilt b h)
  have hrho := addR_old R l
  have hget : ∀ id, ((H.add blk).get id).isSome = true → id = H.next ∨ (H.get id).isSome = true := by
    intro id h
    rw [AHeap.get_add] at h
    cases hg : H.get id with
    | none =>
      rw [hg] at h
      simp only at h
      split at h
      · rename_i e; exact .inl e
      · cases h
    | some x => exact .inr rfl
  have hnew : (c.addR H.next l).rho H.next = some l := by simp [Ctx.addR]
  have hold : ∀ id x, (H.get id).isSome = true → (c.addR H.next l).rho id = some x → c.rho id = some x := by
    intro id x hg h
    have := R.hdom id hg
    simp only [Ctx.addR] at h
    rwa [if_neg (by omega)] at h
  have hlive : ∀ id x, (H.get id).isSome = true → c.rho id = some x → x.blk < w.heap.size := by
    intro id x hg h
    obtain ⟨blk', hb'⟩ := Option.isSome_iff_exists.1 hg
    obtain ⟨l', h3, _, h4, _⟩ := R.live id blk' hb'
    rw [h] at h3
    cases h3
    exact h4
  refine ⟨⟨hrho, fun b h => h, fun b h => .inl h, Nat.le_succ _, hb.size, hkeep, fun b h _ => hb.block b h, fun id x h3 h4 => ?_⟩,
    ⟨fun id x h => ?_, fun id h => ?_, fun id b h => ?_, fun id id' x x' h3 h4 hne h5 h6 => ?_, fun b h => Nat.lt_of_lt_of_le (R.ilt b h) hb.size, R.old, R.below.trans (hb.mono R.below.size),
      fun g row h => VRel.mono (c := c) (w := w) hrho (fun b h => h) hkeep _ _ (R.glob g row h)⟩⟩
  · rcases hget id h3 with rfl | hg
    · rw [hnew] at h4; cases h4; exact .inl h1
    · exact .inr ⟨id, x, hg, hold id x hg h4, rfl⟩
  · simp only [Ctx.addR] at h
    split at h
    · rename_i e; show id < H.next + 1; omega
    · have := R.dom id x h; show id < H.next + 1; omega
  · rcases hget id h with rfl | hg
    · show H.next < H.next + 1; omega
    · have := R.hdom id hg; show id < H.next + 1; omega
  · rw [AHeap.get_add] at h
    cases hg : H.get id with
    | none =>
      rw [hg] at h
      simp only at h
      split at h
      · rename_i e
        cases h
        subst e
        refine ⟨l, hnew, fun hI => ?_, h2, hB _ hrho (fun b h => h) hkeep⟩
        have := R.ilt l.blk hI
        omega
      · cases h
    | some y =>
      rw [hg] at h
      cases h
      obtain ⟨l', h3, h4, h5, h6⟩ := R.live id _ hg
      exact ⟨l', hrho _ _ h3, h4, Nat.lt_of_lt_of_le h5 hb.size, BRel.mono hrho (fun b h => h) hkeep (hb.block _ h5) h6⟩
  · rcases hget id h3 with rfl | hg <;> rcases hget id' h4 with rfl | hg'
    · exact absurd rfl hne
    · rw [hnew] at h5
      cases h5
      have := hlive id' x' hg' (hold id' x' hg' h6)
      omega
    · rw [hnew] at h6
      cases h6
      have := hlive id x hg (hold id x hg h5)
      omega
    · exact R.inj id id' x x' hg hg' hne (hold id x hg h5) (hold id' x' hg' h6)

/-- A store into a live block. -/
theorem Rel.store (R : Rel E w0 c H w) {id sz : Nat} {rows rows' : List (List AV)} {l : Loc} {cs cs' : Array Value} {t : TypeId} (hg : H.get id = some (.cells sz rows)) (hl : c.rho id = some l)
    (hh : w.heap[l.blk]? = some (.cells cs t (0, 0))) (hs : cs'.size = cs.size) (hsz : sz = l.sz) (hrow : ∀ row, row ∈ rows' → row.length = l.sz) (htot : cs.size = l.tot) (hlen : l.base + rows'.length * l.sz ≤ l.tot)
    (hrel : VRelss c w rows' (cs'.toList.drop l.base)) :
    Ext c H w c (H.set id (.cells sz rows')) (w.setRow l.blk cs') ∧ Rel E w0 c (H.set id (.cells sz rows')) (w.setRow l.blk cs') := by
  obtain ⟨l', h1, h2, h3, h4⟩ := R.live id _ hg
  rw [hl] at h1
  cases h1
  have hkeep : ∀ b, c.I b → (w.setRow l.blk cs').heap[b]? = w.heap[b]? := fun b h => setRow_other w _ _ _ (fun e => h2 (e ▸ h))
  have hget : ∀ i, ((H.set id (.cells sz rows')).get i).isSome = (H.get i).isSome := by
    intro i
    rw [AHeap.get_set]
    split
    · rename_i e; subst e; rw [hg]; rfl
    · rfl
  refine ⟨⟨fun _ _ h => h, fun _ h => h, fun _ h => .inl h, Nat.le_refl _, by rw [size_setRow]; exact Nat.le_refl _, hkeep, fun b hb hn => setRow_other w _ _ _ (fun e => hn id l (by rw [hg]; rfl) hl e.symm), fun i x h5 h6 => .inr ⟨i, x, by rw [← hget]; exact h5, h6, rfl⟩⟩,
    ⟨R.dom, fun i h => R.hdom i (by rw [← hget]; exact h), fun i blk h => ?_, fun i i' x x' h5 h6 => R.inj i i' x x' (by rw [← hget]; exact h5) (by rw [← hget]; exact h6), fun b h => by rw [size_setRow]; exact R.ilt b h, R.old, ?_, fun g row h => VRel.mono (c := c) (w := w) (fun _ _ h => h) (fun b h => h) hkeep _ _ (R.glob g row h)⟩⟩
  · rw [AHeap.get_set] at h
    split at h
    · rename_i e
      subst e
      rw [hg] at h
      cases h
      refine ⟨l, hl, h2, by rw [size_setRow]; exact h3, hsz, hrow, cs', t, setRow_heap w _ _ _ _ _ hh, by omega, hlen, VRelss.mono (fun _ _ h => h) (fun b h => h) hkeep _ _ hrel⟩
    · rename_i hne
      obtain ⟨l2, h5, h6, h7, h8⟩ := R.live i blk h
      refine ⟨l2, h5, h6, by rw [size_setRow]; exact h7, BRel.mono (fun _ _ h => h) (fun b h => h) hkeep (setRow_other w _ _ _ ?_) h8⟩
      exact R.inj i id l2 l (by rw [h]; rfl) (by rw [hg]; rfl) hne h5 hl
  · have hge : w0.heap.size ≤ l.blk := by
      rcases Nat.lt_or_ge l.blk w0.heap.size with h | h
      · exact absurd (R.old _ h) h2
      · exact h
    exact R.below.trans ⟨rfl, rfl, rfl, by rw [size_setRow]; exact Nat.le_refl _, fun k hk => setRow_other w _ _ _ (by omega)⟩

/-- A block is given up. -/
theorem Rel.free (R : Rel E w0 c H w) (id : Nat) : Ext c H w c (H.free id) w ∧ Rel E w0 c (H.free id) w := by
  have hget : ∀ i, ((H.free id).get i).isSome = true → (H.get i).isSome = true := by
    intro i h
    rw [AHeap.get_free] at h
    split at h
    · cases h
    · exact h
  refine ⟨⟨fun _ _ h => h, fun _ h => h, fun _ h => .inl h, Nat.le_refl _, Nat.le_refl _, fun _ _ => rfl, fun _ _ _ => rfl, fun i x h1 h2 => .inr ⟨i, x, hget i h1, h2, rfl⟩⟩,
    ⟨R.dom, fun i h => R.hdom i (hget i h), fun i blk h => ?_, fun i i' x x' h1 h2 => R.inj i i' x x' (hget i h1) (hget i' h2), R.ilt, R.old, R.below, R.glob⟩⟩
  rw [AHeap.get_free] at h
  split at h
  · cases h
  · exact R.live i blk h
/-- A block is given up and is immutable from now on. -/
theorem Rel.freeze (R : Rel E w0 c H w) {id : Nat} {blk : ABlk} {l : Loc} (hg : H.get id = some blk) (hl : c.rho id = some l) :
    Ext c H w (c.addI (· = l.blk)) (H.free id) w ∧ Rel E w0 (c.addI (· = l.blk)) (H.free id) w := by
  obtain ⟨h1, h2⟩ := R.free id
  obtain ⟨l', h3, h4, h5, h6⟩ := R.live id blk hg
  rw [hl] at h3
  cases h3
  refine ⟨⟨fun _ _ h => h, fun _ h => .inl h, fun b h => ?_, Nat.le_refl _, Nat.le_refl _, fun _ _ => rfl, fun _ _ _ => rfl, h1.fresh⟩,
    ⟨h2.dom, h2.hdom, fun i blk' h => ?_, h2.inj, fun b h => ?_, fun b h => .inl (R.old b h), h2.below, fun g row h => VRel.mono (c := c) (c' := c.addI (· = l.blk)) (w := w) (fun _ _ h => h) (fun b h => .inl h) (fun _ _ => rfl) _ _ (R.glob g row h)⟩⟩
  · rcases h with h | h
    · exact .inl h
    · exact .inr (.inr ⟨id, l, by rw [hg]; rfl, hl, h.symm⟩)
  · obtain ⟨l2, h7, h8, h9, h10⟩ := h2.live i blk' h
    refine ⟨l2, h7, ?_, h9, BRel.mono (c := c) (c' := c.addI (· = l.blk)) (fun _ _ h => h) (fun b h => .inl h) (fun _ _ => rfl) rfl h10⟩
    rintro (h11 | h11)
    · exact h8 h11
    · rw [AHeap.get_free] at h
      split at h
      · cases h
      · rename_i hne
        exact R.inj i id l2 l (by rw [h]; rfl) (by rw [hg]; rfl) hne h7 hl h11
  · rcases h with h | rfl
    · exact R.ilt b h
    · exact h5
end
end Go.AM
