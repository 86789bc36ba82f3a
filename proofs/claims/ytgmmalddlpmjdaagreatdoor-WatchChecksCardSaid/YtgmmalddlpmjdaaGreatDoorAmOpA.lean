/- AM: the operations that make, write, cut, append, copy are sound. AM: building, making, converting, cutting, lengths are sound. AM: slices made, cut, measured; conversions. AM: the elements of a slice; conversions, cutting, lengths, min and max. -/
import Derived.Test.YtgmmalddlpmjdaaGreatDoorAmRel
import Derived.Lib.ConvBytes
import Derived.Laws.MakeOwn
set_option linter.unusedVariables false
set_option linter.unusedSimpArgs false
namespace Go.AM
open Go Go.RowKit

section
variable {E : Env} {w0 : World} {c : Ctx} {H : AHeap} {w : World}

theorem rowOf_rel {x : AV} {v : Value} (h : VRel c w x v) (hjk : isJunk x = false) : VRels c w (rowOf x) v.cells.toList := by
  cases x
  case agg xs =>
    simp only [VRel] at h
    obtain ⟨us, rfl, h⟩ := h
    exact h
  case junk => cases hjk
  all_goals
    simp only [rowOf, VRels]
    refine ⟨v, [], ?_, h, rfl⟩
    simp only [VRel] at h
    first
      | (subst h; rfl)
      | (obtain ⟨_, _, _, _, _, rfl, _⟩ := h; rfl)
      | (obtain ⟨_, _, _, _, rfl, _⟩ := h; rfl)
      | (obtain ⟨_, _, _, rfl, _⟩ := h; rfl)
      | (obtain ⟨_, _, rfl, _⟩ := h; rfl)
      | (obtain ⟨_, _, _, _, rfl, _⟩ := h; rfl)
      | (obtain ⟨_, _, rfl⟩ := h; rfl)
      | (obtain ⟨_, rfl, _⟩ := h; rfl)

theorem run_newVar {P : Program} (t : TypeId) (v : Value) : (newVar t v).run P w = .ok ⟨w.heap.size, 0, none⟩ (w.alloc (.cells v.cells t)) := by
  simp [newVar, newRow]
theorem below_alloc' (o : Obj) : Below w.heap.size w (w.alloc o) := (Below.refl _ _).alloc (Nat.le_refl _) o
/-- A new row: immutable, or a mutable block. -/
theorem box_rel (R : Rel E w0 c H w) {b : Bool} {row : List AV} {us : Array Value} {t : TypeId} (hr : VRels c w row us.toList) {w' : World} (hb : Below w.heap.size w w') (hw : w'.heap[w.heap.size]? = some (.cells us t (0, 0))) :
    ∃ c', Ext c H w c' (box b H row).2 w' ∧ Rel E w0 c' (box b H row).2 w' ∧ VRel c' w' (box b H row).1 (.pointer (some ⟨w.heap.size, 0, none⟩)) := by
  have hlt : w.heap.size < w'.heap.size := (Array.getElem?_eq_some_iff.1 hw).1
  have hlen := hr.length
  cases b with
  | true =>
    obtain ⟨h1, h2⟩ := R.grow hb (· = w.heap.size) (fun b h => by subst h; exact ⟨Nat.le_refl _, hlt⟩)
    refine ⟨_, h1, h2, ?_⟩
    simp only [box, if_true, VRel]
    refine ⟨w.heap.size, 0, us, t, (0, 0), rfl, .inr rfl, hw, ?_⟩
    have := h1.vrels hr
    rw [List.drop_zero, List.take_of_length_le (by omega)]
    exact this
  | false =>
    obtain ⟨h1, h2⟩ := R.add hb (l := ⟨w.heap.size, 0, row.length, us.size⟩) (blk := .cells row.length [row]) (Nat.le_refl _) hlt (fun c' k1 k2 k3 => by
      refine ⟨rfl, by simp, us, t, hw, rfl, ?_, ?_⟩
      · simp only [List.length_singleton, Nat.one_mul, Nat.zero_add]
        rw [← hlen, Array.length_toList]; exact Nat.le_refl _
      · simp only [List.drop_zero, VRelss, and_true]
        rw [List.take_of_length_le (by omega)]
        exact VRels.mono k1 k2 k3 _ _ hr)
    refine ⟨_, h1, h2, ?_⟩
    simp only [box, Bool.false_eq_true, if_false, VRel]
    exact ⟨⟨w.heap.size, 0, row.length, us.size⟩, by simp [Ctx.addR], by simp⟩
/-- New rows: an immutable slice, or a mutable one; all of the block is told. -/
theorem mkSlice_rel (R : Rel E w0 c H w) {b : Bool} {sz n : Nat} {rows : List (List AV)} {us : Array Value} {t : TypeId} (hn : rows.length = n) (hsz : ∀ row, row ∈ rows → row.length = sz) (hr : VRelss c w rows us.toList)
    (htot : rows.length * sz ≤ us.size) {w' : World} (hb : Below w.heap.size w w') (hw : w'.heap[w.heap.size]? = some (.cells us t (0, 0))) :
    ∃ c', Ext c H w c' (mkSlice b H sz rows n).2 w' ∧ Rel E w0 c' (mkSlice b H sz rows n).2 w' ∧ VRel c' w' (mkSlice b H sz rows n).1 (.slice (some ⟨w.heap.size, 0, none⟩) n n) := by
  have hlt : w.heap.size < w'.heap.size := (Array.getElem?_eq_some_iff.1 hw).1
  cases b with
  | true =>
    obtain ⟨h1, h2⟩ := R.grow hb (· = w.heap.size) (fun b h => by subst h; exact ⟨Nat.le_refl _, hlt⟩)
    refine ⟨_, h1, h2, ?_⟩
    simp only [mkSlice, if_true, VRel]
    refine ⟨_, n, by rw [hn], fun m h => by cases h; rfl, by omega, .inr ⟨us, t, (0, 0), sz, rfl, .inr rfl, hw, hsz, ?_⟩⟩
    rw [List.drop_zero]
    exact VRelss.mono h1.rho h1.imm h1.keep _ _ hr
  | false =>
    obtain ⟨h1, h2⟩ := R.add hb (l := ⟨w.heap.size, 0, sz, us.size⟩) (blk := .cells sz rows) (Nat.le_refl _) hlt (fun c' k1 k2 k3 => by
      refine ⟨rfl, hsz, us, t, hw, rfl, by simpa using htot, ?_⟩
      simp only [List.drop_zero]
      exact VRelss.mono k1 k2 k3 _ _ hr)
    refine ⟨_, h1, h2, ?_⟩
    simp only [mkSlice, Bool.false_eq_true, if_false, VRel]
    refine ⟨⟨w.heap.size, 0, sz, us.size⟩, _, n, by simp [Ctx.addR], rfl, fun m h => by cases h; rfl, Nat.le_refl _, .inr ⟨by simp, ?_⟩⟩
    simp only [Nat.zero_add]
    rw [← hn]; exact htot

theorem run_zeroT {P : Program} {t : Nat} {z : AV} (h : zeroT P t = some z) : ∃ v, (zeroValue t).run P w = .ok v w ∧ VRel c w z v ∧ (∃ i, P.info? t = some i ∧ i.zero = some v) := by
  simp only [zeroT, Option.bind_eq_some_iff] at h
  obtain ⟨i, hi, v, hv, hz⟩ := h
  exact ⟨v, by simp [zeroValue, typeInfo, hi, hv], ofConst_rel c w hz, i, hi, hv⟩
theorem ofConst_plain {v : Value} {z : AV} (h : ofConst v = some z) : isJunk z = false := by
  cases hz : isJunk z with
  | false => rfl
  | true =>
  have e : z = .junk := by cases z <;> simp_all [isJunk]
  subst e
  exfalso
  unfold ofConst at h
  split at h
  · simp at h
  · split at h <;> simp at h
  · unfold ofCell at h; split at h <;> simp at h

/-! ### box, alloc -/
theorem exec_box_rel (R : Rel E w0 c H w) {b : Bool} {t : TypeId} {x : AV} {v : Value} (hv : VRel c w x v) (h1 : isJunk x = false) :
    ∃ c' w', (Instr.box t v).run E.P w = .ok (.pointer (some ⟨w.heap.size, 0, none⟩)) w' ∧ Ext c H w c' (box b H (rowOf x)).2 w' ∧ Rel E w0 c' (box b H (rowOf x)).2 w' ∧ VRel c' w' (box b H (rowOf x)).1 (.pointer (some ⟨w.heap.size, 0, none⟩)) := by
  obtain ⟨c', k1, k2, k3⟩ := box_rel R (b := b) (t := t) (w' := w.alloc (.cells v.cells t)) (rowOf_rel hv h1) (below_alloc' _) (heap_alloc_new w _)
  exact ⟨c', _, by simp [Instr.box, run_newVar], k1, k2, k3⟩
theorem exec_alloc_rel (R : Rel E w0 c H w) {t : TypeId} {z : AV} (hz : zeroT E.P t = some z) {row : List AV} (hrow : allocRow E t z = some row) :
    ∃ c' w', (Instr.alloc t true (.tuple #[])).run E.P w = .ok (.pointer (some ⟨w.heap.size, 0, none⟩)) w' ∧ Ext c H w c' (newS H row).2 w' ∧ Rel E w0 c' (newS H row).2 w' ∧ VRel c' w' (newS H row).1 (.pointer (some ⟨w.heap.size, 0, none⟩)) := by
  obtain ⟨v, hv, hr, _⟩ := run_zeroT (w := w) (c := c) hz
  have hj : isJunk z = false := by
    simp only [zeroT, Option.bind_eq_some_iff] at hz
    obtain ⟨_, _, _, _, hz⟩ := hz
    exact ofConst_plain hz
  unfold allocRow at hrow
  split at hrow
  · rename_i ht
    split at hrow
    · rename_i hz2
      cases hrow
      have hcs : v.cells = #[.pointer none, .slice none 0 0] := by
        have := rowOf_rel hr hj
        rw [hz2] at this
        simp only [VRels, VRel] at this
        obtain ⟨u1, r1, e1, rfl, u2, r2, rfl, rfl, rfl⟩ := this
        exact Array.toList_inj.1 e1
      obtain ⟨h1, h2⟩ := R.add (w' := w.alloc (.cells v.cells t)) (below_alloc' _) (l := ⟨w.heap.size, 0, 2, 2⟩) (blk := .obj 0 []) (Nat.le_refl _) (by simp) (fun c' k1 k2 k3 => by
        subst ht
        exact ⟨.pointer none, .inl rfl, rfl, by rw [← hcs]; exact heap_alloc_new w _⟩)
      exact ⟨_, _, by simp [Instr.alloc, hv, run_newVar], h1, h2, by
        simp only [newS, VRel]
        exact ⟨⟨w.heap.size, 0, 2, 2⟩, by simp [Ctx.addR], by simp⟩⟩
    · cases hrow
  · split at hrow
    · cases hrow
    · rename_i hne
      cases hrow
      obtain ⟨c', k1, k2, k3⟩ := box_rel R (b := false) (t := t) (w' := w.alloc (.cells v.cells t)) (rowOf_rel hr hj) (below_alloc' _) (heap_alloc_new w _)
      have e : newS H (rowOf z) = box false H (rowOf z) := by
        cases hzz : rowOf z with
        | nil => exact absurd hzz hne
        | cons a b => rfl
      rw [e]
      exact ⟨c', _, by simp [Instr.alloc, hv, run_newVar], k1, k2, k3⟩

/-! ### store -/
theorem cell_one {x : AV} {v : Value} (h : VRel c w x v) (hc : x.cell = true) : v.oneCell' = true := by
  cases x
  case agg xs => cases hc
  case tup xs => cases hc
  case junk => cases hc
  all_goals
    simp only [VRel] at h
    first
      | (subst h; rfl)
      | (obtain ⟨_, _, _, _, _, rfl, _⟩ := h; rfl)
      | (obtain ⟨_, _, _, _, rfl, _⟩ := h; rfl)
      | (obtain ⟨_, _, _, rfl, _⟩ := h; rfl)
      | (obtain ⟨_, _, rfl, _⟩ := h; rfl)
      | (obtain ⟨_, _, rfl⟩ := h; rfl)
      | (obtain ⟨_, rfl, _⟩ := h; rfl)
theorem cells_one : ∀ {xs : List AV} {us : List Value}, VRels c w xs us → xs.all AV.cell = true → ∀ u, u ∈ us → u.oneCell' = true
  | [], us, h, _, u, hu => by simp only [VRels] at h; subst h; cases hu
  | x :: xs, us, h, ha, u, hu => by
    simp only [VRels] at h
    obtain ⟨v, r, rfl, hv, h⟩ := h
    simp only [List.all_cons, Bool.and_eq_true] at ha
    cases hu with
    | head => exact cell_one hv ha.1
    | tail _ hu => exact cells_one h ha.2 u hu
theorem take_drop_join {α : Type} (x : List α) (m sz : Nat) (h : m ≤ sz) : (x.take sz).drop m ++ x.drop sz = x.drop m := by
  have h1 : x.drop sz = (x.drop m).drop (sz - m) := by rw [List.drop_drop]; congr 1; omega
  rw [List.drop_take, h1, List.take_append_drop]
theorem splice_in {α : Type} (cs vs : List α) (base p off sz k : Nat) (hk : k = vs.length) (h1 : off + k ≤ sz) (h2 : base + p + sz ≤ cs.length) :
    (cs.take (base + p + off) ++ vs ++ cs.drop (base + p + off + k)).drop base =
      (cs.drop base).take p ++ ((((cs.drop base).drop p).take sz).take off ++ vs ++ (((cs.drop base).drop p).take sz).drop (off + k)) ++ (cs.drop base).drop (p + sz) := by
  rw [List.append_assoc, List.drop_append_of_le_length (by rw [List.length_take]; omega), List.drop_take, show base + p + off - base = p + off from by omega, List.take_add]
  rw [List.take_take, Nat.min_eq_left (show off ≤ sz by omega)]
  simp only [List.append_assoc]
  congr 3
  rw [show (cs.drop base).drop (p + sz) = ((cs.drop base).drop p).drop sz from by simp only [List.drop_drop]; congr 1; omega, take_drop_join _ _ _ h1]
  simp only [List.drop_drop]
  congr 1
  omega
theorem VRelss.set : ∀ {rows : List (List AV)} {us : List Value} {sz : Nat}, VRelss c w rows us → (∀ row, row ∈ rows → row.length = sz) → ∀ {r : Nat} {row' : List AV} {vs : List Value}, r < rows.length → VRels c w row' vs → row'.length = sz →
    VRelss c w (rows.set r row') (us.take (r * sz) ++ vs ++ us.drop (r * sz + sz))
  | [], us, sz, h, hs, r, row', vs, hr, hv, hl => by simp at hr
  | x :: xs, us, sz, h, hs, r, row', vs, hr, hv, hl => by
    simp only [VRelss] at h
    have hx : x.length = sz := hs x (List.mem_cons_self ..)
    have hvl := hv.length
    have hul : (us.take x.length).length = x.length := h.1.length
    cases r with
    | zero =>
      simp only [List.set_cons_zero, VRelss, Nat.zero_mul, List.take_zero, List.nil_append, Nat.zero_add]
      rw [List.take_left' (by omega), List.drop_left' (by omega)]
      rw [hx] at h
      exact ⟨hv, h.2⟩
    | succ r =>
      have ih := VRelss.set h.2 (fun row hm => hs row (List.mem_cons_of_mem _ hm)) (r := r) (by simpa using hr) hv hl
      simp only [List.set_cons_succ, VRelss]
      rw [List.length_take] at hul
      have e1 : (r + 1) * sz = sz + r * sz := by rw [Nat.add_mul]; omega
      refine ⟨?_, ?_⟩
      · have : ((us.take ((r + 1) * sz) ++ vs ++ us.drop ((r + 1) * sz + sz)).take x.length) = us.take x.length := by
          rw [List.append_assoc, List.take_append_of_le_length (by rw [List.length_take]; omega), List.take_take, Nat.min_eq_left (by omega)]
        rw [this]; exact h.1
      · have : ((us.take ((r + 1) * sz) ++ vs ++ us.drop ((r + 1) * sz + sz)).drop x.length) = (us.drop x.length).take (r * sz) ++ vs ++ (us.drop x.length).drop (r * sz + sz) := by
          rw [List.append_assoc, List.drop_append_of_le_length (by rw [List.length_take]; omega), List.drop_take, List.drop_drop, List.append_assoc]
          congr 2
          · congr 1; omega
          · congr 1; omega
        rw [this]; exact ih
theorem splice_rel {row xs row' : List AV} {off : Nat} {us vs : List Value} (hr : VRels c w row us) (hx : VRels c w xs vs) (h : splice row xs off = some row') :
    VRels c w row' (us.take off ++ vs ++ us.drop (off + vs.length)) ∧ row'.length = row.length ∧ off + xs.length ≤ row.length := by
  unfold splice at h
  split at h
  · rename_i hle
    cases h
    have hxl := hx.length
    refine ⟨?_, ?_, hle⟩
    · rw [hxl]
      exact ((hr.take off).append hx).append (hr.drop (off + xs.length))
    · simp only [List.length_append, List.length_take, List.length_drop]; omega
  · cases h

theorem astore_rel (R : Rel E w0 c H w) {t : Nat} {a x : AV} {u v : Value} {H' : AHeap} (ha : VRel c w a u) (hx : VRel c w x v) (h : astore E.P H t a x = some H') :
    ∃ w', (Instr.storeAt t u v).run E.P w = .ok () w' ∧ Ext c H w c H' w' ∧ Rel E w0 c H' w' := by
  unfold astore at h
  split at h
  · rename_i id r off
    simp only [Option.bind_eq_some_iff] at h
    obtain ⟨n, hn, ⟨sz, rows⟩, hb, row, hrow, h⟩ := h
    split at h
    · rename_i hc
      obtain ⟨hlen, hcell⟩ := hc
      simp only [Option.map_eq_some_iff] at h
      obtain ⟨row', hsp, rfl⟩ := h
      obtain ⟨l, cs, ty, hl, hg, hI, hlt, hsz, hsize, hh, htot, hfit, hrel⟩ := rows_rel R hb
      simp only [VRel] at ha
      obtain ⟨l', hl', rfl⟩ := ha
      rw [hl] at hl'
      cases hl'
      have h2 : isJunk x = false := by
        cases x <;> first | rfl | (simp [rowOf, AV.cell] at hcell)
      have hvs := rowOf_rel hx h2
      have hvl := hvs.length
      have hr0 := hrel.get hsize hrow
      have hrl : row.length = l.sz := hsize row (List.mem_of_getElem? hrow)
      have hr0l := hr0.length
      obtain ⟨k1, k2, k3⟩ := splice_rel hr0 hvs hsp
      have hrlt : r < rows.length := (List.getElem?_eq_some_iff.1 hrow).1
      have hset := hrel.set hsize hrlt k1 (k2.trans hrl)
      have hmul : (r + 1) * l.sz ≤ rows.length * l.sz := Nat.mul_le_mul_right _ hrlt
      have hmul2 : (r + 1) * l.sz = r * l.sz + l.sz := by rw [Nat.add_mul]; omega
      have hst := run_storeCells_at E.P l.blk (l.base + r * l.sz + off) ty v.cells.toList 0 cs w hh (by omega) (cells_one hvs hcell)
      simp only [Nat.add_zero] at hst
      have hcs : cs.toList.length = cs.size := Array.length_toList
      obtain ⟨m1, m2⟩ := R.store (rows' := rows.set r row') (cs' := (cs.toList.take (l.base + r * l.sz + off) ++ v.cells.toList ++ cs.toList.drop (l.base + r * l.sz + off + v.cells.toList.length)).toArray) hg hl hh (by
          simp only [List.size_toArray, List.length_append, List.length_take, List.length_drop, hcs]; omega) hsz (fun y hy => by
          rcases List.mem_or_eq_of_mem_set hy with h | h
          · exact hsize y h
          · rw [h]; exact k2.trans hrl) htot (by simpa using hfit) (by
          have := splice_in cs.toList v.cells.toList l.base (r * l.sz) off l.sz _ rfl (by omega) (by omega)
          simp only [List.toList_toArray]
          rw [this]
          exact hset)
      refine ⟨_, ?_, m1, m2⟩
      have hvc : v.cells.size = n := by rw [← Array.length_toList, hvl, hlen]
      simp only [Instr.storeAt, Instr.sureAddr, Sem.run_bind, Sem.run_pure, Result.andThen_ok, storeVar, run_szT hn]
      rw [if_neg (by simpa using hvc)]
      exact hst
    · cases h
  · cases h
end
end Go.AM
set_option linter.unusedVariables false
set_option linter.unusedSimpArgs false
namespace Go.AM
open Go Go.RowKit

section
variable {E : Env} {w0 : World} {c : Ctx} {H : AHeap} {w : World}

/-- Parts with their places. -/
def PRel (c : Ctx) (w : World) : List (Nat × AV) → List (Nat × Value) → Prop
  | [], us => us = []
  | (i, x) :: xs, us => ∃ u r, us = (i, u) :: r ∧ VRel c w x u ∧ PRel c w xs r
theorem evP_rel {nt : Nat} {fr : Fr} {a : Act} (R : Rel E w0 c H w) (hf : FrRel c w nt fr a) :
    ∀ {xs : List (Nat × Operand)} {vs : List (Nat × AV)}, evP E fr xs = some vs → PRel c w vs (xs.map fun (i, x) => (i, a.eval x))
  | [], vs, h => by simp only [evP, Option.some.injEq] at h; subst h; simp [PRel]
  | (i, x) :: xs, vs, h => by
    simp only [evP, Option.bind_eq_some_iff, Option.map_eq_some_iff] at h
    obtain ⟨v, hv, ys, hy, rfl⟩ := h
    simp only [PRel, List.map_cons]
    exact ⟨_, _, rfl, ev_rel R hf hv, evP_rel R hf hy⟩

theorem fold_set (vs : List Value) : ∀ (cs : Array Value) (off j : Nat), off + j + vs.length ≤ cs.size →
    ((vs.zipIdx j).foldl (fun cs x => cs.setIfInBounds (off + x.2) x.1) cs).toList = cs.toList.take (off + j) ++ vs ++ cs.toList.drop (off + j + vs.length) := by
  induction vs with
  | nil => intro cs off j h; simp
  | cons v vs ih =>
    intro cs off j h
    simp only [List.length_cons] at h
    simp only [List.zipIdx_cons, List.foldl_cons]
    rw [ih _ off (j + 1) (by simp; omega)]
    simp only [Array.toList_setIfInBounds, List.length_cons]
    have e1 : (cs.toList.set (off + j) v).take (off + (j + 1)) = cs.toList.take (off + j) ++ [v] := by
      rw [show off + (j + 1) = off + j + 1 from by omega, List.take_add_one, List.take_set_of_le (by omega)]
      simp [List.getElem?_set, show off + j < cs.size from by omega]
    have e2 : (cs.toList.set (off + j) v).drop (off + (j + 1) + vs.length) = cs.toList.drop (off + j + (vs.length + 1)) := by
      rw [List.drop_set_of_lt (by omega)]
      congr 1; omega
    rw [e1, e2]
    simp
theorem fill_rel {place : Nat → Option (Nat × Nat)} : ∀ {parts : List (Nat × AV)} {us : List (Nat × Value)} {cells cells' : List AV} {vs : Array Value}, PRel c w parts us → VRels c w cells vs.toList → afill place cells parts = some cells' →
    ∃ vs', Instr.fill place vs us = some vs' ∧ VRels c w cells' vs'.toList
  | [], us, cells, cells', vs, hp, hc, h => by
    simp only [PRel] at hp
    subst hp
    simp only [afill, Option.some.injEq] at h
    subst h
    exact ⟨vs, rfl, hc⟩
  | (i, x) :: parts, us, cells, cells', vs, hp, hc, h => by
    simp only [PRel] at hp
    obtain ⟨u, r, rfl, hx, hp⟩ := hp
    simp only [afill, Option.bind_eq_some_iff] at h
    obtain ⟨⟨off, size⟩, hpl, h⟩ := h
    split at h
    · rename_i hcond
      obtain ⟨hlen, hj⟩ := hcond
      simp only [Option.bind_eq_some_iff] at h
      obtain ⟨cells2, hsp, h⟩ := h
      have hxr := rowOf_rel hx hj
      obtain ⟨k1, k2, k3⟩ := splice_rel hc hxr hsp
      have hl := hxr.length
      have hcl := hc.length
      simp only [Array.length_toList] at hl hcl
      simp only at hlen hsp
      have hsz : u.cells.size = size := by omega
      have hfold := fold_set u.cells.toList vs off 0 (by simp only [Array.length_toList]; omega)
      simp only [Nat.add_zero, Array.length_toList] at hfold
      obtain ⟨vs', h1, h2⟩ := fill_rel (vs := (u.cells.toList.zipIdx 0).foldl (fun cs x => cs.setIfInBounds (off + x.2) x.1) vs) hp (by rw [hfold]; simpa using k1) h
      refine ⟨vs', ?_, h2⟩
      simp only [Instr.fill, hpl, hsz]
      rw [if_neg (by simp; omega)]
      rw [← h1]
      congr 1
      rw [← Array.foldl_toList, Array.toList_zipIdx]
    · cases h

theorem run_places {P : Program} : ∀ {fs : List Field} {pl : List (Nat × Nat)}, places P fs = some pl →
    (fs.mapM (fun f => do pure (f.offset, ← Go.sizeOf f.type) : Field → Sem (Nat × Nat))).run P w = .ok pl w
  | [], pl, h => by simp only [places, Option.some.injEq] at h; subst h; simp
  | f :: fs, pl, h => by
    simp only [places, Option.bind_eq_some_iff, Option.map_eq_some_iff] at h
    obtain ⟨n, hn, l, hl, rfl⟩ := h
    simp only [List.mapM_cons, Sem.run_bind, run_szT hn, Result.andThen_ok, Sem.run_pure, run_places hl]

theorem abuild_rel {P : Program} {t : Nat} {parts : List (Nat × AV)} {us : Array (Nat × Value)} {v : AV} (hp : PRel c w parts us.toList) (h : abuild P t parts = some v) :
    ∃ u, (Instr.build t us).run P w = .ok u w ∧ VRel c w v u := by
  simp only [abuild, Option.bind_eq_some_iff] at h
  obtain ⟨z, hz, h⟩ := h
  obtain ⟨zv, hzv, hzr, i, hi, hiz⟩ := run_zeroT (w := w) (c := c) hz
  have hzj : isJunk z = false := by
    simp only [zeroT, Option.bind_eq_some_iff] at hz
    obtain ⟨_, _, _, _, hz⟩ := hz
    exact ofConst_plain hz
  have hzc := rowOf_rel hzr hzj
  split at h
  · rename_i fs hs
    simp only [Option.bind_eq_some_iff, Option.map_eq_some_iff] at h
    obtain ⟨pl, hpl, cs, hcs, rfl⟩ := h
    obtain ⟨vs', h1, h2⟩ := fill_rel hp hzc hcs
    refine ⟨.agg vs', ?_, by simp only [VRel]; exact ⟨_, rfl, h2⟩⟩
    have hm : (fs.mapM (fun f => do pure (f.offset, ← Go.sizeOf f.type) : Field → Sem (Nat × Nat))).run P w = .ok pl.toArray w := by
      rw [Array.mapM_eq_mapM_toList, Sem.run_map, run_places hpl]
      rfl
    simp only [Instr.build, Sem.run_bind, hzv, Result.andThen_ok, run_underlying hs]
    rw [hm]
    simp only [Result.andThen_ok]
    have : (Instr.fill (fun x => pl.toArray[x]?) zv.cells us.toList) = some vs' := by
      rw [← h1]; congr 1; funext x; simp
    rw [this]
    rfl
  · rename_i len e hs
    simp only [Option.bind_eq_some_iff, Option.map_eq_some_iff] at h
    obtain ⟨n, hn, cs, hcs, rfl⟩ := h
    obtain ⟨vs', h1, h2⟩ := fill_rel hp hzc hcs
    refine ⟨.agg vs', ?_, by simp only [VRel]; exact ⟨_, rfl, h2⟩⟩
    simp only [Instr.build, Sem.run_bind, hzv, Result.andThen_ok, run_underlying hs, run_szT hn, h1, Sem.run_pure]
  · cases h
end
end Go.AM
set_option linter.unusedVariables false
set_option linter.unusedSimpArgs false
namespace Go.AM
open Go Go.RowKit

section
variable {E : Env} {w0 : World} {c : Ctx} {H : AHeap} {w : World}

theorem made_flat (z : Array Value) (hz : 0 < z.size) : ∀ n, (madeCells z (n * z.size)).toList = (List.replicate n z.toList).flatten := by
  intro n
  induction n with
  | zero => simp [madeCells]
  | succ n ih =>
    rw [List.replicate_succ', List.flatten_append, ← ih]
    apply List.ext_getElem?
    intro i
    simp only [madeCells, Array.toList_map, Array.toList_range, List.getElem?_append, List.length_map, List.length_range, List.getElem?_map, List.getElem?_range, List.flatten_cons, List.flatten_nil, List.append_nil]
    have e1 : (n + 1) * z.size = n * z.size + z.size := by rw [Nat.add_mul]; omega
    by_cases h1 : i < n * z.size
    · rw [if_pos h1]
      rw [List.getElem?_range (by omega), List.getElem?_range h1]
    · rw [if_neg h1]
      by_cases h2 : i < (n + 1) * z.size
      · rw [List.getElem?_range h2]
        have h3 : i % z.size = i - n * z.size := by
          have : i = (i - n * z.size) + n * z.size := by omega
          rw [this, Nat.add_mul_mod_self_right, Nat.mod_eq_of_lt (by omega)]
          omega
        simp only [Option.map_some]
        rw [h3, getElem!_pos z _ (by omega)]
        rw [List.getElem?_eq_getElem (by simp; omega)]
        simp
      · rw [List.getElem?_eq_none (by simp; omega), List.getElem?_eq_none (by simp; omega)]
        rfl
theorem relss_replicate {row : List AV} {us : List Value} (h : VRels c w row us) : ∀ n, VRelss c w (List.replicate n row) (List.replicate n us).flatten
  | 0 => by simp [VRelss]
  | n + 1 => by
    have hl := h.length
    simp only [List.replicate_succ, VRelss, List.flatten_cons]
    rw [List.take_left' hl, List.drop_left' hl]
    exact ⟨h, relss_replicate h n⟩
theorem made_rel {z : AV} {zv : Value} {sz : Nat} (h : VRels c w (rowOf z) zv.cells.toList) (hl : (rowOf z).length = sz) (hsz : 0 < sz) (n : Nat) : VRelss c w (List.replicate n (rowOf z)) (madeCells zv.cells (n * sz)).toList := by
  have h1 := h.length
  simp only [Array.length_toList] at h1
  rw [← hl, ← h1, made_flat _ (by omega)]
  exact relss_replicate h n

theorem fillRows_rel {sz : Nat} (hsz : 0 < sz) : ∀ {parts : List (Nat × AV)} {us : List (Nat × Value)} {rows rows' : List (List AV)} {vs : Array Value}, PRel c w parts us → VRelss c w rows vs.toList → (∀ row, row ∈ rows → row.length = sz) → vs.size = rows.length * sz →
    fillRows sz rows parts = some rows' → ∃ vs', Instr.fill (fun i => some (i * sz, sz)) vs us = some vs' ∧ VRelss c w rows' vs'.toList ∧ (∀ row, row ∈ rows' → row.length = sz) ∧ rows'.length = rows.length ∧ vs'.size = vs.size
  | [], us, rows, rows', vs, hp, hc, hs, hv, h => by
    simp only [PRel] at hp
    subst hp
    simp only [fillRows, Option.some.injEq] at h
    subst h
    exact ⟨vs, rfl, hc, hs, rfl, rfl⟩
  | (i, x) :: parts, us, rows, rows', vs, hp, hc, hs, hv, h => by
    simp only [PRel] at hp
    obtain ⟨u, r, rfl, hx, hp⟩ := hp
    simp only [fillRows] at h
    split at h
    · rename_i hcond
      obtain ⟨hlen, hi, hj⟩ := hcond
      have hxr := rowOf_rel hx hj
      have hl := hxr.length
      simp only [Array.length_toList] at hl
      have hm : (i + 1) * sz ≤ rows.length * sz := Nat.mul_le_mul_right _ hi
      have hm2 : (i + 1) * sz = i * sz + sz := by rw [Nat.add_mul]; omega
      have hfold := fold_set u.cells.toList vs (i * sz) 0 (by simp only [Array.length_toList]; omega)
      simp only [Nat.add_zero, Array.length_toList] at hfold
      have hset := hc.set hs hi hxr hlen
      have hus : u.cells.size = sz := by omega
      rw [hus] at hfold
      have hsz2 : ((u.cells.toList.zipIdx 0).foldl (fun cs x => cs.setIfInBounds (i * sz + x.2) x.1) vs).size = vs.size := by
        rw [← Array.length_toList, hfold]
        simp only [List.length_append, List.length_take, List.length_drop, Array.length_toList]
        omega
      obtain ⟨vs', h1, h2, h3, h4, h5⟩ := fillRows_rel hsz (vs := (u.cells.toList.zipIdx 0).foldl (fun cs x => cs.setIfInBounds (i * sz + x.2) x.1) vs) hp (by rw [hfold]; exact hset)
        (fun row hr => by
          rcases List.mem_or_eq_of_mem_set hr with h | h
          · exact hs row h
          · rw [h]; exact hlen) (by rw [hsz2, List.length_set]; exact hv) h
      refine ⟨vs', ?_, h2, h3, by rw [h4, List.length_set], by rw [h5, hsz2]⟩
      simp only [Instr.fill, hus]
      rw [if_neg (by simp; omega)]
      rw [← h1]
      congr 1
      rw [← Array.foldl_toList, Array.toList_zipIdx]
    · cases h

theorem abuildSlice_rel (R : Rel E w0 c H w) {b : Bool} {t len : Nat} {parts : List (Nat × AV)} {us : Array (Nat × Value)} {v : AV} {H' : AHeap} (hp : PRel c w parts us.toList) (h : abuildSlice E.P b H t len parts = some (v, H')) :
    ∃ u c' w', (Instr.buildSlice t len us).run E.P w = .ok u w' ∧ Ext c H w c' H' w' ∧ Rel E w0 c' H' w' ∧ VRel c' w' v u := by
  unfold abuildSlice at h
  split at h
  · rename_i e hs
    simp only [Option.bind_eq_some_iff] at h
    obtain ⟨n, hn, z, hz, h⟩ := h
    obtain ⟨zv, hzv, hzr, i, hi, hiz⟩ := run_zeroT (w := w) (c := c) hz
    have hzj : isJunk z = false := by
      simp only [zeroT, Option.bind_eq_some_iff] at hz
      obtain ⟨_, _, _, _, hz⟩ := hz
      exact ofConst_plain hz
    have hzc := rowOf_rel hzr hzj
    split at h
    · rename_i hcond
      obtain ⟨hzl, hn0, hlim⟩ := hcond
      simp only [Option.map_eq_some_iff] at h
      obtain ⟨rows, hrows, h⟩ := h
      obtain ⟨vs', h1, h2, h3, h4, h5⟩ := fillRows_rel hn0 (vs := madeCells zv.cells (len * n)) hp (made_rel hzc hzl hn0 len) (fun row hr => by rw [(List.mem_replicate.1 hr).2]; exact hzl) (by simp [size_madeCells]) hrows
      obtain ⟨c', k1, k2, k3⟩ := mkSlice_rel R (b := b) (sz := n) (n := len) (t := e) (us := vs') (rows := rows) (by simpa using h4) h3 h2 (by rw [h5, size_madeCells, h4]; simp) (below_alloc' (.cells vs' e)) (heap_alloc_new w _)
      rw [h] at k1 k2 k3
      refine ⟨_, c', _, ?_, k1, k2, k3⟩
      have hlim' : ¬ (len * n > 16777216) := by omega
      by_cases h0 : len * n = 0
      · simp only [Instr.buildSlice, Sem.run_bind, run_underlying hs, Result.andThen_ok, run_szT hn]
        rw [if_neg hlim']
        simp only [h0, if_true, Sem.run_bind, Sem.run_pure, Result.andThen_ok]
        have : madeCells zv.cells (len * n) = #[] := by rw [h0]; simp [madeCells]
        rw [this] at h1
        simp only [Array.range_zero', List.map_toArray, Array.map_empty] 
        simp [h1, newRow]
      · simp only [Instr.buildSlice, Sem.run_bind, run_underlying hs, Result.andThen_ok, run_szT hn]
        rw [if_neg hlim', if_neg h0]
        simp only [Sem.run_bind, hzv, Result.andThen_ok, Sem.run_pure]
        have : Array.map (fun x => zv.cells[x % zv.cells.size]!) (Array.range (len * n)) = madeCells zv.cells (len * n) := rfl
        rw [this]
        simp [h1, newRow]
    · cases h
  · cases h

theorem amakeSlice_rel (R : Rel E w0 c H w) {t : Nat} {l k v : AV} {lv kv : Value} {H' : AHeap} (hl : VRel c w l lv) (hk : VRel c w k kv) (h : amakeSlice E.P H t l k = some (v, H')) :
    ∃ u c' w', (Instr.makeSlice t lv kv).run E.P w = .ok u w' ∧ Ext c H w c' H' w' ∧ Rel E w0 c' H' w' ∧ VRel c' w' v u := by
  unfold amakeSlice at h
  split at h
  · rename_i e kl l' kk k' hs
    simp only [VRel] at hl hk
    subst hl; subst hk
    simp only [Option.bind_eq_some_iff] at h
    obtain ⟨n, hn, by_, hby, z, hz, h⟩ := h
    obtain ⟨zv, hzv, hzr, i, hi, hiz⟩ := run_zeroT (w := w) (c := c) hz
    have hzj : isJunk z = false := by
      simp only [zeroT, Option.bind_eq_some_iff] at hz
      obtain ⟨_, _, _, _, hz⟩ := hz
      exact ofConst_plain hz
    have hzc := rowOf_rel hzr hzj
    split at h
    · rename_i hcond
      obtain ⟨hzl, hn0, h0, hlk, hk63, hbytes⟩ := hcond
      cases h
      have hin : i.size = n := by simp only [szT, hi, Option.map_some, Option.some.injEq] at hn; exact hn
      have hib : i.bytes = by_ := by simp only [byT, hi, Option.map_some, Option.some.injEq] at hby; exact hby
      have hbk : (i.bytes : Int) * k' ≤ 281474976710656 := by
        have e : (k' : Int) = (k'.toNat : Int) := by omega
        rw [hib, e]
        have : ((by_ * k'.toNat : Nat) : Int) ≤ 281474976710656 := by omega
        rwa [Int.natCast_mul] at this
      have hrun := run_make (P := E.P) w t e i zv hs hi hiz kl kk l' k' h0 hlk hbk (by omega)
      rw [hin] at hrun
      obtain ⟨h1, h2⟩ := R.add (w' := w.alloc (.cells (madeCells zv.cells (k'.toNat * n)) e)) (below_alloc' _) (l := ⟨w.heap.size, 0, n, k'.toNat * n⟩) (blk := .cells n (List.replicate k'.toNat (rowOf z))) (Nat.le_refl _) (by simp) (fun c' k1 k2 k3 => by
        refine ⟨rfl, fun row hr => by rw [(List.mem_replicate.1 hr).2]; exact hzl, _, _, heap_alloc_new w _, size_madeCells _ _, by simp, ?_⟩
        simp only [List.drop_zero]
        exact VRelss.mono k1 k2 k3 _ _ (made_rel hzc hzl hn0 k'.toNat))
      refine ⟨_, _, _, hrun, h1, h2, ?_⟩
      simp only [VRel]
      refine ⟨⟨w.heap.size, 0, n, k'.toNat * n⟩, _, k'.toNat, by simp [Ctx.addR], rfl, fun m h => by cases h; rfl, by omega, .inr ⟨by simp, by simp⟩⟩
    · cases h
  · cases h
end
end Go.AM
set_option linter.unusedVariables false
set_option linter.unusedSimpArgs false
namespace Go.AM
open Go Go.RowKit

section
variable {E : Env} {w0 : World} {c : Ctx} {H : AHeap} {w : World}

/-- What a slice's elements are in memory: where they lie, or there are none. -/
theorem sliceRows_rel (R : Rel E w0 c H w) {x : AV} {v : Value} {rows : List (List AV)} {sz : Nat} (hv : VRel c w x v) (h : sliceRows H x = some rows) (hsz : ∀ row, row ∈ rows → row.length = sz) :
    ∃ base k, v = .slice base rows.length k ∧ (rows = [] ∨ ∃ b o cs t fr, base = some ⟨b, o, none⟩ ∧ w.heap[b]? = some (.cells cs t fr) ∧ VRelss c w rows (cs.toList.drop o)) := by
  unfold sliceRows at h
  split at h
  · cases h
    simp only [VRel] at hv
    exact ⟨none, 0, hv, .inl rfl⟩
  · cases h
    simp only [VRel] at hv
    obtain ⟨a, k, rfl, _, _, h⟩ := hv
    refine ⟨some a, k, rfl, ?_⟩
    rcases h with h | ⟨cs, t, fr, _, hsp, _, hh, _, hr⟩
    · exact .inl h
    · obtain ⟨b, o, sp⟩ := a
      simp only at hsp
      subst hsp
      exact .inr ⟨b, o, cs, t, fr, rfl, hh, hr⟩
  · rename_i id lo len cap
    simp only [Option.bind_eq_some_iff] at h
    obtain ⟨⟨sz', brows⟩, hb, h⟩ := h
    split at h
    · rename_i hle
      cases h
      obtain ⟨l, cs, ty, hl, _, _, _, hsz', hsize, hh, htot, hfit, hrel⟩ := rows_rel R hb
      simp only [VRel] at hv
      obtain ⟨l', a, k, hl', rfl, _, hlk, hc⟩ := hv
      rw [hl] at hl'
      cases hl'
      simp only at hle
      have hlen : ((brows.drop lo).take len).length = len := by simp; omega
      refine ⟨some a, k, by rw [hlen], ?_⟩
      rcases hc with hc | ⟨rfl, _⟩
      · left
        have : len = 0 := by omega
        subst this
        simp
      · right
        refine ⟨l.blk, l.base + lo * l.sz, cs, ty, _, rfl, hh, ?_⟩
        have := (hrel.drop hsize lo).take len
        rwa [List.drop_drop] at this
    · cases h
  · cases h
theorem run_first {P : Program} {rows : List (List AV)} {sz b o k n : Nat} {cs : Array Value} {t : TypeId} {fr : Nat × Nat} (hh : w.heap[b]? = some (.cells cs t fr)) (hr : VRelss c w rows (cs.toList.drop o)) (hsz : ∀ row, row ∈ rows → row.length = sz) (hn : n ≤ rows.length) :
    (Builtin.firstCells sz n (.slice (some ⟨b, o, none⟩) rows.length k)).run P w = .ok (((cs.toList.drop o).take (n * sz))).toArray w ∧ VRels c w (rows.take n).flatten ((cs.toList.drop o).take (n * sz)) ∧ ((cs.toList.drop o).take (n * sz)).length = n * sz := by
  have h1 := (hr.take n).flat
  have hfl : (rows.take n).flatten.length = n * sz := by
    rw [flatten_len (sz := sz) (fun row h => hsz row (List.mem_of_mem_take h)), List.length_take, Nat.min_eq_left hn]
  rw [hfl] at h1
  have hl := h1.length
  rw [hfl] at hl
  refine ⟨?_, h1, hl⟩
  simp only [Builtin.firstCells]
  exact loadCells_row hh (n * sz) hl rfl

/-- What is appended or copied: cells one after the other. -/
theorem newRows_rel (R : Rel E w0 c H w) {x : AV} {v : Value} {rows : List (List AV)} {sz : Nat} (hv : VRel c w x v) (h : newRows H x = some rows) (hsz : ∀ row, row ∈ rows → row.length = sz) :
    (Builtin.lenOf v).run E.P w = .ok rows.length w ∧ ∀ n, n ≤ rows.length → ∀ W : World, (∀ b, b < w.heap.size → W.heap[b]? = w.heap[b]?) →
      ∃ us : List Value, (Builtin.firstCells sz n v).run E.P W = .ok us.toArray W ∧ VRels c w (rows.take n).flatten us ∧ us.length = n * sz := by
  unfold newRows at h
  split at h
  · rename_i s
    cases h
    simp only [VRel] at hv
    subst hv
    refine ⟨by simp [Builtin.lenOf, size_mk, rowsOfBytes], fun n hn W hW => ?_⟩
    simp only [rowsOfBytes, List.length_map] at hn
    have hsz1 : n = 0 ∨ sz = 1 := by
      rcases Nat.eq_zero_or_pos n with h0 | h0
      · exact .inl h0
      · right
        cases s with
        | nil => simp at hn; omega
        | cons a s => exact (hsz [.int .u8 a.toNat] (by simp [rowsOfBytes])).symm
    refine ⟨(s.take n).map fun b => .int .u8 (b.toNat : Int), ?_, ?_, ?_⟩
    · simp only [Builtin.firstCells]
      rw [ByteArray.extract_mk]
      simp
    · have : ∀ (s : List UInt8) (n : Nat), VRels c w ((rowsOfBytes s).take n).flatten ((s.take n).map fun b => .int .u8 (b.toNat : Int)) := by
        intro s
        induction s with
        | nil => intro n; simp [rowsOfBytes, VRels]
        | cons a s ih =>
          intro n
          cases n with
          | zero => simp [VRels]
          | succ n =>
            have := ih n
            simp only [rowsOfBytes, List.map_cons, List.take_succ_cons, List.flatten_cons, List.singleton_append, VRels]
            exact ⟨_, _, rfl, by simp [VRel], this⟩
      exact this s n
    · rcases hsz1 with h | h
      · subst h; simp
      · subst h; simp; omega
  · obtain ⟨base, k, rfl, hc⟩ := sliceRows_rel R hv h hsz
    refine ⟨by simp [Builtin.lenOf], fun n hn W hW => ?_⟩
    rcases hc with hc | ⟨b, o, cs, t, fr, rfl, hh, hr⟩
    · subst hc
      have : n = 0 := by simpa using hn
      subst this
      refine ⟨[], ?_, by simp [VRels], by simp⟩
      cases base with
      | none => simp [Builtin.firstCells]
      | some a => simp [Builtin.firstCells, loadCells, loadCellsFrom]
    · have hlt : b < w.heap.size := (Array.getElem?_eq_some_iff.1 hh).1
      have hr' : ∀ i : Nat, True := fun _ => trivial
      obtain ⟨h1, h2, h3⟩ := run_first (P := E.P) (k := k) hh hr hsz hn
      refine ⟨_, ?_, h2, h3⟩
      simp only [Builtin.firstCells]
      exact loadCells_row ((hW b hlt).trans hh) (n * sz) h3 rfl

theorem bytes_nums : ∀ {rows : List (List AV)} {l : List UInt8} {us : List Value}, bytesOf rows = some l → VRels c w rows.flatten us → ∃ ns : List Int, us = ns.map (Value.int .u8) ∧ l = ns.map (fun n => UInt8.ofNat n.toNat)
  | [], l, us, h, hr => by
    simp only [bytesOf, Option.some.injEq] at h
    subst h
    simp only [List.flatten_nil, VRels] at hr
    subst hr
    exact ⟨[], rfl, rfl⟩
  | [x] :: r, l, us, h, hr => by
    simp only [bytesOf, Option.bind_eq_some_iff, Option.map_eq_some_iff] at h
    obtain ⟨b, hb, l', hl', rfl⟩ := h
    simp only [List.flatten_cons, List.singleton_append, VRels] at hr
    obtain ⟨u, us', rfl, hu, hr⟩ := hr
    obtain ⟨ns, rfl, rfl⟩ := bytes_nums hl' hr
    unfold byteOfAV at hb
    split at hb
    · cases hb
      simp only [VRel] at hu
      subst hu
      exact ⟨_ :: ns, rfl, rfl⟩
    · cases hb
  | [] :: r, l, us, h, hr => by simp [bytesOf] at h
  | (x :: y :: z) :: r, l, us, h, hr => by simp [bytesOf] at h
theorem bytesOf_one : ∀ {rows : List (List AV)} {l : List UInt8}, bytesOf rows = some l → ∀ row, row ∈ rows → row.length = 1
  | [], l, h, row, hm => by cases hm
  | [x] :: r, l, h, row, hm => by
    simp only [bytesOf, Option.bind_eq_some_iff, Option.map_eq_some_iff] at h
    obtain ⟨b, hb, l', hl', rfl⟩ := h
    cases hm with
    | head => rfl
    | tail _ hm => exact bytesOf_one hl' row hm
  | [] :: r, l, h, row, hm => by simp [bytesOf] at h
  | (x :: y :: z) :: r, l, h, row, hm => by simp [bytesOf] at h
theorem push_all (ns : List Int) : ∀ s : ByteArray, ns.foldl (fun r n => r.push (UInt8.ofNat n.toNat)) s = ⟨s.data ++ (ns.map (fun n => UInt8.ofNat n.toNat)).toArray⟩ := by
  induction ns with
  | nil => intro s; simp
  | cons n ns ih =>
    intro s
    simp only [List.foldl_cons, ih, List.map_cons]
    apply ByteArray.ext
    simp [ByteArray.push]

theorem aconvert_rel (R : Rel E w0 c H w) {s d : Nat} {x v : AV} {u : Value} (hu : VRel c w x u) (h : aconvert E.P H s d x = some v) :
    ∃ y c' w', (convert s d u).run E.P w = .ok y w' ∧ Ext c H w c' H w' ∧ Rel E w0 c' H w' ∧ VRel c' w' v y := by
  unfold aconvert at h
  split at h
  · rename_i d1 k k' n hs hd
    cases h
    simp only [VRel] at hu
    subst hu
    refine ⟨.int k (k.wrap n), c, w, ?_, Ext.refl _ _ _, R, by simp [VRel]⟩
    simp [convert, run_underlying hs, run_underlying hd, Conv.intToInt]
  · rename_i d1 l hs hd
    cases h
    simp only [VRel] at hu
    subst hu
    refine ⟨.string ⟨l.toArray⟩, c, w, ?_, Ext.refl _ _ _, R, by simp [VRel]⟩
    simp [convert, run_underlying hs, run_underlying hd]
  · rename_i e l hs hd
    split at h
    · rename_i he
      cases h
      simp only [VRel] at hu
      subst hu
      have hrun := Lib.run_convert_string_bytes (P := E.P) w s d e ⟨l.toArray⟩ hs hd he
      have hbel : Below w.heap.size w (Lib.bytesWorld w e ⟨l.toArray⟩) := ⟨rfl, rfl, rfl, by rw [Lib.bytesWorld_size]; omega, fun k hk => Lib.bytesWorld_at_old w e _ k hk⟩
      obtain ⟨h1, h2⟩ := R.grow hbel (· = w.heap.size) (fun b h => by subst h; exact ⟨Nat.le_refl _, by rw [Lib.bytesWorld_size]; omega⟩)
      refine ⟨_, _, _, hrun, h1, h2, ?_⟩
      have hcap := grownCap_ge w (ByteArray.mk l.toArray).size 0 e
      simp only [size_mk] at hcap
      simp only [VRel]
      refine ⟨⟨w.heap.size, 0, none⟩, grownCap w (ByteArray.mk l.toArray).size 0 e, by simp [size_mk, rowsOfBytes], fun m h => (by cases h), by simpa [rowsOfBytes, size_mk] using hcap, .inr ⟨_, _, _, 1, rfl, .inr rfl, Lib.bytesWorld_at_new w e _, fun row hr => by
        simp only [rowsOfBytes, List.mem_map] at hr
        obtain ⟨_, _, rfl⟩ := hr
        rfl, ?_⟩⟩
      apply VRelss.of_flat
      have hfl : (rowsOfBytes l).flatten.length = l.length := by
        rw [flatten_len (sz := 1) (fun row hr => by
          simp only [rowsOfBytes, List.mem_map] at hr
          obtain ⟨_, _, rfl⟩ := hr
          rfl)]
        simp [rowsOfBytes]
      rw [hfl]
      have : ((Lib.bytesCells w e ⟨l.toArray⟩).toList.drop 0).take l.length = l.map fun b => .int .u8 (b.toNat : Int) := by
        simp [Lib.bytesCells]
      rw [this]
      have : ∀ (c : Ctx) (W : World) (l : List UInt8), VRels c W (rowsOfBytes l).flatten (l.map fun b => .int .u8 (b.toNat : Int)) := by
        intro c W l
        induction l with
        | nil => simp [rowsOfBytes, VRels]
        | cons a s ih =>
          simp only [rowsOfBytes, List.map_cons, List.flatten_cons, List.singleton_append, VRels]
          exact ⟨_, _, rfl, by simp [VRel], ih⟩
      exact this _ _ l
    · cases h
  · rename_i e hs hd _
    split at h
    · rename_i he
      simp only [Option.bind_eq_some_iff, Option.map_eq_some_iff] at h
      obtain ⟨rows, hrows, l, hl, rfl⟩ := h
      have hone := bytesOf_one hl
      obtain ⟨base, k, rfl, hc⟩ := sliceRows_rel R hu hrows hone
      refine ⟨.string ⟨l.toArray⟩, c, w, ?_, Ext.refl _ _ _, R, by simp [VRel]⟩
      rw [run_convert_bytes_string w s d e base rows.length k hs he hd]
      rcases hc with hc | ⟨b, o, cs, t, fr, rfl, hh, hr⟩
      · subst hc
        simp only [bytesOf, Option.some.injEq] at hl
        subst hl
        cases base with
        | none => simp [Conv.bytesToString]; rfl
        | some a =>
          have := run_bytesToString (P := E.P) w a 0 k [] (by simp [loadCells, loadCellsFrom])
          exact this
      · obtain ⟨h1, h2, h3⟩ := run_first (P := E.P) (k := k) (n := rows.length) hh hr hone (Nat.le_refl _)
        rw [List.take_length] at h2
        obtain ⟨ns, hns, rfl⟩ := bytes_nums hl h2
        have h4 : (loadCells ⟨b, o, none⟩ rows.length).run E.P w = .ok (ns.map (Value.int .u8)).toArray w := by
          simp only [Builtin.firstCells, Nat.mul_one] at h1
          rw [h1, ← hns, Nat.mul_one]
        rw [run_bytesToString (P := E.P) w _ rows.length k ns h4, push_all]
        simp
    · cases h
  · cases h
end
end Go.AM
