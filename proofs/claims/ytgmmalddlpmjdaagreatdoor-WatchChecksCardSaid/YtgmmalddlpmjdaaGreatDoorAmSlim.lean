/- AM: control, ranges over functions, function bodies: the evaluator is sound. AM: slim code does what the model's code does. AM: slim operations, regions. AM: slim regions. -/
import Derived.Test.YtgmmalddlpmjdaaGreatDoorAmDraw
import Derived.Test.YtgmmalddlpmjdaaGreatDoorAmVal
set_option linter.unusedVariables false
set_option linter.unusedSimpArgs false
namespace Go.AM
open Go Go.RowKit

section
variable {E : Env} {w0 : World} {c : Ctx} {H : AHeap} {w w' : World}

/-- The same memory. -/
theorem Rel.turn (R : Rel E w0 c H w) (hh : w'.heap = w.heap) (hb : Below w0.heap.size w w') : Ext c H w c H w' ∧ Rel E w0 c H w' := by
  have hk : ∀ b : Nat, w'.heap[b]? = w.heap[b]? := fun b => by rw [hh]
  refine ⟨⟨fun _ _ h => h, fun _ h => h, fun _ h => .inl h, Nat.le_refl _, by rw [hh]; exact Nat.le_refl _, fun b _ => hk b, fun b _ _ => hk b, fun id x h1 h2 => .inr ⟨id, x, h1, h2, rfl⟩⟩,
    ⟨R.dom, R.hdom, fun id blk h => ?_, R.inj, fun b h => by rw [hh]; exact R.ilt b h, R.old, R.below.trans hb, fun g row h => VRel.mono (c := c) (w := w) (fun _ _ h => h) (fun b h => h) (fun b _ => hk b) _ _ (R.glob g row h)⟩⟩
  obtain ⟨l, h1, h2, h3, h4⟩ := R.live id blk h
  exact ⟨l, h1, h2, by rw [hh]; exact h3, BRel.mono (fun _ _ h => h) (fun b h => h) (fun b _ => hk b) (hk _) h4⟩

/-- A live block turns, and is what blk' says from now on. -/
theorem Rel.put (R : Rel E w0 c H w) {id : Nat} {blk blk' : ABlk} {l : Loc} {o : Obj} (hg : H.get id = some blk) (hl : c.rho id = some l) (hB : BRel E c (w.putObj l.blk o) l blk') :
    Ext c H w c (H.set id blk') (w.putObj l.blk o) ∧ Rel E w0 c (H.set id blk') (w.putObj l.blk o) := by
  obtain ⟨l', h1, h2, h3, h4⟩ := R.live id _ hg
  rw [hl] at h1
  cases h1
  have hoth : ∀ b, b ≠ l.blk → (w.putObj l.blk o).heap[b]? = w.heap[b]? := fun b h => World.putObj_heap_other h
  have hkeep : ∀ b, c.I b → (w.putObj l.blk o).heap[b]? = w.heap[b]? := fun b h => hoth b (fun e => h2 (e ▸ h))
  have hget : ∀ i, ((H.set id blk').get i).isSome = (H.get i).isSome := by
    intro i
    rw [AHeap.get_set]
    split
    · rename_i e; subst e; rw [hg]; rfl
    · rfl
  refine ⟨⟨fun _ _ h => h, fun _ h => h, fun _ h => .inl h, Nat.le_refl _, by rw [World.putObj_size]; exact Nat.le_refl _, hkeep, fun b hb hn => hoth b (fun e => hn id l (by rw [hg]; rfl) hl e.symm), fun i x h5 h6 => .inr ⟨i, x, by rw [← hget]; exact h5, h6, rfl⟩⟩,
    ⟨R.dom, fun i h => R.hdom i (by rw [← hget]; exact h), fun i b h => ?_, fun i i' x x' h5 h6 => R.inj i i' x x' (by rw [← hget]; exact h5) (by rw [← hget]; exact h6), fun b h => by rw [World.putObj_size]; exact R.ilt b h, R.old, ?_, fun g row h => VRel.mono (c := c) (w := w) (fun _ _ h => h) (fun b h => h) hkeep _ _ (R.glob g row h)⟩⟩
  · rw [AHeap.get_set] at h
    split at h
    · rename_i e
      subst e
      rw [hg] at h
      cases h
      exact ⟨l, hl, h2, by rw [World.putObj_size]; exact h3, hB⟩
    · rename_i hne
      obtain ⟨l2, h5, h6, h7, h8⟩ := R.live i b h
      refine ⟨l2, h5, h6, by rw [World.putObj_size]; exact h7, BRel.mono (fun _ _ h => h) (fun b h => h) hkeep (hoth _ ?_) h8⟩
      exact R.inj i id l2 l (by rw [h]; rfl) (by rw [hg]; rfl) hne h5 hl
  · have hge : w0.heap.size ≤ l.blk := by
      rcases Nat.lt_or_ge l.blk w0.heap.size with h | h
      · exact absurd (R.old _ h) h2
      · exact h
    exact R.below.trans ⟨rfl, rfl, rfl, by rw [World.putObj_size]; exact Nat.le_refl _, fun k hk => hoth _ (by omega)⟩
/-- A live block turns and is given up. -/
theorem Rel.drop (R : Rel E w0 c H w) {id : Nat} {blk : ABlk} {l : Loc} {o : Obj} (hg : H.get id = some blk) (hl : c.rho id = some l) :
    Ext c H w c (H.free id) (w.putObj l.blk o) ∧ Rel E w0 c (H.free id) (w.putObj l.blk o) := by
  obtain ⟨l', h1, h2, h3, h4⟩ := R.live id _ hg
  rw [hl] at h1
  cases h1
  have hoth : ∀ b, b ≠ l.blk → (w.putObj l.blk o).heap[b]? = w.heap[b]? := fun b h => World.putObj_heap_other h
  have hkeep : ∀ b, c.I b → (w.putObj l.blk o).heap[b]? = w.heap[b]? := fun b h => hoth b (fun e => h2 (e ▸ h))
  have hget : ∀ i, ((H.free id).get i).isSome = true → (H.get i).isSome = true := by
    intro i h
    rw [AHeap.get_free] at h
    split at h
    · cases h
    · exact h
  refine ⟨⟨fun _ _ h => h, fun _ h => h, fun _ h => .inl h, Nat.le_refl _, by rw [World.putObj_size]; exact Nat.le_refl _, hkeep, fun b hb hn => hoth b (fun e => hn id l (by rw [hg]; rfl) hl e.symm), fun i x h5 h6 => .inr ⟨i, x, hget i h5, h6, rfl⟩⟩,
    ⟨R.dom, fun i h => R.hdom i (hget i h), fun i b h => ?_, fun i i' x x' h5 h6 => R.inj i i' x x' (hget i h5) (hget i' h6), fun b h => by rw [World.putObj_size]; exact R.ilt b h, R.old, ?_, fun g row h => VRel.mono (c := c) (w := w) (fun _ _ h => h) (fun b h => h) hkeep _ _ (R.glob g row h)⟩⟩
  · rw [AHeap.get_free] at h
    split at h
    · cases h
    · rename_i hne
      obtain ⟨l2, h5, h6, h7, h8⟩ := R.live i b h
      refine ⟨l2, h5, h6, by rw [World.putObj_size]; exact h7, BRel.mono (fun _ _ h => h) (fun b h => h) hkeep (hoth _ ?_) h8⟩
      exact R.inj i id l2 l (by rw [h]; rfl) (by rw [hg]; rfl) hne h5 hl
  · have hge : w0.heap.size ≤ l.blk := by
      rcases Nat.lt_or_ge l.blk w0.heap.size with h | h
      · exact absurd (R.old _ h) h2
      · exact h
    exact R.below.trans ⟨rfl, rfl, rfl, by rw [World.putObj_size]; exact Nat.le_refl _, fun k hk => hoth _ (by omega)⟩

def ExRel (c : Ctx) (w : World) : Ex → Exit → Prop
  | .normal, e => e = .normal
  | .exit id, e => e = .exit id
  | .ret, e => e = .ret
  | .pan v, e => ∃ u, e = .panic [{ v := u, recovered := false }] ∧ VRel c w v u
/-- What code comes to. -/
def QRel (E : Env) (w0 : World) (c : Ctx) (H : AHeap) (w : World) (nt : Nat) (r : Ex × St) (e : Exit) (a : Act) (w' : World) : Prop :=
  ∃ c', Ext c H w c' r.2.H w' ∧ Rel E w0 c' r.2.H w' ∧ FrRel c' w' nt r.2.fr a ∧ DRel c' w' r.2.df a.defers ∧ ExRel c' w' r.1 e
theorem QRel.trans (R : Rel E w0 c H w) {c1 : Ctx} {H1 : AHeap} {w1 : World} {nt : Nat} {r : Ex × St} {e : Exit} {a : Act} (h : Ext c H w c1 H1 w1) (q : QRel E w0 c1 H1 w1 nt r e a w') : QRel E w0 c H w nt r e a w' := by
  obtain ⟨c', h1, h2⟩ := q
  exact ⟨c', h.trans R h1, h2⟩

theorem runOps_wp (OK : EnvOK E) {cf : CallF} (CO : CallOK E w0 cf) {ro : Option Nat} {n nt : Nat} {ra : RAnn} {ops : Array Oper} {Q : Exit → Act → World → Prop} : ∀ {rest : List Oper} {i : Nat} {c : Ctx} {H H' : AHeap} {w : World} {fr fr' : Fr} {a : Act} {x : Ex},
    Rel E w0 c H w → FrRel c w nt fr a → ops.toList.drop i = rest → runOps E cf nt ra ops.toList rest i fr H = some (x, fr', H') →
    (∀ c' a' w' e, Ext c H w c' H' w' → Rel E w0 c' H' w' → FrRel c' w' nt fr' a' → a'.defers = a.defers → ExRel c' w' x e → Q e a' w') → wpOpsIn (FW ro) n E.P ops Q (List.range' i rest.length) a w
  | [], i, c, H, H', w, fr, fr', a, x, R, hf, hd, h, hQ => by
    simp only [runOps, Option.some.injEq, Prod.mk.injEq] at h
    obtain ⟨rfl, rfl, rfl⟩ := h
    exact hQ c a w .normal (Ext.refl _ _ _) R hf rfl rfl
  | o :: rest, i, c, H, H', w, fr, fr', a, x, R, hf, hd, h, hQ => by
    have hlt : i < ops.toList.length := by
      rcases Nat.lt_or_ge i ops.toList.length with h | h
      · exact h
      · rw [List.drop_eq_nil_of_le h] at hd; cases hd
    rw [List.drop_eq_getElem_cons hlt] at hd
    have ho : ops[i]? = some o := by
      have : ops.toList[i]? = some o := by rw [List.getElem?_eq_getElem hlt]; exact congrArg some (List.cons.inj hd).1
      simpa using this
    have hd' := (List.cons.inj hd).2
    simp only [runOps, Option.bind_eq_some_iff] at h
    obtain ⟨⟨p, fr1, H1⟩, h1, h⟩ := h
    rw [List.length_cons, List.range'_succ, wpOpsIn_cons]
    refine stepOp_wp OK CO R hf ho h1 (fun hp c1 a1 w1 k1 k2 k3 k4 => ?_) (fun v hp c1 w1 u k1 k2 k3 k4 => ?_)
    · subst hp
      exact runOps_wp OK CO k2 k3 hd' h fun c' a' w' e m1 m2 m3 m4 m5 => hQ c' a' w' e (k1.trans R m1) m2 m3 (m4.trans k4) m5
    · subst hp
      simp only [Option.some.injEq, Prod.mk.injEq] at h
      obtain ⟨rfl, rfl, rfl⟩ := h
      exact hQ c1 a w1 _ k1 k2 k3 rfl ⟨u, rfl, k4⟩

theorem iter_wp {f : FuncId → Prop} {ro : Option Nat} {n nt : Nat} {bc : Code} {body : St → Option (Ex × St)}
    (hb : ∀ {c : Ctx} {w : World} {a : Act} {s : St} {r : Ex × St}, body s = some r → Rel E w0 c s.H w → FrRel c w nt s.fr a → DRel c w s.df a.defers → bc.wpIn (FW ro) n E.P (QRel E w0 c s.H w nt r) a w) :
    ∀ (k : Nat) {c : Ctx} {w : World} {a : Act} {s : St} {r : Ex × St}, iter body k s = some r → Rel E w0 c s.H w → FrRel c w nt s.fr a → DRel c w s.df a.defers → Code.roundsIn (FW ro) n E.P bc (QRel E w0 c s.H w nt r) k a w
  | 0, c, w, a, s, r, h, R, hf, hd => by simp [iter] at h
  | k + 1, c, w, a, s, r, h, R, hf, hd => by
    simp only [iter, Option.bind_eq_some_iff] at h
    obtain ⟨r1, h1, h⟩ := h
    rw [roundsIn_succ]
    refine wpIn_mono (hb h1 R hf hd) fun e a' w' q => ?_
    obtain ⟨c', q1, q2, q3, q4, q5⟩ := q
    split at h
    · rename_i hn
      rw [hn] at q5
      cases q5
      have := iter_wp (f := f) hb k h q2 q3 q4
      have mono : ∀ (m : Nat) {Q Q' : Exit → Act → World → Prop} {a : Act} {w : World}, (∀ e a w, Q e a w → Q' e a w) → Code.roundsIn (FW ro) n E.P bc Q m a w → Code.roundsIn (FW ro) n E.P bc Q' m a w := by
        intro m
        induction m with
        | zero => intro Q Q' a w _ h; exact h
        | succ m ih =>
          intro Q Q' a w hq h
          rw [roundsIn_succ] at h ⊢
          refine wpIn_mono h fun e a w he => ?_
          cases e <;> first | exact ih hq he | exact hq _ _ _ he
      exact mono k (fun e a w h => QRel.trans R q1 h) this
    · rename_i e1 hn
      cases h
      have hQ : QRel E w0 c s.H w nt (r1.1, r1.2) e a' w' := ⟨c', q1, q2, q3, q4, q5⟩
      cases e with
      | normal =>
        exfalso
        revert q5 hn
        cases r1.1 <;> simp [ExRel]
      | _ => exact hQ
end
end Go.AM
set_option linter.unusedVariables false
set_option linter.unusedSimpArgs false
namespace Go.AM
open Go

section
variable {E : Env} {fr : Fr} {H : AHeap}
theorem slimX_ok {x : Operand} {sx : SX} (h : slimX E x = some sx) : ev E fr x = evX fr sx := by
  cases x with
  | tmp t => simp only [slimX, Option.some.injEq] at h; subst h; rfl
  | const v =>
    simp only [slimX, Option.map_eq_some_iff] at h
    obtain ⟨a, h1, rfl⟩ := h
    simp only [ev, evX, h1]
  | global g =>
    simp only [slimX, Option.map_eq_some_iff] at h
    obtain ⟨a, h1, rfl⟩ := h
    simp only [ev, evX, h1, Option.map_some]
  | func f => simp only [slimX, Option.some.injEq] at h; subst h; rfl
theorem slimXs_ok : ∀ {xs : List Operand} {sxs : List SX}, slimXs E xs = some sxs → evs E fr xs = evXs fr sxs
  | [], sxs, h => by simp only [slimXs, Option.some.injEq] at h; subst h; rfl
  | x :: xs, sxs, h => by
    simp only [slimXs, Option.bind_eq_some_iff, Option.map_eq_some_iff] at h
    obtain ⟨sx, h1, sxs', h2, rfl⟩ := h
    simp only [evs, evXs, slimX_ok h1, slimXs_ok h2]
    cases evX fr sx <;> cases evXs fr sxs' <;> rfl
theorem slimXP_ok : ∀ {xs : List (Nat × Operand)} {sxs : List (Nat × SX)}, slimXP E xs = some sxs → evP E fr xs = evXP fr sxs
  | [], sxs, h => by simp only [slimXP, Option.some.injEq] at h; subst h; rfl
  | (i, x) :: xs, sxs, h => by
    simp only [slimXP, Option.bind_eq_some_iff, Option.map_eq_some_iff] at h
    obtain ⟨sx, h1, sxs', h2, rfl⟩ := h
    simp only [evP, evXP, slimX_ok h1, slimXP_ok h2]
    cases evX fr sx <;> cases evXP fr sxs' <;> rfl
theorem slimXO_ok {x : Option Operand} {sx : Option SX} (h : slimXO E x = some sx) : evO E fr x = evXO fr sx := by
  cases x with
  | none => simp only [slimXO, Option.some.injEq] at h; subst h; rfl
  | some x =>
    simp only [slimXO, Option.map_eq_some_iff] at h
    obtain ⟨a, h1, rfl⟩ := h
    simp only [evO, evXO, slimX_ok h1]
    cases evX fr a <;> rfl

theorem eqT_ok {P : Program} : ∀ (d : Nat) {t : Nat} {e : EqT} {x y : AV} {r : Bool}, eqT P d t = some e → aeqS e x y = some r → aeq P d t x y = some r
  | 0, t, e, x, y, r, h, k => by simp [eqT] at h
  | d + 1, t, e, x, y, r, h, k => by
    unfold eqT at h
    split at h
    case h_9 fs hu =>
      split at h
      · cases h
      · rename_i hst
        have key : ∀ (l : List Field) {e : EqT} {x y : AV} {r : Bool}, l.foldr (fun f acc => if f.name ≠ "_" then
            acc.bind fun rest => (aggT P f.type).bind fun g => (szT P f.type).bind fun n => (eqT P d f.type).map fun e => EqT.fld f.offset n g e rest
            else acc) (some .fin) = some e → aeqS e x y = some r → ∃ xs ys, x = .agg xs ∧ y = .agg ys ∧
            l.foldr (fun f (acc : Unit → Option Bool) => fun _ =>
              if f.name ≠ "_" then
                (apart P f.type xs f.offset).bind fun a => (apart P f.type ys f.offset).bind fun b =>
                  (aeq P d f.type a b).bind fun e => if e = true then acc () else some false
              else acc ()) (fun _ => some true) () = some r := by
          intro l
          induction l with
          | nil =>
            intro e x y r h k
            simp only [List.foldr_nil, Option.some.injEq] at h
            subst h
            cases x <;> cases y <;> simp only [aeqS, reduceCtorEq] at k
            rename_i xs ys
            exact ⟨xs, ys, rfl, rfl, k⟩
          | cons f l ih =>
            intro e x y r h k
            simp only [List.foldr_cons] at h ⊢
            split at h
            · rename_i hn
              simp only [Option.bind_eq_some_iff, Option.map_eq_some_iff] at h
              obtain ⟨rest, h1, g, h2, n, h3, e', h4, rfl⟩ := h
              cases x <;> cases y <;> simp only [aeqS, reduceCtorEq] at k
              rename_i xs ys
              simp only [Option.bind_eq_some_iff] at k
              obtain ⟨a, k1, b, k2, q, k3, k4⟩ := k
              refine ⟨xs, ys, rfl, rfl, ?_⟩
              rw [if_pos hn]
              simp only [apart, h2, h3, Option.bind_some, k1, k2, eqT_ok d h4 k3]
              cases q with
              | false => simpa using k4
              | true =>
                simp only [if_true] at k4 ⊢
                obtain ⟨xs', ys', e1, e2, h5⟩ := ih h1 k4
                cases e1; cases e2
                exact h5
            · rename_i hn
              obtain ⟨xs, ys, rfl, rfl, h5⟩ := ih h k
              refine ⟨xs, ys, rfl, rfl, ?_⟩
              rw [if_neg hn]
              exact h5
        obtain ⟨xs, ys, rfl, rfl, h5⟩ := key fs.toList h k
        unfold aeq
        simp only [hu]
        rw [if_neg hst]
        exact h5
    all_goals first
      | (rename_i hu; cases h; unfold aeq; simp only [hu]; cases x <;> cases y <;> simp only [aeqS, reduceCtorEq] at k <;> exact k)
      | (rename_i k' hu; cases h; unfold aeq; simp only [hu]; cases x <;> cases y <;> simp only [aeqS, reduceCtorEq] at k <;> exact k)
      | (rename_i a b hu; cases h; unfold aeq; simp only [hu]; cases x <;> cases y <;> simp only [aeqS, reduceCtorEq] at k <;> exact k)
      | (rename_i a b c hu; cases h; unfold aeq; simp only [hu]; cases x <;> cases y <;> simp only [aeqS, reduceCtorEq] at k <;> exact k)
      | cases h
end
end Go.AM
set_option linter.unusedVariables false
set_option linter.unusedSimpArgs false
namespace Go.AM
open Go

section
variable {E : Env} {fr : Fr} {H : AHeap}
theorem eqO_ok {P : Program} {t : Nat} {q : Option EqT} {op : BinOp} {x y v : AV} (hq : q = if isEq op then eqT P Op.maxDepth t else none) (h : eqOp op (aeqO q x y) = some v) : eqOp op (aeq P Op.maxDepth t x y) = some v := by
  have key : ∀ r, aeqO q x y = some r → aeq P Op.maxDepth t x y = some r := by
    intro r hr
    simp only [aeqO, Option.bind_eq_some_iff] at hr
    obtain ⟨e, he, hr⟩ := hr
    rw [hq] at he
    split at he
    · exact eqT_ok _ he hr
    · cases he
  cases op <;> simp only [eqOp, reduceCtorEq] at h ⊢
  all_goals
    simp only [Option.map_eq_some_iff] at h
    obtain ⟨r, hr, h⟩ := h
    rw [key r hr]
    exact congrArg some h
theorem abinS_ok {P : Program} {t : Nat} {isC gd : Bool} {q : Option EqT} {op : BinOp} {x y v : AV} (hg : gd = if isEq op then !(P.eqGuardType P.depth t) else false) (hq : q = if isEq op then eqT P Op.maxDepth t else none)
    (h : abinS isC gd q op x y = some v) : abin P isC op t x y = some v := by
  have hgd : gd = true → P.eqGuardType P.depth t = false := by
    rw [hg]
    split
    · simp
    · simp
  unfold abinS at h
  split at h
  · exact h
  · exact h
  · rename_i xs ys
    split at h
    · rename_i hg
      simp only [abin]
      rw [if_pos (hgd hg)]
      exact eqO_ok hq h
    · cases h
  · split at h
    · rename_i hc
      simp only [abin]
      rw [if_pos hc]
      exact eqO_ok hq h
    · cases h
  · rename_i n1 n2 n3 n4
    have h2 := eqO_ok hq h
    unfold abin
    split
    · exact absurd rfl (n1 _ _ _ _ rfl)
    · exact absurd rfl (n2 _ _ rfl)
    · exact absurd rfl (n3 _ _ rfl)
    · exact absurd rfl (n4 rfl)
    · exact h2

theorem astoreS_ok {P : Program} {t n : Nat} {a x : AV} {H' : AHeap} (hn : szT P t = some n) (h : astoreS H n a x = some H') : astore P H t a x = some H' := by
  unfold astoreS at h
  unfold astore
  split at h
  · simp only [hn, Option.bind_some]; exact h
  · cases h
theorem aindexAddrS_ok {P : Program} {t e n : Nat} {x ix v : AV} (hu : P.underlying t = some (.slice e)) (hn : szT P e = some n) (h : aindexAddrS H n x ix = some v) : aindexAddr P H t x ix = some v := by
  unfold aindexAddrS at h
  unfold aindexAddr
  split at h
  · simp only [hu, hn, Option.bind_some]; exact h
  · simp only [hu, hn, Option.bind_some]; exact h
  · cases h
theorem aindexArrS_ok {P : Program} {t e n len : Nat} {x ix v : AV} (hu : P.underlying t = some (.array len e)) (hn : szT P e = some n) (h : aindexArrS len n x ix = some v) : aindexAddr P H t x ix = some v := by
  unfold aindexArrS at h
  unfold aindexAddr
  split at h
  · simp only [hu, hn, Option.bind_some]; exact h
  · simp only [hu, hn, Option.bind_some]; exact h
  · cases h
theorem aindexStr_ok {P : Program} {t : Nat} {x ix v : AV} (hu : P.underlying t = some .string) (h : aindexStr x ix = some v) : aindex P t x ix = some v := by
  unfold aindexStr at h
  unfold aindex
  split at h
  · simp only [hu]; exact h
  · cases h
theorem aindexAggS_ok {P : Program} {t e n len : Nat} {g : Bool} {x ix v : AV} (hu : P.underlying t = some (.array len e)) (hg : aggT P e = some g) (hn : szT P e = some n) (h : aindexAggS len g n x ix = some v) : aindex P t x ix = some v := by
  unfold aindexAggS at h
  unfold aindex
  split at h
  · simp only [hu, apart, hg, hn, Option.bind_some]; exact h
  · cases h
theorem asliceStr_ok {P : Program} {t : Nat} {x v : AV} {lo hi : Option AV} (hu : P.underlying t = some .string) (h : asliceStr x lo hi = some v) : aslice P H t x lo hi none = some v := by
  unfold asliceStr at h
  unfold aslice
  split at h
  · simp only [hu]; exact h
  · cases h
theorem asliceS_ok {P : Program} {t e n : Nat} {x v : AV} {lo hi mx : Option AV} (hu : P.underlying t = some (.slice e)) (hn : szT P e = some n) (h : asliceS H n x lo hi mx = some v) : aslice P H t x lo hi mx = some v := by
  unfold asliceS at h
  unfold aslice
  split at h
  · simp only [hu, hn, Option.bind_some]; exact h
  · simp only [hu, hn, Option.bind_some]; exact h
  · simp only [hu, hn, Option.bind_some]; exact h
  · cases h
theorem alen_ok {P : Program} {t : Nat} {x v : AV} :
    (P.underlying t = some .string → alenStr x = some v → alen P H t x = some v) ∧ (∀ e, P.underlying t = some (.slice e) → alenSl x = some v → alen P H t x = some v) ∧ (∀ k e, P.underlying t = some (.map k e) → alenMap H x = some v → alen P H t x = some v) := by
  refine ⟨fun hu h => ?_, fun e hu h => ?_, fun k e hu h => ?_⟩ <;> unfold alen <;> simp only [hu]
  · cases x <;> simp only [alenStr, reduceCtorEq] at h <;> exact h
  · cases x <;> simp only [alenSl, reduceCtorEq] at h <;> exact h
  · cases x <;> simp only [alenMap, reduceCtorEq] at h <;> exact h
theorem acapS_ok {P : Program} {t e : Nat} {x v : AV} (hu : P.underlying t = some (.slice e)) (h : acapS x = some v) : acap P t x = some v := by
  unfold acapS at h
  unfold acap
  split at h <;> simp only [hu] <;> first | exact h | cases h
theorem aappendS_ok {P : Program} {t e n b : Nat} {z s x : AV} {r : AV × AHeap} (hu : P.underlying t = some (.slice e)) (hn : szT P e = some n) (hb : byT P e = some b) (hz : zeroT P e = some z) (hs : 0 < n ∧ (rowOf z).length = n) (h : aappendS H n b s x = some r) : aappend P H t s x = some r := by
  unfold aappendS at h
  unfold aappend
  simp only [hu, hn, hb, hz, Option.bind_some]
  simp only [Option.bind_eq_some_iff] at h ⊢
  obtain ⟨xs, h1, h⟩ := h
  refine ⟨xs, h1, ?_⟩
  split at h
  · rename_i hr
    rw [if_pos ⟨hs.1, hs.2, hr⟩]
    exact h
  · cases h
theorem acopyS_ok {P : Program} {t e n : Nat} {d s : AV} {r : AV × AHeap} (hu : P.underlying t = some (.slice e)) (hn : szT P e = some n) (h : acopyS H n d s = some r) : acopy P H t d s = some r := by
  unfold acopyS at h
  unfold acopy
  split at h
  · simp only [hu, hn, Option.bind_some]; exact h
  · cases h
theorem slimCv_ok {P : Program} {s d : Nat} {sx : SX} {so : SOp} {x : AV} {r : OpR} (h : slimCv P s d sx = some so) (hx : evX fr sx = some x) (k : execS fr H so = some r) : ofVal H (aconvert P H s d x) = some r := by
  unfold slimCv at h
  split at h
  · rename_i hs hd
    cases h
    simp only [execS, hx, Option.bind_some] at k
    cases x <;> simp only [avTo, ofVal, Option.map_none, reduceCtorEq] at k
    unfold aconvert
    simp only [hs, hd]
    exact k
  · rename_i hs hd
    cases h
    simp only [execS, hx, Option.bind_some] at k
    cases x <;> simp only [avStr, ofVal, Option.map_none, reduceCtorEq] at k
    unfold aconvert
    simp only [hs, hd]
    exact k
  · rename_i e hs hd
    split at h
    · rename_i hb
      cases h
      simp only [execS, hx, Option.bind_some] at k
      cases x <;> simp only [avBytes, ofVal, Option.map_none, reduceCtorEq] at k
      unfold aconvert
      simp only [hs, hd, hb]
      exact k
    · cases h
  · rename_i e hs hd
    split at h
    · rename_i hb
      cases h
      simp only [execS, hx, Option.bind_some] at k
      unfold aconvert
      simp only [hs, hd, hb]
      cases x <;> first | (simp only [hb]; exact k) | exact k | (simp [avText, sliceRows, ofVal] at k; done)
    · cases h
  · cases h
theorem abuildSliceS_ok {P : Program} {imm : Bool} {t e n len : Nat} {z : AV} {ps : List (Nat × AV)} (hu : P.underlying t = some (.slice e)) (hn : szT P e = some n) (hz : zeroT P e = some z) (hs : (rowOf z).length = n ∧ 0 < n ∧ len * n ≤ 16777216) :
    abuildSlice P imm H t len ps = abuildSliceS imm H n (rowOf z) len ps := by
  unfold abuildSlice abuildSliceS
  simp only [hu, hn, hz, Option.bind_some]
  rw [if_pos hs]
theorem amakeSliceS_ok {P : Program} {t e n b : Nat} {z l c : AV} {r : AV × AHeap} (hu : P.underlying t = some (.slice e)) (hn : szT P e = some n) (hb : byT P e = some b) (hz : zeroT P e = some z) (hs : (rowOf z).length = n ∧ 0 < n) (h : amakeSliceS H n b (rowOf z) l c = some r) : amakeSlice P H t l c = some r := by
  unfold amakeSliceS at h
  unfold amakeSlice
  split at h
  · simp only [hu, hn, hb, hz, Option.bind_some]
    split at h
    · rename_i hc
      rw [if_pos ⟨hs.1, hs.2, hc⟩]
      exact h
    · cases h
  · cases h
theorem slimBuiltin_ok {b : Builtin} {ts : List Nat} {sargs : List SX} {so : SOp} {r : OpR} (h : slimBuiltin E b ts sargs = some so) (k : execS fr H so = some r) : ((evXs fr sargs).bind fun args => abuiltin E H b ts args) = some r := by
  unfold slimBuiltin at h
  split at h
  · rename_i t tx s x
    simp only at h
    have go : (match E.P.underlying t with
      | some (.slice e) => (szT E.P e).bind fun n => (byT E.P e).bind fun by_ => (zeroT E.P e).bind fun z => if 0 < n ∧ (rowOf z).length = n then some (SOp.app n by_ s x) else none
      | _ => none) = some so → ∃ u v q, evX fr s = some u ∧ evX fr x = some v ∧ aappend E.P H t u v = some q ∧ r = .val q.1 q.2 := by
      intro h
      split at h
      · rename_i e hu
        simp only [Option.bind_eq_some_iff] at h
        obtain ⟨n, h3, b, h4, z, h5, h⟩ := h
        split at h
        · rename_i hs
          cases h
          simp only [execS, Option.bind_eq_some_iff, ofValH, Option.map_eq_some_iff] at k
          obtain ⟨u, k1, v, k2, q, k3, k4⟩ := k
          exact ⟨u, v, q, k1, k2, aappendS_ok hu h3 h4 h5 hs k3, k4.symm⟩
        · cases h
      · cases h
    have fin : (∃ u v q, evX fr s = some u ∧ evX fr x = some v ∧ aappend E.P H t u v = some q ∧ r = .val q.1 q.2) → (∀ u v, abuiltin E H .append [t, tx] [u, v] = ofValH (aappend E.P H t u v)) → ((evXs fr [s, x]).bind fun args => abuiltin E H .append [t, tx] args) = some r := by
      intro ⟨u, v, q, k1, k2, k3, k4⟩ hb
      simp only [evXs, k1, k2, Option.bind_some, hb, ofValH, k3, Option.map_some, k4]
    split at h
    · rename_i e htx
      exact fin (go h) fun u v => by simp only [abuiltin, htx]
    · rename_i htx
      exact fin (go h) fun u v => by simp only [abuiltin, htx]
    · cases h
  · rename_i t x
    have fin : ∀ {v : AV} {q : AV}, evX fr x = some v → alen E.P H t v = some q → r = .val q H → ((evXs fr [x]).bind fun args => abuiltin E H .len [t] args) = some r := by
      intro v q k1 k2 k3
      simp only [evXs, k1, Option.bind_some, abuiltin, k2, ofVal, Option.map_some, k3]
    split at h
    · rename_i hu
      cases h
      simp only [execS, Option.bind_eq_some_iff, ofVal, Option.map_eq_some_iff] at k
      obtain ⟨u, k1, v, k2, k3⟩ := k
      exact fin k1 (alen_ok.1 hu k2) k3.symm
    · rename_i e hu
      cases h
      simp only [execS, Option.bind_eq_some_iff, ofVal, Option.map_eq_some_iff] at k
      obtain ⟨u, k1, v, k2, k3⟩ := k
      exact fin k1 (alen_ok.2.1 e hu k2) k3.symm
    · rename_i a b hu
      cases h
      simp only [execS, Option.bind_eq_some_iff, ofVal, Option.map_eq_some_iff] at k
      obtain ⟨u, k1, v, k2, k3⟩ := k
      exact fin k1 (alen_ok.2.2 a b hu k2) k3.symm
    · cases h
  · rename_i t x
    split at h
    · rename_i e hu
      cases h
      simp only [execS, Option.bind_eq_some_iff, ofVal, Option.map_eq_some_iff] at k
      obtain ⟨u, k1, v, k2, k3⟩ := k
      simp only [evXs, k1, Option.bind_some, abuiltin, acapS_ok hu k2, ofVal, Option.map_some, k3]
    · cases h
  · rename_i t tx d s
    split at h
    · rename_i e hu
      simp only [Option.map_eq_some_iff] at h
      obtain ⟨n, hn, rfl⟩ := h
      simp only [execS, Option.bind_eq_some_iff, ofValH, Option.map_eq_some_iff] at k
      obtain ⟨u, k1, v, k2, q, k3, k4⟩ := k
      simp only [evXs, k1, k2, Option.bind_some, abuiltin, acopyS_ok hu hn k3, ofValH, Option.map_some, k4]
    · cases h
  · rename_i ts x xs
    cases h
    simp only [execS, Option.bind_eq_some_iff, ofVal, Option.map_eq_some_iff] at k
    obtain ⟨u, k1, v, k2, q, k3, k4⟩ := k
    simp only [evXs, k1, k2, Option.bind_some, abuiltin, k3, ofVal, Option.map_some, k4]
  · rename_i ts x xs
    cases h
    simp only [execS, Option.bind_eq_some_iff, ofVal, Option.map_eq_some_iff] at k
    obtain ⟨u, k1, v, k2, q, k3, k4⟩ := k
    simp only [evXs, k1, k2, Option.bind_some, abuiltin, k3, ofVal, Option.map_some, k4]
  · rename_i ts x
    cases h
    simp only [execS, Option.bind_eq_some_iff] at k
    obtain ⟨v, k1, k⟩ := k
    simp only [evXs, k1, Option.bind_some]
    cases v <;> simp only [panS, reduceCtorEq] at k
    exact k
  · cases h

theorem execS_ok {ra : RAnn} {i : Nat} {o : Oper} {so : SOp} {r : OpR} (h : slimOp E ra i o = some so) (k : execS fr H so = some r) : exec E ra i fr H o = some r := by
  unfold slimOp at h
  unfold exec
  cases ho : o.op <;> rw [ho] at h <;> simp only [reduceCtorEq] at h
  case move x =>
    simp only [Option.map_eq_some_iff] at h
    obtain ⟨sx, h1, rfl⟩ := h
    simp only [slimX_ok (fr := fr) h1]; exact k
  case assign x =>
    simp only [Option.map_eq_some_iff] at h
    obtain ⟨sx, h1, rfl⟩ := h
    simp only [slimX_ok (fr := fr) h1]; exact k
  case pick c a b =>
    simp only [Option.bind_eq_some_iff, Option.map_eq_some_iff] at h
    obtain ⟨sc, h1, sa, h2, sb, h3, rfl⟩ := h
    simp only [slimX_ok (fr := fr) h1, slimX_ok (fr := fr) h2, slimX_ok (fr := fr) h3]
    simp only [execS, Option.bind_eq_some_iff] at k ⊢
    obtain ⟨cv, k1, k⟩ := k
    refine ⟨cv, k1, ?_⟩
    cases cv <;> simp only [pickS, ofVal, Option.map_none, reduceCtorEq] at k
    exact k
  case alloc t =>
    simp only [Option.bind_eq_some_iff, Option.map_eq_some_iff] at h
    obtain ⟨z, h1, row, h2, rfl⟩ := h
    simp only [h1, h2, Option.bind_some]; exact k
  case box t x =>
    simp only [Option.map_eq_some_iff] at h
    obtain ⟨sx, h1, rfl⟩ := h
    simp only [slimX_ok (fr := fr) h1]; exact k
  case build t ps =>
    simp only [Option.bind_eq_some_iff] at h
    obtain ⟨sps, h1, z, h2, h⟩ := h
    simp only [slimXP_ok (fr := fr) h1]
    split at h
    · rename_i fs hu
      simp only [Option.map_eq_some_iff] at h
      obtain ⟨pl, h3, rfl⟩ := h
      simp only [execS] at k
      simp only [abuild, h2, hu, h3, Option.bind_some]
      exact k
    · rename_i n e hu
      simp only [Option.map_eq_some_iff] at h
      obtain ⟨m, h3, rfl⟩ := h
      simp only [execS] at k
      simp only [abuild, h2, hu, h3, Option.bind_some]
      exact k
    · cases h
  case buildSlice t len ps =>
    simp only [Option.bind_eq_some_iff] at h
    obtain ⟨sps, h1, h⟩ := h
    simp only [slimXP_ok (fr := fr) h1]
    split at h
    · rename_i e hu
      simp only [Option.bind_eq_some_iff] at h
      obtain ⟨n, h2, z, h3, h⟩ := h
      split at h
      · rename_i hs
        cases h
        simp only [abuildSliceS_ok hu h2 h3 hs]
        exact k
      · cases h
    · cases h
  case load t a =>
    simp only [Option.bind_eq_some_iff, Option.map_eq_some_iff] at h
    obtain ⟨sa, h1, g, h2, n, h3, rfl⟩ := h
    simp only [slimX_ok (fr := fr) h1, aload, h2, h3, Option.bind_some]; exact k
  case store t a x =>
    simp only [Option.bind_eq_some_iff, Option.map_eq_some_iff] at h
    obtain ⟨sa, h1, sx, h2, n, h3, rfl⟩ := h
    simp only [slimX_ok (fr := fr) h1, slimX_ok (fr := fr) h2]
    simp only [execS, Option.bind_eq_some_iff, Option.map_eq_some_iff] at k ⊢
    obtain ⟨av, k1, xv, k2, H', k3, k4⟩ := k
    exact ⟨av, k1, xv, k2, H', astoreS_ok h3 k3, k4⟩
  case nilCheck x =>
    simp only [Option.map_eq_some_iff] at h
    obtain ⟨sx, h1, rfl⟩ := h
    simp only [slimX_ok (fr := fr) h1]
    simp only [execS, Option.bind_eq_some_iff] at k ⊢
    obtain ⟨v, k1, k⟩ := k
    refine ⟨v, k1, ?_⟩
    cases v <;> simp only [nckS, ofVal, Option.map_none, reduceCtorEq] at k <;> exact k
  case binOp op t x y _ =>
    simp only [Option.bind_eq_some_iff, Option.map_eq_some_iff] at h
    obtain ⟨sx, h1, sy, h2, rfl⟩ := h
    simp only [slimX_ok (fr := fr) h1, slimX_ok (fr := fr) h2]
    simp only [execS, Option.bind_eq_some_iff, ofVal, Option.map_eq_some_iff] at k ⊢
    obtain ⟨u, k1, v, k2, z, k3, k4⟩ := k
    exact ⟨u, k1, v, k2, z, abinS_ok rfl rfl k3, k4⟩
  case unOp op t x =>
    simp only [Option.map_eq_some_iff] at h
    obtain ⟨sx, h1, rfl⟩ := h
    simp only [slimX_ok (fr := fr) h1]; exact k
  case convert s d x =>
    simp only [Option.bind_eq_some_iff] at h
    obtain ⟨sx, h1, h⟩ := h
    simp only [slimX_ok (fr := fr) h1]
    cases hx : evX fr sx with
    | some v => exact slimCv_ok h hx k
    | none =>
      exfalso
      unfold slimCv at h
      split at h
      · cases h; simp [execS, hx] at k
      · cases h; simp [execS, hx] at k
      · split at h
        · cases h; simp [execS, hx] at k
        · cases h
      · split at h
        · cases h; simp [execS, hx] at k
        · cases h
      · cases h
  case makeInterface t x =>
    simp only [Option.bind_eq_some_iff] at h
    obtain ⟨sx, h1, h⟩ := h
    simp only [slimX_ok (fr := fr) h1]
    cases hu : E.P.underlying t with
    | none => rw [hu] at h; cases h
    | some d => rw [hu] at h; cases d <;> first | (cases h; exact k) | cases h
  case makeFunc f first caps =>
    cases f with
    | func f =>
      simp only at h ⊢
      split at h
      · rename_i hf
        simp only [Option.map_eq_some_iff] at h
        obtain ⟨scs, h1, rfl⟩ := h
        simp only [hf, if_true, slimXs_ok (fr := fr) h1]; exact k
      · cases h
    | _ => cases h
  case makeSlice t l c =>
    simp only [Option.bind_eq_some_iff] at h
    obtain ⟨sl, h1, sc, h2, h⟩ := h
    simp only [slimX_ok (fr := fr) h1, slimX_ok (fr := fr) h2]
    split at h
    · rename_i e hu
      simp only [Option.bind_eq_some_iff] at h
      obtain ⟨n, h3, b, h4, z, h5, h⟩ := h
      split at h
      · rename_i hs
        cases h
        simp only [execS, Option.bind_eq_some_iff, ofValH, Option.map_eq_some_iff] at k ⊢
        obtain ⟨u, k1, v, k2, q, k3, k4⟩ := k
        exact ⟨u, k1, v, k2, q, amakeSliceS_ok hu h3 h4 h5 hs k3, k4⟩
      · cases h
    · cases h
  case slice t x lo hi mx =>
    simp only [Option.bind_eq_some_iff] at h
    obtain ⟨sx, h1, slo, h2, shi, h3, smx, h4, h⟩ := h
    simp only [slimX_ok (fr := fr) h1, slimXO_ok (fr := fr) h2, slimXO_ok (fr := fr) h3, slimXO_ok (fr := fr) h4]
    split at h
    · rename_i hu
      cases h
      simp only [execS, evXO, Option.bind_eq_some_iff, ofVal, Option.map_eq_some_iff, Option.bind_some] at k ⊢
      obtain ⟨u, k1, v, k2, q, k3, z, k4, k5⟩ := k
      exact ⟨u, k1, v, k2, q, k3, z, asliceStr_ok hu k4, k5⟩
    · rename_i e hu
      simp only [Option.map_eq_some_iff] at h
      obtain ⟨n, h5, rfl⟩ := h
      simp only [execS, Option.bind_eq_some_iff, ofVal, Option.map_eq_some_iff] at k ⊢
      obtain ⟨u, k1, v, k2, q, k3, m, k4, z, k5, k6⟩ := k
      exact ⟨u, k1, v, k2, q, k3, m, k4, z, asliceS_ok hu h5 k5, k6⟩
    · cases h
  case fieldAddr s x f =>
    simp only [Option.bind_eq_some_iff] at h
    obtain ⟨sx, h1, h⟩ := h
    simp only [slimX_ok (fr := fr) h1]
    split at h
    · rename_i fs hu
      simp only [Option.bind_eq_some_iff] at h
      obtain ⟨fd, h2, n, h3, h⟩ := h
      split at h
      · cases h
      · rename_i hn
        cases h
        simp only [execS, Option.bind_eq_some_iff, ofVal, Option.map_eq_some_iff] at k ⊢
        obtain ⟨u, k1, v, k2, k3⟩ := k
        refine ⟨u, k1, v, ?_, k3⟩
        simp only [afieldAddr, hu, h2, h3, Option.bind_some]
        rw [if_neg hn]
        cases u <;> simp only [afieldAddrS, reduceCtorEq] at k2 <;> exact k2
    · cases h
  case field s x f =>
    simp only [Option.bind_eq_some_iff] at h
    obtain ⟨sx, h1, h⟩ := h
    simp only [slimX_ok (fr := fr) h1]
    split at h
    · rename_i fs hu
      simp only [Option.bind_eq_some_iff, Option.map_eq_some_iff] at h
      obtain ⟨fd, h2, g, h3, n, h4, rfl⟩ := h
      simp only [execS, Option.bind_eq_some_iff, ofVal, Option.map_eq_some_iff] at k ⊢
      obtain ⟨u, k1, v, k2, k3⟩ := k
      refine ⟨u, k1, v, ?_, k3⟩
      cases u <;> simp only [afieldS, reduceCtorEq] at k2
      simp only [afield, hu, h2, apart, h3, h4, Option.bind_some]
      exact k2
    · cases h
  case indexAddr t x ix =>
    simp only [Option.bind_eq_some_iff] at h
    obtain ⟨sx, h1, sy, h2, h⟩ := h
    simp only [slimX_ok (fr := fr) h1, slimX_ok (fr := fr) h2]
    split at h
    · rename_i e hu
      simp only [Option.map_eq_some_iff] at h
      obtain ⟨n, h3, rfl⟩ := h
      simp only [execS, Option.bind_eq_some_iff, ofVal, Option.map_eq_some_iff] at k ⊢
      obtain ⟨u, k1, v, k2, z, k3, k4⟩ := k
      exact ⟨u, k1, v, k2, z, aindexAddrS_ok hu h3 k3, k4⟩
    · rename_i len e hu
      simp only [Option.map_eq_some_iff] at h
      obtain ⟨n, h3, rfl⟩ := h
      simp only [execS, Option.bind_eq_some_iff, ofVal, Option.map_eq_some_iff] at k ⊢
      obtain ⟨u, k1, v, k2, z, k3, k4⟩ := k
      exact ⟨u, k1, v, k2, z, aindexArrS_ok hu h3 k3, k4⟩
    · cases h
  case index t x ix =>
    simp only [Option.bind_eq_some_iff] at h
    obtain ⟨sx, h1, sy, h2, h⟩ := h
    simp only [slimX_ok (fr := fr) h1, slimX_ok (fr := fr) h2]
    split at h
    · rename_i hu
      cases h
      simp only [execS, Option.bind_eq_some_iff, ofVal, Option.map_eq_some_iff] at k ⊢
      obtain ⟨u, k1, v, k2, z, k3, k4⟩ := k
      exact ⟨u, k1, v, k2, z, aindexStr_ok hu k3, k4⟩
    · rename_i len e hu
      simp only [Option.bind_eq_some_iff, Option.map_eq_some_iff] at h
      obtain ⟨g, h3, n, h4, rfl⟩ := h
      simp only [execS, Option.bind_eq_some_iff, ofVal, Option.map_eq_some_iff] at k ⊢
      obtain ⟨u, k1, v, k2, z, k3, k4⟩ := k
      exact ⟨u, k1, v, k2, z, aindexAggS_ok hu h3 h4 k3, k4⟩
    · cases h
  case extract x ix =>
    simp only [Option.map_eq_some_iff] at h
    obtain ⟨sx, h1, rfl⟩ := h
    simp only [slimX_ok (fr := fr) h1]
    simp only [execS, Option.bind_eq_some_iff] at k ⊢
    obtain ⟨v, k1, k⟩ := k
    refine ⟨v, k1, ?_⟩
    cases v <;> simp only [extS, ofVal, Option.map_none, reduceCtorEq] at k
    exact k
  case panic x =>
    simp only [Option.map_eq_some_iff] at h
    obtain ⟨sx, h1, rfl⟩ := h
    simp only [slimX_ok (fr := fr) h1]
    simp only [execS, Option.bind_eq_some_iff] at k ⊢
    obtain ⟨v, k1, k⟩ := k
    refine ⟨v, k1, ?_⟩
    cases v <;> simp only [panS, reduceCtorEq] at k
    exact k
  case call c =>
    simp only [Option.bind_eq_some_iff] at h
    obtain ⟨sargs, h1, h⟩ := h
    simp only [slimXs_ok (fr := fr) h1]
    cases hc : c.callee with
    | invoke r m => rw [hc] at h; cases h
    | value f =>
      rw [hc] at h
      simp only [Option.map_eq_some_iff] at h
      obtain ⟨sf, h2, rfl⟩ := h
      simp only [slimX_ok (fr := fr) h2]
      simp only [execS, Option.bind_eq_some_iff] at k ⊢
      obtain ⟨u, k1, v, k2, k⟩ := k
      refine ⟨u, k1, v, k2, ?_⟩
      cases v <;> simp only [callS, reduceCtorEq] at k <;> exact k
    | builtin b =>
      rw [hc] at h
      exact slimBuiltin_ok h k
end
end Go.AM
set_option linter.unusedVariables false
set_option linter.unusedSimpArgs false
namespace Go.AM
open Go

section
variable {E : Env} {cf : CallF} {nt : Nat} {ra : RAnn} {ops : List Oper}
theorem wantedS_ok {fr : Fr} {o : Oper} {b : Bool} (h : wantedS fr (slimG ops o) = some b) : wantedA ops fr o = some b := by
  unfold slimG at h
  unfold wantedA
  cases hg : o.guard with
  | none => rw [hg] at h; exact h
  | some p =>
    obtain ⟨j, want⟩ := p
    rw [hg] at h
    simp only at h ⊢
    cases hd : (ops[j]?).bind (·.dst) with
    | none => rw [hd] at h; exact h
    | some d => rw [hd] at h; exact h
theorem stepS_ok {i : Nat} {o : Oper} {so : SOp} {fr : Fr} {H : AHeap} {r : Option AV × Fr × AHeap} (h1 : slimOp E ra i o = some so) (h2 : dstOK nt o.dst = true) (h : stepS cf ⟨o.dst, so, slimG ops o⟩ fr H = some r) : stepOp E cf nt ra ops i o fr H = some r := by
  unfold stepS at h
  unfold stepOp
  simp only [Option.bind_eq_some_iff] at h ⊢
  obtain ⟨w, hw, h⟩ := h
  refine ⟨w, wantedS_ok hw, ?_⟩
  rw [if_pos h2]
  split at h
  · rename_i hwt
    rw [if_pos hwt]
    simp only [Option.bind_eq_some_iff] at h ⊢
    obtain ⟨q, hq, h⟩ := h
    exact ⟨q, execS_ok h1 hq, h⟩
  · rename_i hwt
    rw [if_neg hwt]
    exact h
theorem stepSV_ok {i : Nat} {o : Oper} {so : SOp} {fr : Fr} {H : AHeap} {r : AV × AHeap} (h1 : slimOp E ra i o = some so) (h2 : dstOK nt o.dst = true) (h : stepSV cf ⟨o.dst, so, slimG ops o⟩ fr H = some r) : stepV E cf nt ra ops i o fr H = some r := by
  unfold stepSV at h
  unfold stepV
  simp only [Option.bind_eq_some_iff] at h ⊢
  obtain ⟨w, hw, h⟩ := h
  refine ⟨w, wantedS_ok hw, ?_⟩
  rw [if_pos h2]
  split at h
  · rename_i hwt
    rw [if_pos hwt]
    simp only [Option.bind_eq_some_iff] at h ⊢
    obtain ⟨q, hq, h⟩ := h
    exact ⟨q, execS_ok h1 hq, h⟩
  · rename_i hwt
    rw [if_neg hwt]
    exact h
theorem slimOps_spec : ∀ {rest : List Oper} {i : Nat} {l : List SO}, slimOps E nt ra ops rest i = some l → l.length = rest.length ∧ ∀ (k : Nat) (o : Oper) (so : SO), rest[k]? = some o → l[k]? = some so → slimOp E ra (i + k) o = some so.op ∧ dstOK nt o.dst = true ∧ so = ⟨o.dst, so.op, slimG ops o⟩
  | [], i, l, h => by
    simp only [slimOps, Option.some.injEq] at h
    subst h
    exact ⟨rfl, fun k o so hk => by simp at hk⟩
  | o :: rest, i, l, h => by
    simp only [slimOps, Option.bind_eq_some_iff] at h
    obtain ⟨so, h1, h⟩ := h
    split at h
    · rename_i hd
      simp only [Option.map_eq_some_iff] at h
      obtain ⟨l', h2, rfl⟩ := h
      obtain ⟨k1, k2⟩ := slimOps_spec h2
      refine ⟨by simp [k1], fun k o' so' hk hl => ?_⟩
      cases k with
      | zero => cases hk; cases hl; exact ⟨h1, hd, rfl⟩
      | succ k =>
        have := k2 k o' so' (by simpa using hk) (by simpa using hl)
        rw [show i + (k + 1) = i + 1 + k by omega]
        exact this
    · cases h
theorem runS_ok : ∀ {rest : List Oper} {i : Nat} {l : List SO} {fr : Fr} {H : AHeap} {r : Ex × Fr × AHeap}, slimOps E nt ra ops rest i = some l → runS cf l fr H = some r → runOps E cf nt ra ops rest i fr H = some r
  | [], i, l, fr, H, r, h, k => by
    simp only [slimOps, Option.some.injEq] at h
    subst h
    exact k
  | o :: rest, i, l, fr, H, r, h, k => by
    simp only [slimOps, Option.bind_eq_some_iff] at h
    obtain ⟨so, h1, h⟩ := h
    split at h
    · rename_i hd
      simp only [Option.map_eq_some_iff] at h
      obtain ⟨l', h2, rfl⟩ := h
      simp only [runS, runOps, Option.bind_eq_some_iff] at k ⊢
      obtain ⟨q, k1, k⟩ := k
      refine ⟨q, stepS_ok h1 hd k1, ?_⟩
      split at k
      · exact runS_ok h2 k
      · exact k
    · cases h
def DRec.slim (d : DRec) : SRec := ⟨d.pre, d.val, d.post⟩
theorem drawS_ok : ∀ {rest : List Oper} {i : Nat} {l : List SO} {fr frE : Fr} {H HE : AHeap} {recs : List SRec}, slimOps E nt ra ops rest i = some l → drawS cf l fr H = some (recs, frE, HE) → ∃ rs, drawRecs E cf nt ra ops rest i fr H = some (rs, frE, HE) ∧ rs.map DRec.slim = recs
  | [], i, l, fr, frE, H, HE, recs, h, k => by
    simp only [slimOps, Option.some.injEq] at h
    subst h
    simp only [drawS, Option.some.injEq, Prod.mk.injEq] at k
    obtain ⟨rfl, rfl, rfl⟩ := k
    exact ⟨[], rfl, rfl⟩
  | o :: rest, i, l, fr, frE, H, HE, recs, h, k => by
    simp only [slimOps, Option.bind_eq_some_iff] at h
    obtain ⟨so, h1, h⟩ := h
    split at h
    · rename_i hd
      simp only [Option.map_eq_some_iff] at h
      obtain ⟨l', h2, rfl⟩ := h
      simp only [drawS, Option.bind_eq_some_iff, Option.map_eq_some_iff, Prod.mk.injEq] at k
      obtain ⟨q, k1, ⟨recs', frE', HE'⟩, k2, rfl, rfl, rfl⟩ := k
      obtain ⟨rs, m1, m2⟩ := drawS_ok h2 k2
      refine ⟨⟨o.dst, effOp ra i o, fr, q.1, q.2⟩ :: rs, ?_, by simp [DRec.slim, m2]⟩
      simp only [drawRecs, Option.bind_eq_some_iff, Option.map_eq_some_iff]
      exact ⟨q, stepSV_ok h1 hd k1, _, m1, rfl⟩
    · cases h
theorem heapBehind_slim {rs : List DRec} {H : AHeap} {e : Nat} : heapBehindS (rs.map DRec.slim) H e = heapBehind rs H e := by
  cases e with
  | zero => rfl
  | succ e => simp [heapBehindS, heapBehind, DRec.slim, Function.comp_def]
theorem lookS_ok {l : List SO} {rs : List DRec} {H : AHeap} (h : slimOps E nt ra ops ops 0 = some l) : ∀ {ch : List (Nat × Nat)}, lookS cf l (rs.map DRec.slim) H ch = true → lookOK E cf nt ra ops rs H ch = true
  | [], k => rfl
  | (p, e) :: ch, k => by
    simp only [lookS] at k
    split at k
    · rename_i d so He h1 h2 h3
      rw [heapBehind_slim] at h3
      simp only [List.getElem?_map, Option.map_eq_some_iff] at h1
      obtain ⟨d0, h1, rfl⟩ := h1
      split at k
      · rename_i q hq
        simp only [Bool.and_eq_true] at k
        obtain ⟨m1, m2⟩ := slimOps_spec h
        have hlt : p < ops.length := by
          rcases Nat.lt_or_ge p l.length with h | h
          · omega
          · rw [List.getElem?_eq_none h] at h2; cases h2
        obtain ⟨n1, n2, n3⟩ := m2 p ops[p] so (by rw [List.getElem?_eq_getElem hlt]) h2
        rw [Nat.zero_add] at n1
        rw [n3] at hq
        simp only [lookOK, h1, h3, List.getElem?_eq_getElem hlt]
        have hq' : stepV E cf nt ra ops p ops[p] d0.pre He = some q := stepSV_ok n1 n2 hq
        rw [hq']
        simp only [Bool.and_eq_true]
        exact ⟨k.1, lookS_ok h k.2⟩
      · cases k
    · cases k
end
end Go.AM
