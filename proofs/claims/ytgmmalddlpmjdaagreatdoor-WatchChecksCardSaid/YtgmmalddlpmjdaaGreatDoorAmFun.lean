/- AM: code, function bodies, rounds: the evaluator is sound. AM: behind a call its blocks are given up. AM: functions and rounds: the evaluator's calls are sound. -/
import Derived.Test.YtgmmalddlpmjdaaGreatDoorAmSlim
import Derived.Test.YtgmmalddlpmjdaaGreatDoorAmRel
set_option linter.unusedVariables false
set_option linter.unusedSimpArgs false
namespace Go.AM
open Go Go.RowKit

section
variable {E : Env} {w0 : World} {c : Ctx} {H : AHeap} {w w' : World}

theorem finish_q (R : Rel E w0 c H w) {nt : Nat} {ra : RAnn} {fr : Fr} {H1 : AHeap} {a : Act} {c1 : Ctx} {w1 : World} {df : List DI} {a0 : Act} (k1 : Ext c H w c1 H1 w1) (k2 : Rel E w0 c1 H1 w1) (k3 : FrRel c1 w1 nt fr a) (hd : DRel c w df a0.defers) (k4 : a.defers = a0.defers) :
    QRel E w0 c H w nt (.normal, { fr := (finish ra fr H1).1, H := (finish ra fr H1).2, df := df }) .normal a w1 := by
  obtain ⟨c2, m1, m2, m3⟩ := finish_rel (ra := ra) k2 k3
  exact ⟨c2, k1.trans R m1, m2, m3, by rw [k4]; exact hd.ext (k1.trans R m1), rfl⟩

theorem inS_replicate (n k : Nat) : inS (Array.replicate n false) k = false := by
  unfold inS
  simp only [Array.getD_eq_getD_getElem?, Array.getElem?_replicate]
  split <;> rfl
theorem code_wp (OK : EnvOK E) {cf : CallF} (CO : CallOK E w0 cf) {k f nt n : Nat} {rd : Bool} {ro : Option Nat} (hro : rd = false → ro = none) : ∀ (code : Code) {sc : SC} {c : Ctx} {w : World} {a : Act} {s : St} {r : Ex × St},
    slimCode E f nt code = some sc → evalCode cf k f nt rd sc s = some r → Rel E w0 c s.H w → FrRel c w nt s.fr a → DRel c w s.df a.defers → code.wpIn (FW ro) n E.P (QRel E w0 c s.H w nt r) a w
  | .skip, sc, c, w, a, s, r, hc, h, R, hf, hd => by
    simp only [slimCode, Option.some.injEq] at hc
    subst hc
    simp only [evalCode, Option.some.injEq] at h
    subst h
    exact wpIn_skip ⟨c, Ext.refl _ _ _, R, hf, hd, rfl⟩
  | .region id ops false, sc, c, w, a, s, r, hc, h, R, hf, hd => by
    simp only [slimCode, Option.map_eq_some_iff] at hc
    obtain ⟨l, hl, rfl⟩ := hc
    simp only [evalCode, Option.map_eq_some_iff] at h
    obtain ⟨⟨x, fr', H'⟩, h1, h2⟩ := h
    refine wpIn_region ?_
    rw [List.range_eq_range', ← Array.length_toList]
    refine runOps_wp OK CO R hf rfl (runS_ok hl h1) fun c' a' w' e k1 k2 k3 k4 k5 => ?_
    cases x with
    | normal =>
      subst h2
      cases k5
      exact finish_q (ra := E.ann f id) R k1 k2 k3 hd k4
    | _ =>
      subst h2
      exact ⟨c', k1, k2, k3, by rw [k4]; exact hd.ext k1, k5⟩
  | .region id ops true, sc, c, w, a, s, r, hc, h, R, hf, hd => by
    simp only [slimCode] at hc
    split at hc
    · rename_i hdr
      simp only [Option.map_eq_some_iff] at hc
      obtain ⟨l, hsl, rfl⟩ := hc
      obtain ⟨anc, effs, F⟩ := drawOK_facts hdr
      simp only [evalCode, Option.bind_eq_some_iff] at h
      obtain ⟨⟨srecs, frE, HE⟩, hr0, h1⟩ := h
      obtain ⟨recs, hr, hmap⟩ := drawS_ok hsl hr0
      subst hmap
      split at h1
      · rename_i hl0
        have hl := lookS_ok hsl hl0
        cases h1
        obtain ⟨e1, R1⟩ := R.turn (w' := { w with drawn := w.drawn + 1 }) rfl ⟨rfl, rfl, rfl, Nat.le_refl _, fun _ _ => rfl⟩
        refine wpIn_region_any OK.mixed (draw_wp OK CO R1 (df0 := a.defers) F hr hl (fun c' a' w' k1 k2 k3 k4 => ?_) ops.size (Array.replicate ops.size false) a _ c ?_ ⟨by simp, fun j hj => ?_, ?_, ?_, ?_, rfl⟩)
        · exact finish_q (ra := E.ann f id) R (e1.trans R k1) k2 k3 hd k4
        · simp [Array.count_replicate]
        · exfalso
          rw [inS_replicate] at hj
          cases hj
        all_goals
          have hF : ∀ k, 0 ≤ k → inS (Array.replicate ops.size false) k = false := by
            intro k _
            exact inS_replicate _ _
        · rw [hpAt_none hF]; exact R1
        · rw [hpAt_none hF]; exact Ext.refl _ _ _
        · rw [frAt_none hF]; exact hf.ext e1
      · cases h1
    · cases hc
  | .seq x y, sc, c, w, a, s, r, hc, h, R, hf, hd => by
    simp only [slimCode, Option.bind_eq_some_iff, Option.map_eq_some_iff] at hc
    obtain ⟨sx, hcx, sy, hcy, rfl⟩ := hc
    simp only [evalCode, Option.bind_eq_some_iff] at h
    obtain ⟨r1, h1, h⟩ := h
    refine wpIn_seq (wpIn_mono (code_wp OK CO hro x hcx h1 R hf hd) fun e a' w' q => ?_)
    obtain ⟨c', q1, q2, q3, q4, q5⟩ := q
    split at h
    · rename_i hn
      rw [hn] at q5
      cases q5
      exact wpIn_mono (code_wp OK CO hro y hcy h q2 q3 q4) fun e a' w' q => QRel.trans R q1 q
    · rename_i e1 hn
      cases h
      have hQ : QRel E w0 c s.H w nt (r1.1, r1.2) e a' w' := ⟨c', q1, q2, q3, q4, q5⟩
      cases e with
      | normal =>
        exfalso
        revert q5 hn
        cases r1.1 <;> simp [ExRel]
      | _ => exact hQ
  | .cond g x y, sc, c, w, a, s, r, hc, h, R, hf, hd => by
    simp only [slimCode, Option.bind_eq_some_iff, Option.map_eq_some_iff] at hc
    obtain ⟨sg, hcg, sx, hcx, sy, hcy, rfl⟩ := hc
    simp only [evalCode, Option.bind_eq_some_iff] at h
    obtain ⟨v, hv, h⟩ := h
    rw [← slimX_ok (E := E) hcg] at hv
    have hr := ev_rel R hf hv
    cases v with
    | bool b =>
      simp only [VRel] at hr
      cases b with
      | true => exact wpIn_cond_true hr (code_wp OK CO hro x hcx h R hf hd)
      | false => exact wpIn_cond_false hr (code_wp OK CO hro y hcy h R hf hd)
    | _ => simp at h
  | .block id x, sc, c, w, a, s, r, hc, h, R, hf, hd => by
    simp only [slimCode, Option.map_eq_some_iff] at hc
    obtain ⟨sx, hc, rfl⟩ := hc
    simp only [evalCode, Option.map_eq_some_iff] at h
    obtain ⟨r1, h1, h⟩ := h
    refine wpIn_block (wpIn_mono (code_wp OK CO hro x hc h1 R hf hd) fun e a' w' q => ?_)
    obtain ⟨c', q1, q2, q3, q4, q5⟩ := q
    obtain ⟨x1, s1⟩ := r1
    cases x1 with
    | exit id' =>
      cases q5
      simp only [Exit.inBlock]
      simp only at h
      split
      · rename_i e
        rw [if_pos e] at h
        subst h
        exact ⟨c', q1, q2, q3, q4, rfl⟩
      · rename_i e
        rw [if_neg e] at h
        subst h
        exact ⟨c', q1, q2, q3, q4, rfl⟩
    | normal => cases q5; subst h; exact ⟨c', q1, q2, q3, q4, rfl⟩
    | ret => cases q5; subst h; exact ⟨c', q1, q2, q3, q4, rfl⟩
    | pan v =>
      obtain ⟨u, rfl, hu⟩ := q5
      subst h
      exact ⟨c', q1, q2, q3, q4, u, rfl, hu⟩
  | .loop x, sc, c, w, a, s, r, hc, h, R, hf, hd => by
    simp only [slimCode, Option.map_eq_some_iff] at hc
    obtain ⟨sx, hc, rfl⟩ := hc
    simp only [evalCode] at h
    exact wpIn_loop_rounds k (iter_wp (f := fun _ => True) (fun h R hf hd => code_wp OK CO hro x hc h R hf hd) k h R hf hd)
  | .rangeFunc g ps asg body, sc, c, w, a, s, r, hc, h, R, hf, hd => by
    simp only [slimCode, Option.bind_eq_some_iff] at hc
    obtain ⟨sg, hcg, sasg, hca, sbody, hcb, hc⟩ := hc
    split at hc
    case isFalse => cases hc
    rename_i hps
    cases hc
    simp only [evalCode] at h
    split at h
    · cases h
    · rename_i hrd
      have hrd' : rd = false := by simpa using hrd
      have hro' := hro hrd'
      subst hro'
      simp only [Option.bind_eq_some_iff] at h
      obtain ⟨fv, hfv, h⟩ := h
      rw [← slimX_ok (E := E) hcg] at hfv
      have hfr := ev_rel R hf hfv
      cases fv with
      | fn gf caps =>
        simp only [Option.bind_eq_some_iff] at h
        obtain ⟨⟨fr1, H3⟩, hcall, h⟩ := h
        have hg := CO.known hcall
        obtain ⟨fn, hfn, hbody, hname⟩ := OK.fns gf hg
        simp only [VRel] at hfr
        obtain ⟨us, he, hus⟩ := hfr
        have hbn : fn.body.isNone = false := by
          cases hb : fn.body with
          | none => rw [hb] at hbody; cases hbody
          | some b => rfl
        refine wpIn_rangeFunc fun fnb _ => ?_
        -- the two blocks
        let o1 : Obj := .deferred (some [])
        let o2 : Obj := .loop { state := .ready, pending := none, fn := fnb, tmps := a.tmps, params := ps, assign := asg, body := body, defers := w.heap.size }
        have hsz1 : (w.alloc o1).heap.size = w.heap.size + 1 := by simp
        obtain ⟨c1, hc1, e1, R1⟩ : ∃ c1 : Ctx, c1.rho s.H.next = some ⟨w.heap.size, 0, 0, 0⟩ ∧ Ext c s.H w c1 (s.H.add .dfr) (w.alloc o1) ∧ Rel E w0 c1 (s.H.add .dfr) (w.alloc o1) := ⟨_, by simp [Ctx.addR], R.add (w' := w.alloc o1) (l := ⟨w.heap.size, 0, 0, 0⟩) (blk := .dfr) ((Below.refl _ _).alloc (Nat.le_refl _) o1) (Nat.le_refl _) (by rw [hsz1]; exact Nat.lt_succ_self _)
          (fun c' _ _ _ => World.alloc_heap_new w o1)⟩
        have hnew : ((w.alloc o1).alloc o2).heap[w.heap.size + 1]? = some o2 := by
          have := World.alloc_heap_new (w.alloc o1) o2
          rwa [hsz1] at this
        obtain ⟨c2, hc2, e2, R2⟩ : ∃ c2 : Ctx, c2.rho (s.H.next + 1) = some ⟨w.heap.size + 1, 0, 0, 0⟩ ∧ Ext c1 (s.H.add .dfr) (w.alloc o1) c2 ((s.H.add .dfr).add (.loop .ready none f nt s.fr ps.toList sasg sbody)) ((w.alloc o1).alloc o2) ∧
          Rel E w0 c2 ((s.H.add .dfr).add (.loop .ready none f nt s.fr ps.toList sasg sbody)) ((w.alloc o1).alloc o2) := ⟨_, by simp [Ctx.addR, AHeap.add], R1.add (w' := (w.alloc o1).alloc o2) (l := ⟨w.heap.size + 1, 0, 0, 0⟩) (blk := .loop .ready none f nt s.fr ps.toList sasg sbody) ((Below.refl _ _).alloc (Nat.le_refl _) o2) (by rw [hsz1]; exact Nat.le_refl _)
          (by simp) (fun c' k1 k2 k3 => ⟨fnb, a.tmps, w.heap.size, asg, body, by simpa [lst, o2] using hnew, ⟨hf.size, fun t v hv => by
            have h1 := (hf.ext e1).val t v hv
            exact ⟨h1.1, VRel.mono k1 k2 k3 _ _ h1.2⟩⟩, hca, hcb, hps⟩)⟩
        have e12 := e1.trans R e2
        have hyl : VRels c2 ((w.alloc o1).alloc o2) [AV.yld (s.H.next + 1)] [Value.func (.yield (w.heap.size + 1)) #[] #[]] := by
          simp only [VRels, VRel]
          exact ⟨_, _, rfl, ⟨⟨w.heap.size + 1, 0, 0, 0⟩, hc2, rfl⟩, rfl⟩
        have hargs : VRels c2 ((w.alloc o1).alloc o2) ([AV.yld (s.H.next + 1)] ++ caps) ((#[Value.func (.yield (w.heap.size + 1)) #[] #[]] ++ us : Array Value)).toList := by
          simpa using hyl.append (e12.vrels hus)
        refine ⟨w.heap.size + 1, [{ target := .collected w.heap.size, args := #[] }], (w.alloc o1).alloc o2, { target := .fn (.func gf) us, args := #[.func (.yield (w.heap.size + 1)) #[] #[]] }, (w.alloc o1).alloc o2, gf, #[.func (.yield (w.heap.size + 1)) #[] #[]] ++ us, (w.alloc o1).alloc o2,
          run_enterLoop_outer fnb a.tmps ps asg body, ?_, fun _ _ => trivial, ?_, fun hd => by simp [FW, Fence.wide] at hd, ?_⟩
        · have hcst : a.eval (.const (.func (.yield (w.heap.size + 1)) #[] #[])) = .func (.yield (w.heap.size + 1)) #[] #[] := rfl
          simp [resolve, rangeCall, he, Deferred.ofValue, hcst]
        · simp only [invoke, callFunc, Sem.run_bind, run_program, Result.andThen_ok, hfn]
          simp [hname, hbn]
        · refine (fw_calls (CO.fn R2 hargs hcall _)).mono fun e w3 hp => ?_
          obtain ⟨c3, p1, p2, p3⟩ := hp
          cases fr1 with
          | pan v => cases h
          | ret v =>
            obtain ⟨u, rfl, _⟩ := p3
            simp only at h
            cases hgt : H3.get (s.H.next + 1) with
            | none => rw [hgt] at h; cases h
            | some blk =>
              rw [hgt] at h
              cases blk with
              | loop st pend f' nt' fr' ps' asg' body' =>
                simp only at h
                split at h
                · cases h
                · rename_i hbusy
                  simp only [Option.map_eq_some_iff] at h
                  obtain ⟨x, hx, h⟩ := h
                  obtain ⟨l, m1, m2, m3, fb, tmps, d, asgC, bodyC, m4, m5⟩ := p2.live _ _ hgt
                  have hl : l.blk = w.heap.size + 1 := by
                    have := p1.rho (s.H.next + 1) ⟨w.heap.size + 1, 0, 0, 0⟩ hc2
                    rw [m1] at this
                    cases this; rfl
                  rw [hl] at m4
                  have hend := run_endLoop (P := E.P) m4 (by cases st <;> simp_all [lst])
                  obtain ⟨e4, R4⟩ := p2.drop (o := .loop { state := LoopState.exhausted, pending := pend, fn := fb, tmps := tmps, params := ps'.toArray, assign := asgC, body := bodyC, defers := d }) hgt m1
                  rw [hl] at e4 R4
                  have e34 := e12.trans R (p1.trans R2 e4)
                  have hdm : DRel c3 (w3.putObj (w.heap.size + 1) (.loop { state := LoopState.exhausted, pending := pend, fn := fb, tmps := tmps, params := ps'.toArray, assign := asgC, body := bodyC, defers := d })) (.mark s.H.next :: s.df)
                      ({ target := .collected w.heap.size, args := #[] } :: a.defers) := by
                    refine ⟨⟨w.heap.size, 0, 0, 0⟩, a.defers, ?_, rfl, hd.ext e34⟩
                    exact p1.rho _ _ (e2.rho _ _ hc1)
                  have hfin : ∀ e, ExRel c3 (w3.putObj (w.heap.size + 1) (.loop { state := LoopState.exhausted, pending := pend, fn := fb, tmps := tmps, params := ps'.toArray, assign := asgC, body := bodyC, defers := d })) x e →
                      QRel E w0 c s.H w nt r e { a with defers := [{ target := .collected w.heap.size, args := #[] }] ++ a.defers } (w3.putObj (w.heap.size + 1) (.loop { state := LoopState.exhausted, pending := pend, fn := fb, tmps := tmps, params := ps'.toArray, assign := asgC, body := bodyC, defers := d })) := by
                    intro e hex
                    subst h
                    exact ⟨c3, e34, R4, ⟨hf.size, (hf.ext e34).val⟩, hdm, hex⟩
                  refine ⟨pend, _, hend, ?_⟩
                  cases pend with
                  | none =>
                    simp only [jumpEx, Option.some.injEq] at hx
                    subst hx
                    exact hfin .normal rfl
                  | some j =>
                    simp only
                    cases j with
                    | ret =>
                      simp only [jumpEx, Option.some.injEq] at hx
                      subst hx
                      exact wpIn_ret (hfin .ret rfl)
                    | exit id =>
                      simp only [jumpEx, Option.some.injEq] at hx
                      subst hx
                      exact wpIn_exit (hfin (.exit id) rfl)
                    | _ => simp [jumpEx] at hx
              | _ => simp at h
      | _ => simp at h
  | .exit id, sc, c, w, a, s, r, hc, h, R, hf, hd => by
    simp only [slimCode, Option.some.injEq] at hc
    subst hc
    simp only [evalCode, Option.some.injEq] at h
    subst h
    exact wpIn_exit ⟨c, Ext.refl _ _ _, R, hf, hd, rfl⟩
  | .ret, sc, c, w, a, s, r, hc, h, R, hf, hd => by
    simp only [slimCode, Option.some.injEq] at hc
    subst hc
    simp only [evalCode, Option.some.injEq] at h
    subst h
    exact wpIn_ret ⟨c, Ext.refl _ _ _, R, hf, hd, rfl⟩
  | .scope x, sc, c, w, a, s, r, hc, h, R, hf, hd => by simp [slimCode] at hc
  | .label _, sc, c, w, a, s, r, hc, h, R, hf, hd => by simp [slimCode] at hc
  | .goto _, sc, c, w, a, s, r, hc, h, R, hf, hd => by simp [slimCode] at hc
  | .refuse _, sc, c, w, a, s, r, hc, h, R, hf, hd => by simp [slimCode] at hc
end
end Go.AM
set_option linter.unusedVariables false
namespace Go.AM
open Go Go.RowKit

def Ctx.cut (c : Ctx) (n : Nat) : Ctx := { c with rho := fun id => if id < n then c.rho id else none }
theorem Ctx.cut_rho {c : Ctx} {n id : Nat} {x : Loc} : (c.cut n).rho id = some x ↔ id < n ∧ c.rho id = some x := by
  simp only [Ctx.cut]
  split
  · rename_i h; simp [h]
  · rename_i h; simp [h]
theorem blt_lt {a b : Nat} (h : Nat.blt a b = true) : a < b := by simpa [Nat.blt_eq] using h

mutual
theorem VRel.cut {c : Ctx} {w : World} {n : Nat} : ∀ {x : AV} {v : Value}, x.under n = true → VRel c w x v → VRel (c.cut n) w x v
  | .bool b, v, _, h => h
  | .int k m, v, _, h => h
  | .str s, v, _, h => h
  | .nilptr, v, _, h => h
  | .imm row off, v, u, h => by
    simp only [AV.under] at u
    simp only [VRel] at h ⊢
    obtain ⟨b, o, cs, t, fr, hv, hI, hh, hs⟩ := h
    exact ⟨b, o, cs, t, fr, hv, hI, hh, VRels.cut u hs⟩
  | .ptr id r off, v, u, h => by
    simp only [AV.under] at u
    simp only [VRel] at h ⊢
    obtain ⟨l, h1, h2⟩ := h
    exact ⟨l, Ctx.cut_rho.2 ⟨blt_lt u, h1⟩, h2⟩
  | .nilsl, v, _, h => h
  | .isl rows cap, v, u, h => by
    simp only [AV.under] at u
    simp only [VRel] at h ⊢
    obtain ⟨a, k, h1, h2, h3, h4⟩ := h
    refine ⟨a, k, h1, h2, h3, ?_⟩
    rcases h4 with h4 | ⟨cs, t, fr, sz, hsp, hI, hh, hsz, hs⟩
    · exact .inl h4
    · exact .inr ⟨cs, t, fr, sz, hsp, hI, hh, hsz, VRelss.cut u hs⟩
  | .msl id lo len cap, v, u, h => by
    simp only [AV.under] at u
    simp only [VRel] at h ⊢
    obtain ⟨l, a, k, h1, h2⟩ := h
    exact ⟨l, a, k, Ctx.cut_rho.2 ⟨blt_lt u, h1⟩, h2⟩
  | .nilmap, v, _, h => h
  | .map id, v, u, h => by
    simp only [AV.under] at u
    simp only [VRel] at h ⊢
    obtain ⟨l, h1, h2⟩ := h
    exact ⟨l, Ctx.cut_rho.2 ⟨blt_lt u, h1⟩, h2⟩
  | .fn f caps, v, u, h => by
    simp only [AV.under] at u
    simp only [VRel] at h ⊢
    obtain ⟨us, h1, h2⟩ := h
    exact ⟨us, h1, VRels.cut u h2⟩
  | .nilfn, v, _, h => h
  | .yld id, v, u, h => by
    simp only [AV.under] at u
    simp only [VRel] at h ⊢
    obtain ⟨l, h1, h2⟩ := h
    exact ⟨l, Ctx.cut_rho.2 ⟨blt_lt u, h1⟩, h2⟩
  | .ifc t x, v, u, h => by
    simp only [AV.under] at u
    simp only [VRel] at h ⊢
    obtain ⟨y, h1, h2⟩ := h
    exact ⟨y, h1, VRel.cut u h2⟩
  | .nilifc, v, _, h => h
  | .agg xs, v, u, h => by
    simp only [AV.under] at u
    simp only [VRel] at h ⊢
    obtain ⟨us, h1, h2⟩ := h
    exact ⟨us, h1, VRels.cut u h2⟩
  | .tup xs, v, u, h => by
    simp only [AV.under] at u
    simp only [VRel] at h ⊢
    obtain ⟨us, h1, h2⟩ := h
    exact ⟨us, h1, VRels.cut u h2⟩
  | .junk, v, _, h => h
theorem VRels.cut {c : Ctx} {w : World} {n : Nat} : ∀ {xs : List AV} {us : List Value}, AV.unders n xs = true → VRels c w xs us → VRels (c.cut n) w xs us
  | [], us, _, h => h
  | x :: xs, us, u, h => by
    simp only [AV.unders, Bool.and_eq_true] at u
    simp only [VRels] at h ⊢
    obtain ⟨y, r, h1, h2, h3⟩ := h
    exact ⟨y, r, h1, VRel.cut u.1 h2, VRels.cut u.2 h3⟩
theorem VRelss.cut {c : Ctx} {w : World} {n : Nat} : ∀ {xs : List (List AV)} {us : List Value}, AV.underss n xs = true → VRelss c w xs us → VRelss (c.cut n) w xs us
  | [], us, _, h => trivial
  | x :: xs, us, u, h => by
    simp only [AV.underss, Bool.and_eq_true] at u
    simp only [VRelss] at h ⊢
    exact ⟨VRels.cut u.1 h.1, VRelss.cut u.2 h.2⟩
end
theorem frUnder_get {n : Nat} : ∀ {fr : Fr} {t : Nat} {v : AV}, frUnder n fr = true → Fr.get fr t = some v → v.under n = true
  | [], t, v, _, h => by simp [Fr.get] at h
  | (k, u) :: r, t, v, hu, h => by
    simp only [frUnder, Bool.and_eq_true] at hu
    simp only [Fr.get] at h
    split at h
    · cases h; exact hu.1
    · exact frUnder_get hu.2 h
theorem BRel.cut {E : Env} {c : Ctx} {w : World} {l : Loc} {n : Nat} {b : ABlk} (hu : b.under n = true) (h : BRel E c w l b) : BRel E (c.cut n) w l b := by
  cases b with
  | cells sz rows =>
    obtain ⟨h1, h2, cs, t, h3, h4, h5, h6⟩ := h
    exact ⟨h1, h2, cs, t, h3, h4, h5, VRelss.cut hu h6⟩
  | map es => exact h
  | loop st pend fn nt fr ps asg body =>
    obtain ⟨f', tmps, d, asgC, bodyC, h1, ⟨h2, h3⟩, h4⟩ := h
    exact ⟨f', tmps, d, asgC, bodyC, h1, ⟨h2, fun t v e => ⟨(h3 t v e).1, VRel.cut (frUnder_get hu e) (h3 t v e).2⟩⟩, h4⟩
  | dfr => exact h
  | obj k d =>
    simp only [BRel] at h ⊢
    simp only [ABlk.under] at hu
    unfold KRel at h ⊢
    split at h
    · exact h
    · obtain ⟨p, lb, h1, h0, h2, h3⟩ := h
      simp only [AV.unders, AV.under, Bool.and_eq_true] at hu
      exact ⟨p, lb, h1, h0, Ctx.cut_rho.2 ⟨blt_lt hu.1, h2⟩, h3⟩
    · exact h
    · exact h
theorem lookup_cut {n i : Nat} {b : ABlk} : ∀ {l : List (Nat × ABlk)}, lookupB (blksCut n l) i = some b → i < n ∧ lookupB l i = some b
  | [], h => by simp [blksCut, lookupB] at h
  | (k, x) :: r, h => by
    simp only [blksCut] at h
    split at h
    · rename_i hk
      simp only [lookupB] at h ⊢
      split at h
      · rename_i e; cases h; subst e; exact ⟨blt_lt hk, by simp⟩
      · rename_i e; obtain ⟨h1, h2⟩ := lookup_cut h; exact ⟨h1, by simp [e, h2]⟩
    · rename_i hk
      obtain ⟨h1, h2⟩ := lookup_cut h
      refine ⟨h1, ?_⟩
      simp only [lookupB]
      rw [if_neg (fun e => hk (by subst e; simpa [Nat.blt_eq] using h1))]
      exact h2
theorem blksUnder_get {n : Nat} : ∀ {l : List (Nat × ABlk)} {i : Nat} {b : ABlk}, blksUnder n l = true → lookupB l i = some b → b.under n = true
  | [], i, b, _, h => by simp [lookupB] at h
  | (k, x) :: r, i, b, hu, h => by
    simp only [blksUnder, Bool.and_eq_true] at hu
    simp only [lookupB] at h
    split at h
    · cases h; exact hu.1
    · exact blksUnder_get hu.2 h
theorem dropH_ok {E : Env} {w0 : World} {c c1 : Ctx} {H H1 : AHeap} {w w1 : World} (R : Rel E w0 c H w) (h : Ext c H w c1 H1 w1) (R1 : Rel E w0 c1 H1 w1) {v : AV} {u : Value} (hv : VRel c1 w1 v u) (dr : Bool) :
    ∃ c2, Ext c H w c2 (dropH dr H.next v H1) w1 ∧ Rel E w0 c2 (dropH dr H.next v H1) w1 ∧ VRel c2 w1 v u := by
  unfold dropH
  cases dr with
  | false => exact ⟨c1, h, R1, hv⟩
  | true =>
    simp only
    split
    · rename_i hb
      simp only [Bool.and_eq_true] at hb
      have hget : ∀ {i : Nat} {b : ABlk}, AHeap.get ⟨H.next, blksCut H.next H1.blks⟩ i = some b → i < H.next ∧ H1.get i = some b := fun k => lookup_cut k
      have hsome : ∀ {i : Nat}, (AHeap.get ⟨H.next, blksCut H.next H1.blks⟩ i).isSome = true → i < H.next ∧ (H1.get i).isSome = true := by
        intro i k
        obtain ⟨b, hb⟩ := Option.isSome_iff_exists.1 k
        obtain ⟨k1, k2⟩ := hget hb
        exact ⟨k1, by rw [k2]; rfl⟩
      refine ⟨c1.cut H.next, ⟨fun id x hx => Ctx.cut_rho.2 ⟨R.dom _ _ hx, h.rho _ _ hx⟩, h.imm, h.inew, Nat.le_refl _, h.size, h.keep, h.frame, fun id x k1 k2 => h.fresh id x (hsome k1).2 (Ctx.cut_rho.1 k2).2⟩,
        ⟨fun id x k => (Ctx.cut_rho.1 k).1, fun id k => (hsome k).1, fun id blk k => ?_, fun id id' x x' k1 k2 k3 k4 k5 => R1.inj id id' x x' (hsome k1).2 (hsome k2).2 k3 (Ctx.cut_rho.1 k4).2 (Ctx.cut_rho.1 k5).2, R1.ilt, R1.old, R1.below, fun g row hg => ?_⟩, VRel.cut hb.1 hv⟩
      · obtain ⟨k1, k2⟩ := hget k
        obtain ⟨l, k3, k4, k5, k6⟩ := R1.live id blk k2
        exact ⟨l, Ctx.cut_rho.2 ⟨k1, k3⟩, k4, k5, BRel.cut (blksUnder_get hb.2 k) k6⟩
      · exact VRel.mono (c := c) (c' := c1.cut H.next) (fun id x hx => Ctx.cut_rho.2 ⟨R.dom _ _ hx, h.rho _ _ hx⟩) h.imm h.keep _ _ (R.glob g row hg)
    · exact ⟨c1, h, R1, hv⟩
end Go.AM
set_option linter.unusedVariables false
set_option linter.unusedSimpArgs false
namespace Go.AM
open Go Go.RowKit

/-- The functions that are known by what they come to. -/
def ExtOK (E : Env) (w0 : World) (ext : ExtF) : Prop := ∀ g e, ext g = some e → E.fns g = true ∧ ∀ {c : Ctx} {H : AHeap} {w : World} {args : List AV} {us : Array Value} {r : FR × AHeap}, Rel E w0 c H w → VRels c w args us.toList → e args H = some r →
  ∀ n, CallsIn Fence.wide n E.P g us w (CPost E w0 c H w r)
/-- The functions that are evaluated are the program's. -/
def TabOK (E : Env) (S : SEnv) : Prop := ∀ g sf, S.ext g = none → S.funs g = some sf → E.fns g = true ∧ ∃ fn, E.P.funcs[g]? = some fn ∧ slimFn E g fn = some sf

section
variable {E : Env} {w0 : World} {c : Ctx} {H : AHeap} {w w' : World}

theorem run_mapM_rel (g : ResultVar → Sem Value) : ∀ {rs : List ResultVar} {vs : List AV}, (∀ r, r ∈ rs → True) → (List.length rs = vs.length) → (∀ (k : Nat) (r : ResultVar) (v : AV), rs[k]? = some r → vs[k]? = some v → ∃ u, (g r).run E.P w = .ok u w ∧ VRel c w v u) →
    ∃ us, (rs.mapM g).run E.P w = .ok us w ∧ VRels c w vs us
  | [], [], _, _, h => ⟨[], by simp [Sem.run_pure], by simp [VRels]⟩
  | [], v :: vs, _, hl, h => by simp at hl
  | r :: rs, [], _, hl, h => by simp at hl
  | r :: rs, v :: vs, _, hl, h => by
    obtain ⟨u, h1, h2⟩ := h 0 r v rfl rfl
    obtain ⟨us, h3, h4⟩ := run_mapM_rel g (rs := rs) (vs := vs) (fun _ _ => trivial) (by simpa using hl) fun k r v hr hv => h (k + 1) r v (by simpa using hr) (by simpa using hv)
    refine ⟨u :: us, ?_, by simp only [VRels]; exact ⟨u, us, rfl, h2, h4⟩⟩
    simp only [List.mapM_cons, Sem.run_bind, h1, Result.andThen_ok, h3, Sem.run_pure]
theorem resultsOf_spec {fr : Fr} : ∀ {rs : List ResultVar} {srs : List SRes} {vs : List AV}, slimRes E rs = some srs → resultsOf fr H srs = some vs → rs.length = vs.length ∧ ∀ (k : Nat) (r : ResultVar) (v : AV), rs[k]? = some r → vs[k]? = some v → (match r with
    | .tmp t => fr.get t = some v
    | .cell a t => ∃ p, fr.get a = some p ∧ aload E.P H t p = some v)
  | [], srs, vs, hs, h => by
    simp only [slimRes, Option.some.injEq] at hs
    subst hs
    simp only [resultsOf, Option.some.injEq] at h
    subst h
    exact ⟨rfl, fun k r v hr => by simp at hr⟩
  | .tmp t :: rs, srs, vs, hs, h => by
    simp only [slimRes, Option.map_eq_some_iff] at hs
    obtain ⟨srs', hs, rfl⟩ := hs
    simp only [resultsOf, Option.bind_eq_some_iff, Option.map_eq_some_iff] at h
    obtain ⟨v, hv, vs', h1, rfl⟩ := h
    obtain ⟨h2, h3⟩ := resultsOf_spec hs h1
    refine ⟨by simp [h2], fun k r v' hr hv' => ?_⟩
    cases k with
    | zero => cases hr; cases hv'; exact hv
    | succ k => exact h3 k r v' (by simpa using hr) (by simpa using hv')
  | .cell a t :: rs, srs, vs, hs, h => by
    simp only [slimRes, Option.bind_eq_some_iff, Option.map_eq_some_iff] at hs
    obtain ⟨g, hg, n, hn, srs', hs, rfl⟩ := hs
    simp only [resultsOf, Option.bind_eq_some_iff, Option.map_eq_some_iff] at h
    obtain ⟨p, hp, v, hv, vs', h1, rfl⟩ := h
    obtain ⟨h2, h3⟩ := resultsOf_spec hs h1
    refine ⟨by simp [h2], fun k r v' hr hv' => ?_⟩
    cases k with
    | zero =>
      cases hr; cases hv'
      refine ⟨p, hp, ?_⟩
      simp only [aload, hg, hn, Option.bind_some]
      simp only [Option.bind_eq_some_iff]
      exact hv
    | succ k => exact h3 k r v' (by simpa using hr) (by simpa using hv')
theorem asAddr_of {t : TypeId} {u x : Value} {w w' : World} (h : (Instr.loadAt t u).run E.P w = .ok x w') : (do loadVar t (← asAddr u) : Sem Value).run E.P w = .ok x w' := by
  unfold Instr.loadAt at h
  cases u with
  | pointer a =>
    cases a with
    | some a => simpa [Instr.sureAddr, asAddr] using h
    | none => simp [Instr.sureAddr, stuck, Sem.run_bind] at h
  | _ => simp [Instr.sureAddr, stuck, Sem.run_bind] at h
theorem results_rel (R : Rel E w0 c H w) {nt : Nat} {fr : Fr} {a : Act} {fn : Func} {srs : List SRes} {vs : List AV} (hf : FrRel c w nt fr a) (hs : slimRes E fn.results.toList = some srs) (h : resultsOf fr H srs = some vs) :
    ∃ u, (results fn a.tmps).run E.P w = .ok u w ∧ VRel c w (packR vs) u := by
  obtain ⟨h1, h2⟩ := resultsOf_spec hs h
  unfold results
  rw [Array.mapM_eq_mapM_toList]
  obtain ⟨us, h3, h4⟩ := run_mapM_rel (E := E) (c := c) (w := w) (fun
    | .tmp t => pure (a.tmps.getD t undef)
    | .cell b t => do loadVar t (← asAddr (a.tmps.getD b undef))) (rs := fn.results.toList) (vs := vs) (fun _ _ => trivial) h1 (fun k r v hr hv => by
      have := h2 k r v hr hv
      cases r with
      | tmp t => exact ⟨_, by simp [Sem.run_pure], (hf.val t v this).2⟩
      | cell b t =>
        obtain ⟨p, hp, hl⟩ := this
        obtain ⟨x, h5, h6⟩ := aload_rel R (hf.val b p hp).2 hl
        exact ⟨x, asAddr_of h5, h6⟩)
  have hlen : vs.length = us.length := (VRels.length h4).symm
  refine ⟨if h : us.toArray.size = 1 then us.toArray[0] else .tuple us.toArray, ?_, ?_⟩
  · rw [Sem.run_bind, map_eq_pure_bind, Sem.run_bind]
    refine (congrArg (fun z : Result (List Value) => (z.andThen fun b w' => Sem.run E.P (pure b.toArray : Sem (Array Value)) w').andThen fun b w' => Sem.run E.P (pure (if h : b.size = 1 then b[0] else .tuple b) : Sem Value) w') h3).trans ?_
    simp only [Result.andThen_ok, Sem.run_pure]
  · cases vs with
    | nil =>
      simp only [VRels] at h4
      subst h4
      simp [packR, VRel, VRels]
    | cons v vs =>
      cases vs with
      | nil =>
        simp only [VRels] at h4
        obtain ⟨u, r, rfl, h5, h6⟩ := h4
        subst h6
        simpa [packR] using h5
      | cons v2 vs =>
        have hs : us.toArray.size ≠ 1 := by
          rw [List.size_toArray, ← hlen]; simp
        rw [dif_neg hs]
        simp only [packR, VRel]
        exact ⟨us.toArray, rfl, by simpa using h4⟩

theorem leave_wp {fn : Func} {tmps : Array Value} {n : Nat} {Q : Ending → World → Prop} {u : FrameMode} (hu : u ≠ .run) : ∀ {df : List DI} {ds : List Deferred} {c : Ctx} {H H' : AHeap} {w : World}, leave df H = some H' → Rel E w0 c H w → DRel c w df ds →
    (∀ w', Ext c H w c H' w' → Rel E w0 c H' w' → LeavesInM Fence.wide n E.P fn tmps Q [] u w') → LeavesInM Fence.wide n E.P fn tmps Q ds u w
  | [], ds, c, H, H', w, h, R, hd, hQ => by
    simp only [leave, Option.some.injEq] at h
    subst h
    simp only [DRel] at hd
    subst hd
    exact hQ w (Ext.refl _ _ _) R
  | .mark id :: df, ds, c, H, H', w, h, R, hd, hQ => by
    obtain ⟨l, rs, h1, rfl, h3⟩ := hd
    simp only [leave] at h
    split at h
    · rename_i hg
      obtain ⟨l', k1, k2, k3, k4⟩ := R.live id _ hg
      rw [h1] at k1
      cases k1
      obtain ⟨e1, R1⟩ := R.drop (o := .deferred none) hg h1
      refine ⟨hu, .inl ⟨l.blk, _, rfl, run_takeDeferred k4, leave_wp hu h R1 (h3.ext e1) fun w' m1 m2 => hQ w' (e1.trans R m1) m2⟩⟩
    · cases h
  | .call g caps args :: df, ds, c, H, H', w, h, R, hd, hQ => by simp [leave] at h

theorem ofArgs_get : ∀ {xs : List AV} {k t : Nat} {v : AV}, (Fr.ofArgs k xs).get t = some v → k ≤ t ∧ xs[t - k]? = some v
  | [], k, t, v, h => by simp [Fr.ofArgs, Fr.get] at h
  | x :: xs, k, t, v, h => by
    simp only [Fr.ofArgs, Fr.get] at h
    split at h
    · rename_i e
      cases h
      subst e
      simp
    · rename_i e
      obtain ⟨h1, h2⟩ := ofArgs_get h
      refine ⟨by omega, ?_⟩
      have : t - k = (t - (k + 1)) + 1 := by omega
      rw [this]
      simpa using h2
theorem VRels.getElem {c : Ctx} {w : World} : ∀ {xs : List AV} {us : List Value} {k : Nat} {v : AV}, VRels c w xs us → xs[k]? = some v → ∃ u, us[k]? = some u ∧ VRel c w v u
  | [], us, k, v, h, hk => by simp at hk
  | x :: xs, us, 0, v, h, hk => by
    simp only [VRels] at h
    obtain ⟨u, r, rfl, h2, _⟩ := h
    cases hk
    exact ⟨u, rfl, h2⟩
  | x :: xs, us, k + 1, v, h, hk => by
    simp only [VRels] at h
    obtain ⟨u, r, rfl, _, h3⟩ := h
    obtain ⟨u', h4, h5⟩ := VRels.getElem (k := k) h3 (by simpa using hk)
    exact ⟨u', by simpa using h4, h5⟩
theorem ofArgs_rel {nt : Nat} {xs : List AV} {us : Array Value} (h : VRels c w xs us.toList) (hn : xs.length ≤ nt) : FrRel c w nt (Fr.ofArgs 0 xs) { tmps := us ++ Array.replicate (nt - us.size) undef, defers := [] } := by
  have hl : us.size = xs.length := by simpa using VRels.length h
  refine ⟨by simp; omega, fun t v hv => ?_⟩
  obtain ⟨_, h1⟩ := ofArgs_get hv
  obtain ⟨u, h2, h3⟩ := h.getElem h1
  have hlt : t < us.size := by
    rw [Nat.sub_zero] at h2
    rcases Nat.lt_or_ge t us.size with h | h
    · exact h
    · simp [Array.getElem?_eq_none h] at h2
  refine ⟨by omega, ?_⟩
  rw [Array.getD_eq_getD_getElem?, Array.getElem?_append_left hlt]
  have : us[t]? = some u := by simpa using h2
  rw [this]
  exact h3
theorem putAll_rel {nt : Nat} : ∀ {ps : List Nat} {xs : List AV} {us : List Value} {fr : Fr} {tmps : Array Value} {ds : List Deferred}, VRels c w xs us → ps.length = xs.length → (∀ t, t ∈ ps → t < nt) → FrRel c w nt fr { tmps := tmps, defers := ds } →
    FrRel c w nt (putAll fr ps xs) { tmps := (ps.zip us).foldl (fun tmps (t, a) => tmps.setIfInBounds t a) tmps, defers := ds }
  | [], [], us, fr, tmps, ds, h, hl, hb, hf => by simpa [putAll] using hf
  | [], x :: xs, us, fr, tmps, ds, h, hl, hb, hf => by simp at hl
  | p :: ps, [], us, fr, tmps, ds, h, hl, hb, hf => by simp at hl
  | p :: ps, x :: xs, us, fr, tmps, ds, h, hl, hb, hf => by
    simp only [VRels] at h
    obtain ⟨u, r, rfl, h2, h3⟩ := h
    simp only [putAll, List.zip_cons_cons, List.foldl_cons]
    refine putAll_rel h3 (by simpa using hl) (fun t ht => hb t (List.mem_cons_of_mem _ ht)) ?_
    have := hf.putO (d := some p) (x := x) (v := u) (by simp [dstOK]; exact hb p List.mem_cons_self) h2
    exact this

/-- The record of a range over a function. -/
theorem loop_put (R : Rel E w0 c H w) {l : Nat} {lc : Loc} {st : LState} {pend : Option Code} {f nt : Nat} {fr : Fr} {ps : List Nat} {asg body : SC} (hg : H.get l = some (.loop st pend f nt fr ps asg body)) (hl : c.rho l = some lc) :
    ∃ r : Loop, w.heap[lc.blk]? = some (.loop r) ∧ r.state = lst st ∧ r.pending = pend ∧ r.params = ps.toArray ∧ slimCode E f nt r.assign = some asg ∧ slimCode E f nt r.body = some body ∧ ps.all (fun t => decide (t < nt)) = true ∧ TRel c w nt fr r.tmps ∧
      ∀ (st' : LState) (pend' : Option Code), Ext c H w c (H.set l (.loop st' pend' f nt fr ps asg body)) (w.putObj lc.blk (.loop { r with state := lst st', pending := pend' })) ∧
        Rel E w0 c (H.set l (.loop st' pend' f nt fr ps asg body)) (w.putObj lc.blk (.loop { r with state := lst st', pending := pend' })) := by
  obtain ⟨l', h1, h2, h3, fb, tmps, d, asgC, bodyC, h4, h5, h6, h7, h8⟩ := R.live l _ hg
  rw [hl] at h1
  cases h1
  refine ⟨_, h4, rfl, rfl, rfl, h6, h7, h8, h5, fun st' pend' => R.put hg hl ⟨fb, tmps, d, asgC, bodyC, World.putObj_heap_same h3, ⟨h5.1, fun t v hv => ?_⟩, h6, h7, h8⟩⟩
  have := h5.2 t v hv
  exact ⟨this.1, VRel.mono (c := c) (w := w) (fun _ _ h => h) (fun _ h => h) (fun b hb => World.putObj_heap_other (fun e : b = lc.blk => h2 (e ▸ hb))) _ _ this.2⟩

theorem evalFn_ok (OK : EnvOK E) {S : SEnv} (XO : ExtOK E w0 S.ext) (TO : TabOK E S) : ∀ n, CallOK E w0 (evalFn S n)
  | 0 => ⟨fun h => by simp [evalFn] at h, fun _ _ h => by simp [evalFn] at h, fun _ _ _ h => by simp [evalFn] at h⟩
  | n + 1 => by
    have CO := evalFn_ok OK XO TO n
    refine ⟨fun {g caps args H r} h => ?_, fun {c H w g caps args us r} R hv h m => ?_, fun {c H w l args us r lc} R hl hv h => ?_⟩
    · simp only [evalFn] at h
      split at h
      · rename_i e he
        exact (XO g e he).1
      · rename_i he
        simp only [Option.bind_eq_some_iff] at h
        obtain ⟨sf, hsf, h⟩ := h
        exact (TO g sf he hsf).1
    · simp only [evalFn] at h
      split at h
      · rename_i e he
        exact (XO g e he).2 R hv h m
      · rename_i he
        simp only [Option.bind_eq_some_iff] at h
        obtain ⟨sf, hsf, h⟩ := h
        obtain ⟨_, fn, hfn, hsl⟩ := TO g sf he hsf
        unfold slimFn at hsl
        simp only [Option.bind_eq_some_iff] at hsl
        obtain ⟨code, hbody, sc, hsc, srs, hsr, hsl⟩ := hsl
        split at hsl
        · cases hsl
        cases hsl
        split at h
        · rename_i hlen
          simp only [Option.bind_eq_some_iff] at h
          obtain ⟨⟨x, s⟩, h1, h⟩ := h
          refine callsIn_of_wp_marks hfn hbody trivial ?_
          refine wpIn_mono (code_wp OK CO (rd := false) (ro := none) (fun _ => rfl) code hsc h1 R (ofArgs_rel hv hlen) rfl) fun e a' w' q => ?_
          obtain ⟨c', q1, q2, q3, q4, q5⟩ := q
          simp only [endFn, Option.bind_eq_some_iff] at h
          obtain ⟨H', h2, h⟩ := h
          have hret : (resultsOf s.fr H' srs).map (fun vs => (FR.ret (packR vs), dropH (E.drop g) H.next (packR vs) H')) = some r → LeavesInM (FW none) m E.P fn a'.tmps (CPost E w0 c H w r) a'.defers .returning w' := by
            intro h
            simp only [Option.map_eq_some_iff] at h
            obtain ⟨vs, h3, rfl⟩ := h
            refine leave_wp (by simp) h2 q2 q4 fun w2 k1 k2 => ?_
            obtain ⟨u, h4, h5⟩ := results_rel k2 (q3.ext k1) hsr h3
            obtain ⟨c2, d1, d2, d3⟩ := dropH_ok R (q1.trans R k1) k2 h5 (E.drop g)
            exact ⟨u, h4, c2, d1, d2, u, rfl, d3⟩
          cases x with
          | normal =>
            cases q5
            exact hret h
          | ret =>
            cases q5
            exact hret h
          | pan v =>
            obtain ⟨u, rfl, hu⟩ := q5
            cases h
            refine leave_wp (by simp) h2 q2 q4 fun w2 k1 k2 => ?_
            exact ⟨c', q1.trans R k1, k2, u, rfl, k1.vrel hu⟩
          | exit id => cases h
        · cases h
    · simp only [evalFn] at h
      split at h
      · rename_i pend f nt fr ps asg body hg
        split at h
        · rename_i hlen
          simp only [Option.bind_eq_some_iff] at h
          obtain ⟨⟨x1, s1⟩, h1, h⟩ := h
          obtain ⟨rl, g1, g2, _, g3, g4, g5, hps, g6, g7⟩ := loop_put R hg hl
          have hsz : us.size = rl.params.size := by
            have : us.size = args.length := by simpa using VRels.length hv
            rw [g3]; simp; omega
          refine ⟨rl.fn, _, rl.assign, rl.body, run_yield g1 hsz, fun m => roundIn_of_wpIn trivial ?_⟩
          have hfr : FrRel c w nt (putAll fr ps args) { tmps := (rl.params.zip us).foldl (fun tmps (t, a) => tmps.setIfInBounds t a) rl.tmps, defers := [] } := by
            have := putAll_rel (ds := []) hv hlen (fun t ht => by simpa using (List.all_eq_true.1 hps) t ht) (show FrRel c w nt fr { tmps := rl.tmps, defers := [] } from ⟨g6.1, g6.2⟩)
            rw [g3, ← Array.foldl_toList, Array.toList_zip]
            exact this
          refine wpIn_mono (code_wp OK CO (rd := true) (ro := some lc.blk) (fun h => by cases h) rl.assign g4 h1 R hfr rfl) fun e a' w' q => ?_
          obtain ⟨c', q1, q2, q3, q4, q5⟩ := q
          simp only at h
          split at h
          · rename_i hx hdf hgt
            cases q5
            have hl1 := q1.rho _ _ hl
            obtain ⟨rl2, i1, i2, ip, i3, i4, i5, _, i6, i7⟩ := loop_put q2 hgt hl1
            simp only [Option.bind_eq_some_iff] at h
            obtain ⟨⟨x2, s2⟩, h2, h⟩ := h
            obtain ⟨e3, R3⟩ := i7 .busy rl2.pending
            rw [← ip] at h2
            have hw : ({ rl2 with state := lst .busy, pending := rl2.pending } : Loop) = { rl2 with state := .busy } := rfl
            rw [hw] at e3 R3
            refine ⟨_, run_beginRound i1 i2, ?_⟩
            refine wpIn_mono (code_wp OK CO (rd := true) (ro := some lc.blk) (fun h => by cases h) rl.body g5 h2 R3 (q3.ext e3) (q4.ext e3)) fun e2 a2 w2 p => ?_
            obtain ⟨c2, p1, p2, p3, p4, p5⟩ := p
            have hl2 := p1.rho _ _ hl1
            have e13 := q1.trans R e3
            have e14 := e13.trans R p1
            simp only at h
            split at h
            · rename_i hdf2 hgt2
              obtain ⟨rl3, j1, j2, jp, j3, j4, j5, _, j6, j7⟩ := loop_put p2 hgt2 hl2
              have fin : ∀ (st : LState) (jump : Option Code) (b : Bool) {H2 : AHeap}, (if jump.isNone = true then LoopState.ready else LoopState.done) = lst st → jump.isNone = b →
                  (Ext c2 s2.H w2 c2 H2 (w2.putObj lc.blk (.loop { rl3 with state := lst st, pending := jump })) ∧ Rel E w0 c2 H2 (w2.putObj lc.blk (.loop { rl3 with state := lst st, pending := jump }))) → r = (.ret (.bool b), H2) →
                  ∃ v w', (Instr.endRound lc.blk jump).run E.P w2 = .ok v w' ∧ CPost E w0 c H w r (.returned v) w' := by
                intro st jump b H2 e2 e3 e45 e4
                refine ⟨_, _, run_endRound jump j1, c2, ?_, ?_, ?_⟩
                · rw [e2, e4]; exact e14.trans R e45.1
                · rw [e2, e4]; exact e45.2
                · rw [e4, ← e3]; exact ⟨_, rfl, rfl⟩
              cases x2 with
              | normal =>
                cases p5
                cases h
                exact fin .ready none true rfl rfl (j7 .ready none) rfl
              | ret =>
                cases p5
                cases h
                exact fin .done (some .ret) false rfl rfl (j7 .done (some .ret)) rfl
              | exit id =>
                cases p5
                cases h
                exact fin .done (some (.exit id)) false rfl rfl (j7 .done (some (.exit id))) rfl
              | pan v => cases h
            · cases h
          · cases h
        · cases h
      · cases h
end
end Go.AM
