/- AM: cutting, lengths, min and max, unary and binary operations are sound. AM: lengths, min and max, unary and binary operations; append and copy are sound. -/
import Derived.Test.YtgmmalddlpmjdaaGreatDoorAmOpA
set_option linter.unusedVariables false
set_option linter.unusedSimpArgs false
namespace Go.AM
open Go Go.RowKit

section
variable {E : Env} {w0 : World} {c : Ctx} {H : AHeap} {w : World}

def ORel (c : Ctx) (w : World) : Option AV → Option Value → Prop
  | none, v => v = none
  | some x, v => ∃ u, v = some u ∧ VRel c w x u
theorem evO_rel {nt : Nat} {fr : Fr} {a : Act} (R : Rel E w0 c H w) (hf : FrRel c w nt fr a) {x : Option Operand} {v : Option AV} (h : evO E fr x = some v) : ORel c w v (x.map a.eval) := by
  cases x with
  | none => simp only [evO] at h; cases h; rfl
  | some x =>
    simp only [evO, Option.map_eq_some_iff] at h
    obtain ⟨v, hv, rfl⟩ := h
    exact ⟨_, rfl, ev_rel R hf hv⟩
/-- A bound of a slice expression, given or not. -/
theorem bound_rel {P : Program} {d top n : Nat} {o : Option AV} {v : Option Value} {code : BoundsCode} (ho : ORel c w o v) (h : bound d top o = some n) (hd : o = none → n = d) :
    ((match v with | some v => Instr.sliceBound v top code | none => pure d : Sem Nat)).run P w = .ok n w ∧ (o ≠ none → n ≤ top) := by
  cases o with
  | none =>
    simp only [ORel] at ho
    subst ho
    simp [hd rfl]
  | some x =>
    obtain ⟨u, rfl, hx⟩ := ho
    unfold bound at h
    split at h
    · rename_i e; cases e
    · rename_i k m e
      cases e
      split at h
      · rename_i hc
        cases h
        simp only [VRel] at hx
        subst hx
        exact ⟨run_sliceBound w k m top code hc.1 hc.2, fun _ => by omega⟩
      · cases h
    · cases h
theorem bound_none {d top n : Nat} (h : bound d top none = some n) : n = d := by simp only [bound] at h; cases h; rfl
theorem bound_le {d top n : Nat} {o : Option AV} (h : bound d top o = some n) (hd : d ≤ top) : n ≤ top := by
  unfold bound at h
  split at h
  · cases h; exact hd
  · split at h
    · cases h; omega
    · cases h
  · cases h
theorem bound_some {d top n : Nat} {x : AV} (h : bound d top (some x) = some n) : n ≤ top := by
  unfold bound at h
  split at h
  · rename_i e; cases e
  · split at h
    · cases h; omega
    · cases h
  · cases h
theorem ite_top {d top top' n : Nat} {o : Option AV} (h : bound d top o = some n) (ht : top ≤ top') : bound d top' o = some n := by
  unfold bound at h ⊢
  split at h
  · exact h
  · rename_i e
    split at h
    · rename_i hc
      rw [if_pos (by omega)]
      exact h
    · cases h
  · cases h
/-- The bounds, without a third one. -/
theorem bounds2 {P : Program} {len cap dh h l : Nat} {b : Bool} {lo hi : Option AV} {lv hv : Option Value} (hlo : ORel c w lo lv) (hhi : ORel c w hi hv) (hh : bound len cap hi = some h) (hl : bound 0 h lo = some l) :
    (Instr.sliceBounds b len cap lv hv none).run P w = .ok (l, h, cap) w := by
  have e1 := fun code => (bound_rel (P := P) (code := code) hhi hh (fun e => by subst e; exact bound_none hh)).1
  have e2 := fun code => (bound_rel (P := P) (code := code) hlo hl (fun e => by subst e; exact bound_none hl)).1
  cases hi with
  | none =>
    simp only [ORel] at hhi
    subst hhi
    have hlen := bound_none hh
    subst hlen
    cases lo with
    | none =>
      simp only [ORel] at hlo
      subst hlo
      have hl0 := bound_none hl
      subst hl0
      simp [Instr.sliceBounds]
    | some x =>
      obtain ⟨u, rfl, _⟩ := hlo
      simp only at e2
      simp [Instr.sliceBounds, e2]
  | some y =>
    obtain ⟨v, rfl, _⟩ := hhi
    simp only at e1
    cases lo with
    | none =>
      simp only [ORel] at hlo
      subst hlo
      have hl0 := bound_none hl
      subst hl0
      cases b <;> simp [Instr.sliceBounds, e1]
    | some x =>
      obtain ⟨u, rfl, _⟩ := hlo
      simp only at e2
      cases b <;> simp [Instr.sliceBounds, e1, e2]
/-- The bounds with a third one. -/
theorem bounds3 {P : Program} {len cap h l m : Nat} {lo : Option AV} {hx mx : AV} {lv hv mv : Option Value} (hlo : ORel c w lo lv) (hhi : ORel c w (some hx) hv) (hmx : ORel c w (some mx) mv) (hm : bound 0 cap (some mx) = some m) (hh : bound 0 m (some hx) = some h) (hl : bound 0 h lo = some l) :
    (Instr.sliceBounds true len cap lv hv mv).run P w = .ok (l, h, m) w := by
  have e0 := fun code => (bound_rel (P := P) (code := code) hmx hm (fun e => by cases e)).1
  have e1 := fun code => (bound_rel (P := P) (code := code) hhi hh (fun e => by cases e)).1
  have e2 := fun code => (bound_rel (P := P) (code := code) hlo hl (fun e => by subst e; exact bound_none hl)).1
  obtain ⟨v, rfl, _⟩ := hhi
  obtain ⟨z, rfl, _⟩ := hmx
  simp only at e0 e1
  cases lo with
  | none =>
    simp only [ORel] at hlo
    subst hlo
    have hl0 := bound_none hl
    subst hl0
    simp [Instr.sliceBounds, e0, e1]
  | some x =>
    obtain ⟨u, rfl, _⟩ := hlo
    simp only at e2
    simp [Instr.sliceBounds, e0, e1, e2]
theorem elem_of {P : Program} {t e : Nat} (h : P.underlying t = some (.slice e)) : P.elem t = e := by simp [Program.elem, h]
theorem run_cut {P : Program} {t e n len cap l h m : Nat} {a : Option Addr} {lv hv mv : Option Value} (hs : P.underlying t = some (.slice e)) (hn : szT P e = some n) (hb : (Instr.sliceBounds true len cap lv hv mv).run P w = .ok (l, h, m) w) :
    (Instr.sliceAt t (.slice a len cap) lv hv mv).run P w = .ok (.slice (if m = l then a else a.map (·.add (l * n))) (h - l) (m - l)) w := by
  have he := elem_of hs
  have hs' : P.underlying t = some (.slice (P.elem t)) := by rw [he]; exact hs
  rw [run_sliceAt_slice w t _ _ _ _ hs', run_slice_any w t a len cap hs', hb]
  simp only [Result.andThen_ok, he, run_szT hn, sliced]
theorem headLen_sz {n sz : Nat} {rows : List (List AV)} (h : headLen n rows = true) (hs : ∀ row, row ∈ rows → row.length = sz) : rows = [] ∨ sz = n := by
  cases rows with
  | nil => exact .inl rfl
  | cons r rs => right; simp only [headLen, beq_iff_eq] at h; rw [← hs r (List.mem_cons_self ..)]; exact h

theorem isl_cut {rows : List (List AV)} {cap cap' : Option Nat} {k l h m n : Nat} {a : Addr} (hv : VRel c w (.isl rows cap) (.slice (some a) rows.length k)) (hn : headLen n rows = true) (hlh : l ≤ h) (hh : h ≤ rows.length) (hhm : h ≤ m) (hm : m ≤ k) (hc : ∀ q, cap' = some q → m - l = q) :
    VRel c w (.isl ((rows.take h).drop l) cap') (.slice (if m = l then some a else (some a).map (·.add (l * n))) (h - l) (m - l)) := by
  simp only [VRel] at hv ⊢
  obtain ⟨a', k', he, _, _, hr⟩ := hv
  simp only [Value.slice.injEq, Option.some.injEq, true_and] at he
  obtain ⟨rfl, rfl⟩ := he
  have hlen : ((rows.take h).drop l).length = h - l := by simp; omega
  refine ⟨if m = l then a else a.add (l * n), m - l, by rw [hlen]; split <;> rfl, hc, by rw [hlen]; omega, ?_⟩
  by_cases hml : m = l
  · left
    have : h - l = 0 := by omega
    exact List.eq_nil_of_length_eq_zero (by omega)
  · rcases hr with hr | ⟨cs, t, fr, sz, hsp, hI, hh2, hsz, hrel⟩
    · subst hr; left; simp
    · rcases headLen_sz hn hsz with h0 | h0
      · subst h0; left; simp
      · subst h0
        right
        obtain ⟨b, o, sp⟩ := a
        simp only at hsp hI hh2 hrel
        subst hsp
        refine ⟨cs, t, fr, sz, ?_, ?_, ?_, fun row hm => hsz row (List.mem_of_mem_take (List.mem_of_mem_drop hm)), ?_⟩
        · rw [if_neg hml, addr_add]
        · rw [if_neg hml, addr_add]; exact hI
        · rw [if_neg hml, addr_add]; exact hh2
        · rw [if_neg hml, addr_add]
          have := (hrel.take h).drop (sz := sz) (fun row hm => hsz row (List.mem_of_mem_take hm)) l
          rwa [List.drop_drop] at this
theorem msl_cut {id lw len : Nat} {cap cap' : Option Nat} {k l h m n : Nat} {a : Addr} {lc : Loc} (hl : c.rho id = some lc) (hsz : lc.sz = n) (hv : VRel c w (.msl id lw len cap) (.slice (some a) len k)) (hlh : l ≤ h) (hhm : h ≤ m) (hm : m ≤ k) (hc : ∀ q, cap' = some q → m - l = q) :
    VRel c w (.msl id (lw + l) (h - l) cap') (.slice (if m = l then some a else (some a).map (·.add (l * n))) (h - l) (m - l)) := by
  simp only [VRel] at hv ⊢
  obtain ⟨l', a', k', hl', he, _, _, hr⟩ := hv
  rw [hl] at hl'
  cases hl'
  simp only [Value.slice.injEq, Option.some.injEq, true_and] at he
  obtain ⟨rfl, rfl⟩ := he
  refine ⟨lc, if m = l then a else a.add (l * n), m - l, hl, by split <;> rfl, hc, by omega, ?_⟩
  by_cases hml : m = l
  · left; omega
  · right
    rcases hr with hr | ⟨rfl, hr⟩
    · omega
    · rw [if_neg hml, addr_add, hsz]
      refine ⟨by rw [Nat.add_mul]; simp [Nat.add_assoc], ?_⟩
      rw [hsz] at hr
      have : (lw + l + (m - l)) * n ≤ (lw + k) * n := Nat.mul_le_mul_right _ (by omega)
      omega
theorem aslice_rel (R : Rel E w0 c H w) {t : Nat} {x v : AV} {u : Value} {lo hi mx : Option AV} {lv hv mv : Option Value} (hx : VRel c w x u) (hlo : ORel c w lo lv) (hhi : ORel c w hi hv) (hmx : ORel c w mx mv) (h : aslice E.P H t x lo hi mx = some v) :
    ∃ y, (Instr.sliceAt t u lv hv mv).run E.P w = .ok y w ∧ VRel c w v y := by
  unfold aslice at h
  split at h
  · rename_i s hs
    simp only [VRel] at hx
    subst hx
    split at h
    · simp only [ORel] at hmx
      subst hmx
      simp only [Option.bind_eq_some_iff] at h
      obtain ⟨h', hh, l, hl, h⟩ := h
      cases h
      have hb := bounds2 (P := E.P) (b := false) (dh := 0) hlo hhi hh hl
      refine ⟨.string ⟨((s.take h').drop l).toArray⟩, ?_, by simp [VRel]⟩
      rw [run_sliceAt_string w t _ _ _ _ hs]
      simp only [Instr.slice, Sem.run_bind, run_underlying hs, Result.andThen_ok, Option.isSome_none, Bool.false_eq_true, if_false]
      rw [size_mk, hb]
      simp only [Result.andThen_ok, Sem.run_pure, ByteArray.extract_mk]
      rw [List.drop_take]
    · cases h
  · rename_i e hs
    simp only [VRel] at hx
    subst hx
    split at h
    · simp only [ORel] at hmx
      subst hmx
      simp only [Option.bind_eq_some_iff] at h
      obtain ⟨n, hn, h', hh, l, hl, h⟩ := h
      cases h
      have hb := bounds2 (P := E.P) (b := true) (dh := 0) hlo hhi hh hl
      have h0 := bound_le hh (Nat.le_refl _)
      have l0 := bound_le hl (Nat.zero_le _)
      have : h' = 0 := by omega
      subst this
      have : l = 0 := by omega
      subst this
      exact ⟨_, run_cut hs hn hb, by simp [VRel]⟩
    · cases h
  · rename_i e rows cap hs
    simp only [Option.bind_eq_some_iff] at h
    obtain ⟨n, hn, h⟩ := h
    split at h
    · rename_i hhead
      have hx0 := hx
      simp only [VRel] at hx
      obtain ⟨a, k, rfl, hcap, hk, _⟩ := hx
      split at h
      · simp only [ORel] at hmx
        subst hmx
        simp only [Option.bind_eq_some_iff] at h
        obtain ⟨h', hh, l, hl, h⟩ := h
        cases h
        have hle := bound_le hh (Nat.le_refl _)
        have hb := bounds2 (P := E.P) (b := true) (dh := 0) hlo hhi (ite_top hh hk) hl
        refine ⟨_, run_cut hs hn hb, isl_cut hx0 hhead (bound_le hl (Nat.zero_le _)) hle (by omega) (Nat.le_refl _) (fun q e => ?_)⟩
        simp only [Option.map_eq_some_iff] at e
        obtain ⟨q', hq, rfl⟩ := e
        rw [hcap q' hq]
      · simp only [Option.bind_eq_some_iff] at h
        obtain ⟨m, hm, h⟩ := h
        split at h
        · simp only [Option.bind_eq_some_iff] at h
          obtain ⟨h', hh, l, hl, h⟩ := h
          cases h
          have hml := bound_some hm
          have hhm := bound_some hh
          have hb := bounds3 (P := E.P) (len := rows.length) hlo hhi hmx (ite_top hm hk) hh hl
          exact ⟨_, run_cut hs hn hb, isl_cut hx0 hhead (bound_le hl (Nat.zero_le _)) (by omega) hhm (by omega) (fun q e => by cases e; rfl)⟩
        · cases h
    · cases h
  · rename_i e id lw len cap hs
    simp only [Option.bind_eq_some_iff] at h
    obtain ⟨n, hn, ⟨sz, brows⟩, hbr, h⟩ := h
    split at h
    · rename_i hszn
      simp only at hszn
      obtain ⟨lc, cs, ty, hlc, _, _, _, hsz, _⟩ := rows_rel R hbr
      have hx0 := hx
      simp only [VRel] at hx
      obtain ⟨l', a, k, hl', rfl, hcap, hk, _⟩ := hx
      split at h
      · simp only [ORel] at hmx
        subst hmx
        simp only [Option.bind_eq_some_iff] at h
        obtain ⟨h', hh, l, hl, h⟩ := h
        cases h
        have htop : cap.getD len ≤ k := by
          cases cap with
          | none => exact hk
          | some q => have := hcap q rfl; simp only [Option.getD_some]; omega
        have hd : len ≤ cap.getD len := by
          cases cap with
          | none => exact Nat.le_refl _
          | some q => have := hcap q rfl; simp only [Option.getD_some]; omega
        have hle := bound_le hh hd
        have hb := bounds2 (P := E.P) (b := true) (dh := 0) hlo hhi (ite_top hh htop) hl
        refine ⟨_, run_cut hs hn hb, msl_cut hlc (by omega) hx0 (bound_le hl (Nat.zero_le _)) (by omega) (Nat.le_refl _) (fun q e => ?_)⟩
        simp only [Option.map_eq_some_iff] at e
        obtain ⟨q', hq, rfl⟩ := e
        rw [hcap q' hq]
      · simp only [Option.bind_eq_some_iff] at h
        obtain ⟨m, hm, h⟩ := h
        split at h
        · simp only [Option.bind_eq_some_iff] at h
          obtain ⟨h', hh, l, hl, h⟩ := h
          cases h
          have hml := bound_some hm
          have hhm := bound_some hh
          have hb := bounds3 (P := E.P) (len := len) hlo hhi hmx (ite_top hm hk) hh hl
          exact ⟨_, run_cut hs hn hb, msl_cut hlc (by omega) hx0 (bound_le hl (Nat.zero_le _)) hhm (by omega) (fun q e => by cases e; rfl)⟩
        · cases h
    · cases h
  · cases h
end
end Go.AM
set_option linter.unusedVariables false
set_option linter.unusedSimpArgs false
namespace Go.AM
open Go Go.RowKit

section
variable {E : Env} {w0 : World} {c : Ctx} {H : AHeap} {w : World}

theorem alen_rel (R : Rel E w0 c H w) {t : Nat} {x v : AV} {u : Value} {ty : TypeId} (hx : VRel c w x u) (h : alen E.P H t x = some v) :
    ∃ y, (Builtin.len_ #[t] ty #[u]).run E.P w = .ok y w ∧ VRel c w v y := by
  unfold alen at h
  split at h
  · rename_i s hs
    cases h
    simp only [VRel] at hx ⊢
    subst hx
    exact ⟨_, by simp [Builtin.len_, run_underlying hs, size_mk]; rfl, by simp [goInt]⟩
  · rename_i e hs
    cases h
    simp only [VRel] at hx ⊢
    subst hx
    exact ⟨_, by simp [Builtin.len_, run_underlying hs]; rfl, by simp [goInt]⟩
  · rename_i e rows cap hs
    cases h
    simp only [VRel] at hx ⊢
    obtain ⟨a, k, rfl, _⟩ := hx
    exact ⟨_, by simp [Builtin.len_, run_underlying hs]; rfl, by simp [goInt]⟩
  · rename_i e id lo len cap hs
    cases h
    simp only [VRel] at hx ⊢
    obtain ⟨l, a, k, _, rfl, _⟩ := hx
    exact ⟨_, by simp [Builtin.len_, run_underlying hs]; rfl, by simp [goInt]⟩
  · rename_i k e hs
    cases h
    simp only [VRel] at hx ⊢
    subst hx
    exact ⟨_, by simp [Builtin.len_, run_underlying hs]; rfl, by simp [goInt]⟩
  · rename_i k e id hs
    split at h
    · rename_i es hg
      obtain ⟨l, _, _, _, hb⟩ := R.live id _ hg
      exact hb.elim
    · cases h
  · cases h
theorem acap_rel {P : Program} {t : Nat} {x v : AV} {u : Value} {ty : TypeId} (hx : VRel c w x u) (h : acap P t x = some v) :
    ∃ y, (Builtin.cap_ #[t] ty #[u]).run P w = .ok y w ∧ VRel c w v y := by
  unfold acap at h
  split at h
  · rename_i e hs
    cases h
    simp only [VRel] at hx ⊢
    subst hx
    exact ⟨_, by simp [Builtin.cap_, run_underlying hs]; rfl, by simp [goInt]⟩
  · rename_i e rows k hs
    cases h
    simp only [VRel] at hx ⊢
    obtain ⟨a, k', rfl, hk, _⟩ := hx
    have := hk k rfl
    subst this
    exact ⟨_, by simp [Builtin.cap_, run_underlying hs]; rfl, by simp [goInt]⟩
  · rename_i e id lo len k hs
    cases h
    simp only [VRel] at hx ⊢
    obtain ⟨l, a, k', _, rfl, hk, _⟩ := hx
    have := hk k rfl
    subst this
    exact ⟨_, by simp [Builtin.cap_, run_underlying hs]; rfl, by simp [goInt]⟩
  · cases h
theorem mm2_rel {P : Program} {b : Bool} {x y v : AV} {u z : Value} (hx : VRel c w x u) (hy : VRel c w y z) (h : mm2 b x y = some v) :
    ∃ r, (if b then (Builtin.max2 u z).run P w else (Builtin.min2 u z).run P w) = .ok r w ∧ VRel c w v r := by
  unfold mm2 at h
  split at h
  · split at h
    · rename_i k a k' b' hk
      cases h
      simp only [VRel] at hx hy ⊢
      subst hx; subst hy; subst hk
      cases b <;> exact ⟨_, by simp [Builtin.max2, Builtin.min2]; rfl, by simp⟩
    · cases h
  · cases h
theorem aminmax_rel {P : Program} {b : Bool} : ∀ {ys : List AV} {x v : AV} {u : Value} {zs : List Value}, VRel c w x u → VRels c w ys zs → aminmax b x ys = some v →
    ∃ r, (if b then (List.foldlM Builtin.max2 u zs).run P w else (List.foldlM Builtin.min2 u zs).run P w) = .ok r w ∧ VRel c w v r
  | [], x, v, u, zs, hx, hy, h => by
    simp only [VRels] at hy
    subst hy
    simp only [aminmax, Option.some.injEq] at h
    subst h
    cases b <;> exact ⟨u, by simp, hx⟩
  | y :: ys, x, v, u, zs, hx, hy, h => by
    simp only [VRels] at hy
    obtain ⟨z, r, rfl, hz, hr⟩ := hy
    simp only [aminmax, Option.bind_eq_some_iff] at h
    obtain ⟨m, hm, h⟩ := h
    obtain ⟨q, hq, hv⟩ := mm2_rel (P := P) hx hz hm
    obtain ⟨r', hr', hv'⟩ := aminmax_rel (P := P) hv hr h
    refine ⟨r', ?_, hv'⟩
    cases b
    · simp only [Bool.false_eq_true, if_false] at hq hr' ⊢
      simp only [List.foldlM_cons, Sem.run_bind, hq, Result.andThen_ok, hr']
    · simp only [if_true] at hq hr' ⊢
      simp only [List.foldlM_cons, Sem.run_bind, hq, Result.andThen_ok, hr']
theorem aun_rel {P : Program} {op : UnOp} {x v : AV} {u : Value} (hx : VRel c w x u) (h : aun op x = some v) :
    ∃ y, (Op.unary op u).run P w = .ok y w ∧ VRel c w v y := by
  unfold aun at h
  split at h
  · cases h
    simp only [VRel] at hx ⊢
    subst hx
    exact ⟨_, by simp [Op.unary], rfl⟩
  · cases h
    simp only [VRel] at hx ⊢
    subst hx
    exact ⟨_, by simp [Op.unary, Op.intArith], rfl⟩
  · simp only [intBin] at h
    cases h
    simp only [VRel] at hx ⊢
    subst hx
    refine ⟨_, ?_, rfl⟩
    simp [Op.unary, Op.intBits]
  · cases h

theorem run_equal {P : Program} {t : Nat} {x y : AV} {u v : Value} {r : Bool} (hx : VRel c w x u) (hy : VRel c w y v) (h : aeq P Op.maxDepth t x y = some r) : (Op.equal t u v).run P w = .ok r w :=
  aeq_rel Op.maxDepth t x y u v r hx hy h
/-- Not two of those on which the operation goes by the values alone. -/
def plainPair : Value → Value → Bool
  | .int _ _, .int _ _ => false
  | .float _ _, .float _ _ => false
  | .complex _ _ _, .complex _ _ _ => false
  | .string _, .string _ => false
  | _, _ => true
theorem eqOp_rel {P : Program} {op : BinOp} {t : Nat} {x y v : AV} {u z : Value} (hx : VRel c w x u) (hy : VRel c w y z) (hp : plainPair u z = true) (h : eqOp op (aeq P Op.maxDepth t x y) = some v) :
    ∃ r, (binOp op t u z).run P w = .ok r w ∧ VRel c w v r := by
  unfold eqOp at h
  split at h
  · simp only [Option.map_eq_some_iff] at h
    obtain ⟨b, hb, rfl⟩ := h
    have he := run_equal hx hy hb
    refine ⟨.bool b, ?_, by simp [VRel]⟩
    have : binOp .eql t u z = (do pure (.bool (← Op.equal t u z))) := by
      unfold binOp
      split <;> first | rfl | (simp [plainPair] at hp; done) | (simp_all; done)
    rw [this]
    simp [he]
  · simp only [Option.map_eq_some_iff] at h
    obtain ⟨b, hb, rfl⟩ := h
    have he := run_equal hx hy hb
    refine ⟨.bool (!b), ?_, by simp [VRel]⟩
    have : binOp .neq t u z = (do pure (.bool (!(← Op.equal t u z)))) := by
      unfold binOp
      split <;> first | rfl | (simp [plainPair] at hp; done) | (simp_all; done)
    rw [this]
    simp [he]
  · cases h

def kindV : Value → Nat
  | .bool _ => 0 | .int _ _ => 1 | .string _ => 2 | .pointer _ => 3 | .slice _ _ _ => 4 | .map _ => 5 | .func _ _ _ => 6 | .nilFunc => 7 | .iface _ _ => 8 | .nilIface => 9 | .agg _ => 10 | .tuple _ => 11
  | .float _ _ => 12 | .complex _ _ _ => 13 | .chan _ => 14
def kindA : AV → Nat
  | .bool _ => 0 | .int _ _ => 1 | .str _ => 2 | .nilptr => 3 | .imm _ _ => 3 | .ptr _ _ _ => 3 | .nilsl => 4 | .isl _ _ => 4 | .msl _ _ _ _ => 4 | .nilmap => 5 | .map _ => 5 | .fn _ _ => 6 | .yld _ => 6 | .nilfn => 7 | .ifc _ _ => 8 | .nilifc => 9
  | .agg _ => 10 | .tup _ => 11 | .junk => 99
theorem kind_rel {x : AV} {u : Value} (h : VRel c w x u) (hj : isJunk x = false) : kindV u = kindA x := by
  cases x
  case junk => cases hj
  all_goals
    simp only [VRel] at h
    first
      | (subst h; rfl)
      | (obtain ⟨_, _, _, _, _, rfl, _⟩ := h; rfl)
      | (obtain ⟨_, _, _, _, rfl, _⟩ := h; rfl)
      | (obtain ⟨_, _, _, rfl, _⟩ := h; rfl)
      | (obtain ⟨_, _, rfl, _⟩ := h; rfl)
      | (obtain ⟨_, _, rfl⟩ := h; rfl)
      | (obtain ⟨_, rfl, _⟩ := h; rfl)
theorem aeq_junk {P : Program} {d t : Nat} {x y : AV} {r : Bool} (h : aeq P d t x y = some r) : isJunk x = false ∧ isJunk y = false := by
  cases d with
  | zero => cases h
  | succ d =>
    cases x <;> cases y <;> first | exact ⟨rfl, rfl⟩ | (simp [aeq] at h)
theorem plain_of_kind {u z : Value} (h : kindV u ≠ kindV z ∨ (kindV u ≠ 1 ∧ kindV u ≠ 2 ∧ kindV u ≠ 12 ∧ kindV u ≠ 13)) : plainPair u z = true := by
  cases u <;> cases z <;> first | rfl | (simp [kindV] at h)
theorem guard_ok {P : Program} {op : BinOp} {t : Nat} {xo yo : Operand} {u z : Value} (h : kindV u ≠ kindV z ∨ (kindV u ≠ 9 ∧ kindV u ≠ 10)) : (eqGuard op t xo yo u z).run P w = .ok () w := by
  cases op
  case eql => cases u <;> cases z <;> first | rfl | (simp [kindV] at h; done)
  case neq => cases u <;> cases z <;> first | rfl | (simp [kindV] at h; done)
  all_goals rfl
theorem eqOp_op {op : BinOp} {r : Option Bool} {v : AV} (h : eqOp op r = some v) : ∃ b, r = some b := by
  unfold eqOp at h
  split at h
  · cases r with
    | none => cases h
    | some b => exact ⟨b, rfl⟩
  · cases r with
    | none => cases h
    | some b => exact ⟨b, rfl⟩
  · cases h
theorem abin_rel {P : Program} {op : BinOp} {t : Nat} {xo yo : Operand} {x y v : AV} {u z : Value} (hx : VRel c w x u) (hy : VRel c w y z) (h : abin P (isConst xo || isConst yo) op t x y = some v) :
    ∃ r, (do eqGuard op t xo yo u z; binOp op t u z : Sem Value).run P w = .ok r w ∧ VRel c w v r := by
  unfold abin at h
  split at h
  · rename_i k a k' b
    have hx' := hx
    have hy' := hy
    simp only [VRel] at hx' hy'
    subst hx'; subst hy'
    have hg : (eqGuard op t xo yo (.int k a) (.int k' b)).run P w = .ok () w := guard_ok (.inr ⟨by simp [kindV], by simp [kindV]⟩)
    split at h
    · obtain ⟨r, h1, h2⟩ := shBin_rel (c := c) (w := w) (P := P) (t := t) (k' := k') h
      exact ⟨r, by simp only [Sem.run_bind, hg, Result.andThen_ok, h1], h2⟩
    · obtain ⟨r, h1, h2⟩ := shBin_rel (c := c) (w := w) (P := P) (t := t) (k' := k') h
      exact ⟨r, by simp only [Sem.run_bind, hg, Result.andThen_ok, h1], h2⟩
    · rename_i n1 n2
      split at h
      · rename_i hk
        subst hk
        obtain ⟨r, h1, h2⟩ := intBin_rel (c := c) (w := w) (P := P) (t := t) h (fun e => n1 e) (fun e => n2 e)
        exact ⟨r, by simp only [Sem.run_bind, hg, Result.andThen_ok, h1], h2⟩
      · cases h
  · rename_i a b
    have hx' := hx
    have hy' := hy
    simp only [VRel] at hx' hy'
    subst hx'; subst hy'
    have hg : (eqGuard op t xo yo (.string ⟨a.toArray⟩) (.string ⟨b.toArray⟩)).run P w = .ok () w := guard_ok (.inr ⟨by simp [kindV], by simp [kindV]⟩)
    obtain ⟨r, h1, h2⟩ := strBin_rel (c := c) (w := w) (P := P) (t := t) h
    exact ⟨r, by simp only [Sem.run_bind, hg, Result.andThen_ok, h1], h2⟩
  · rename_i xs ys
    split at h
    · rename_i hgt
      have hk := kind_rel hx rfl
      obtain ⟨r, h1, h2⟩ := eqOp_rel (P := P) hx hy (plain_of_kind (.inr (by rw [hk]; simp [kindA]))) h
      have hx' := hx
      have hy' := hy
      simp only [VRel] at hx' hy'
      obtain ⟨us, rfl, _⟩ := hx'
      obtain ⟨vs, rfl, _⟩ := hy'
      exact ⟨r, by simp only [Sem.run_bind, run_eqGuard_agg w op t xo yo us vs hgt, Result.andThen_ok, h1], h2⟩
    · cases h
  · split at h
    · rename_i hc
      have hk := kind_rel hx rfl
      obtain ⟨r, h1, h2⟩ := eqOp_rel (P := P) hx hy (plain_of_kind (.inr (by rw [hk]; simp [kindA]))) h
      have hx' := hx
      have hy' := hy
      simp only [VRel] at hx' hy'
      subst hx'; subst hy'
      have hg : (eqGuard op t xo yo .nilIface .nilIface).run P w = .ok () w := by
        cases xo <;> cases yo <;> first
          | (simp [isConst] at hc; done)
          | (cases op <;> rfl)
      exact ⟨r, by simp only [Sem.run_bind, hg, Result.andThen_ok, h1], h2⟩
    · cases h
  · rename_i n1 n2 n3 n4
    obtain ⟨b, hb⟩ := eqOp_op h
    obtain ⟨j1, j2⟩ := aeq_junk hb
    have k1 := kind_rel hx j1
    have k2 := kind_rel hy j2
    have hne : kindV u ≠ kindV z ∨ (kindV u ≠ 1 ∧ kindV u ≠ 2 ∧ kindV u ≠ 12 ∧ kindV u ≠ 13 ∧ kindV u ≠ 9 ∧ kindV u ≠ 10) := by
      rw [k1, k2]
      cases x <;> cases y <;> first
        | (left; simp [kindA]; done)
        | (right; simp [kindA]; done)
        | exact absurd rfl (n1 _ _ _ _ rfl)
        | (exfalso; exact n1 _ _ _ _ rfl rfl)
        | (exfalso; exact n2 _ _ rfl rfl)
        | (exfalso; exact n3 _ _ rfl rfl)
        | (exfalso; exact n4 rfl rfl)
    obtain ⟨r, h1, h2⟩ := eqOp_rel (P := P) hx hy (plain_of_kind (hne.imp id fun q => ⟨q.1, q.2.1, q.2.2.1, q.2.2.2.1⟩)) h
    have hg : (eqGuard op t xo yo u z).run P w = .ok () w := guard_ok (hne.imp id fun q => ⟨q.2.2.2.2.1, q.2.2.2.2.2⟩)
    exact ⟨r, by simp only [Sem.run_bind, hg, Result.andThen_ok, h1], h2⟩
end
end Go.AM
