/- AM: a region whose order is drawn: whatever order is drawn, it comes to what the order of the text comes to. AM: a region whose order is drawn: the induction over whatever order is drawn. -/
import Derived.Test.YtgmmalddlpmjdaaGreatDoorAmOpC
set_option linter.unusedVariables false
set_option linter.unusedSimpArgs false
namespace Go.AM
open Go Go.RowKit

/-! ### Equality of values -/
mutual
theorem AV.beq_eq : ∀ (x y : AV), AV.beq x y = true → x = y
  | .bool a, y, h => by cases y <;> simp_all [AV.beq]
  | .int k n, y, h => by cases y <;> simp_all [AV.beq]
  | .str s, y, h => by cases y <;> simp_all [AV.beq]
  | .nilptr, y, h => by cases y <;> simp_all [AV.beq]
  | .imm r o, y, h => by
    cases y <;> simp only [AV.beq, Bool.and_eq_true, decide_eq_true_eq, Bool.false_eq_true] at h
    rw [AV.beqs_eq r _ h.1, h.2]
  | .ptr i r o, y, h => by cases y <;> simp_all [AV.beq]
  | .nilsl, y, h => by cases y <;> simp_all [AV.beq]
  | .isl r c, y, h => by
    cases y <;> simp only [AV.beq, Bool.and_eq_true, decide_eq_true_eq, Bool.false_eq_true] at h
    rw [AV.beqss_eq r _ h.1, h.2]
  | .msl i l n c, y, h => by cases y <;> simp_all [AV.beq]
  | .nilmap, y, h => by cases y <;> simp_all [AV.beq]
  | .map i, y, h => by cases y <;> simp_all [AV.beq]
  | .fn f c, y, h => by
    cases y <;> simp only [AV.beq, Bool.and_eq_true, decide_eq_true_eq, Bool.false_eq_true] at h
    rw [AV.beqs_eq c _ h.2, h.1]
  | .nilfn, y, h => by cases y <;> simp_all [AV.beq]
  | .yld i, y, h => by cases y <;> simp_all [AV.beq]
  | .ifc t v, y, h => by
    cases y <;> simp only [AV.beq, Bool.and_eq_true, decide_eq_true_eq, Bool.false_eq_true] at h
    rw [AV.beq_eq v _ h.2, h.1]
  | .nilifc, y, h => by cases y <;> simp_all [AV.beq]
  | .agg x, y, h => by
    cases y <;> simp only [AV.beq, Bool.false_eq_true] at h
    rw [AV.beqs_eq x _ h]
  | .tup x, y, h => by
    cases y <;> simp only [AV.beq, Bool.false_eq_true] at h
    rw [AV.beqs_eq x _ h]
  | .junk, y, h => by cases y <;> simp_all [AV.beq]
theorem AV.beqs_eq : ∀ (x y : List AV), AV.beqs x y = true → x = y
  | [], y, h => by cases y <;> simp_all [AV.beqs]
  | x :: xs, y, h => by
    cases y <;> simp only [AV.beqs, Bool.and_eq_true, Bool.false_eq_true] at h
    rw [AV.beq_eq x _ h.1, AV.beqs_eq xs _ h.2]
theorem AV.beqss_eq : ∀ (x y : List (List AV)), AV.beqss x y = true → x = y
  | [], y, h => by cases y <;> simp_all [AV.beqss]
  | x :: xs, y, h => by
    cases y <;> simp only [AV.beqss, Bool.and_eq_true, Bool.false_eq_true] at h
    rw [AV.beqs_eq x _ h.1, AV.beqss_eq xs _ h.2]
end
mutual
theorem AV.beq_self : ∀ (x : AV), AV.beq x x = true
  | .bool a | .int k n | .str s | .nilptr | .ptr i r o | .nilsl | .msl i l n c | .nilmap | .map i | .nilfn | .yld i | .nilifc | .junk => by simp [AV.beq]
  | .imm r o => by simp [AV.beq, AV.beqs_self r]
  | .isl r c => by simp [AV.beq, AV.beqss_self r]
  | .fn f c => by simp [AV.beq, AV.beqs_self c]
  | .ifc t v => by simp [AV.beq, AV.beq_self v]
  | .agg x => by simp [AV.beq, AV.beqs_self x]
  | .tup x => by simp [AV.beq, AV.beqs_self x]
theorem AV.beqs_self : ∀ (x : List AV), AV.beqs x x = true
  | [] => rfl
  | x :: xs => by simp [AV.beqs, AV.beq_self x, AV.beqs_self xs]
theorem AV.beqss_self : ∀ (x : List (List AV)), AV.beqss x x = true
  | [] => rfl
  | x :: xs => by simp [AV.beqss, AV.beqs_self x, AV.beqss_self xs]
end

/-! ### An operation looks at its operands alone -/
def Agree (ts : List Nat) (fr fr' : Fr) : Prop := ∀ t, t ∈ ts → fr.get t = fr'.get t
def opTmps (o : Op) : List Nat := o.operands.toList.filterMap fun | .tmp t => some t | _ => none
theorem ev_congr {E : Env} {fr fr' : Fr} {x : Operand} (h : ∀ t, x = .tmp t → fr.get t = fr'.get t) : ev E fr x = ev E fr' x := by
  cases x <;> simp only [ev]
  exact h _ rfl
theorem evs_congr {E : Env} {fr fr' : Fr} : ∀ {xs : List Operand}, (∀ t, .tmp t ∈ xs → fr.get t = fr'.get t) → evs E fr xs = evs E fr' xs
  | [], h => rfl
  | x :: xs, h => by
    simp only [evs]
    rw [ev_congr (fun t e => h t (e ▸ List.mem_cons_self)), evs_congr (xs := xs) (fun t m => h t (List.mem_cons_of_mem _ m))]
theorem evP_congr {E : Env} {fr fr' : Fr} : ∀ {xs : List (Nat × Operand)}, (∀ i t, (i, .tmp t) ∈ xs → fr.get t = fr'.get t) → evP E fr xs = evP E fr' xs
  | [], h => rfl
  | (i, x) :: xs, h => by
    simp only [evP]
    rw [ev_congr (fun t e => h i t (e ▸ List.mem_cons_self)), evP_congr (xs := xs) (fun i t m => h i t (List.mem_cons_of_mem _ m))]
theorem evO_congr {E : Env} {fr fr' : Fr} {x : Option Operand} (h : ∀ t, x = some (.tmp t) → fr.get t = fr'.get t) : evO E fr x = evO E fr' x := by
  cases x with
  | none => rfl
  | some x => simp only [evO]; rw [ev_congr (fun t e => h t (by rw [e]))]
theorem exec_congr {E : Env} {ra : RAnn} {i : Nat} {fr fr' : Fr} {H : AHeap} {o : Oper} (h : ∀ t, .tmp t ∈ o.op.operands.toList → fr.get t = fr'.get t) : exec E ra i fr H o = exec E ra i fr' H o := by
  unfold exec
  cases ho : o.op <;> rw [ho] at h <;> simp only [Op.operands] at h <;> try rfl
  case call c =>
    have h1 : evs E fr c.args.toList = evs E fr' c.args.toList := evs_congr fun t m => h t (by simp only [Call.operands, Array.toList_append]; exact List.mem_append_right _ m)
    simp only [h1]
    cases hc : c.callee <;> simp only
    rename_i f
    rw [ev_congr (x := f) fun t e => h t (by simp [Call.operands, hc, e])]
  case makeFunc f first caps =>
    cases f <;> try rfl
    simp only
    rw [evs_congr (xs := caps.toList) fun t m => h t (by simpa using .inr (by simpa using m))]
  case build t ps =>
    simp only
    rw [evP_congr (xs := ps.toList) fun i t m => h t (by simpa using ⟨i, by simpa using m⟩)]
  case buildSlice t n ps =>
    simp only
    rw [evP_congr (xs := ps.toList) fun i t m => h t (by simpa using ⟨i, by simpa using m⟩)]
  case slice t x lo hi mx =>
    simp only
    rw [ev_congr (x := x) fun t e => h t (by simp [e]), evO_congr (x := lo) fun t e => h t (by simp [e]), evO_congr (x := hi) fun t e => h t (by simp [e]), evO_congr (x := mx) fun t e => h t (by simp [e])]
  case pick c a b =>
    simp only
    rw [ev_congr (x := c) fun t e => h t (by simp [e]), ev_congr (x := a) fun t e => h t (by simp [e]), ev_congr (x := b) fun t e => h t (by simp [e])]
  case store t a x =>
    simp only
    rw [ev_congr (x := a) fun t e => h t (by simp [e]), ev_congr (x := x) fun t e => h t (by simp [e])]
  case binOp op t x y _ =>
    simp only
    rw [ev_congr (x := x) fun t e => h t (by simp [e]), ev_congr (x := y) fun t e => h t (by simp [e])]
  case makeSlice t l c =>
    simp only
    rw [ev_congr (x := l) fun t e => h t (by simp [e]), ev_congr (x := c) fun t e => h t (by simp [e])]
  case indexAddr t x ix =>
    simp only
    rw [ev_congr (x := x) fun t e => h t (by simp [e]), ev_congr (x := ix) fun t e => h t (by simp [e])]
  case index t x ix =>
    simp only
    rw [ev_congr (x := x) fun t e => h t (by simp [e]), ev_congr (x := ix) fun t e => h t (by simp [e])]
  case fieldAddr s x f => simp only; rw [ev_congr (x := x) fun t e => h t (by simp [e])]
  case field s x f => simp only; rw [ev_congr (x := x) fun t e => h t (by simp [e])]
  case extract x f => simp only; rw [ev_congr (x := x) fun t e => h t (by simp [e])]
  case unOp s f x => simp only; rw [ev_congr (x := x) fun t e => h t (by simp [e])]
  case convert s d x => simp only; rw [ev_congr (x := x) fun t e => h t (by simp [e])]
  case makeInterface s x => simp only; rw [ev_congr (x := x) fun t e => h t (by simp [e])]
  case box s x => simp only; rw [ev_congr (x := x) fun t e => h t (by simp [e])]
  case load s x => simp only; rw [ev_congr (x := x) fun t e => h t (by simp [e])]
  case move x => simp only; rw [ev_congr (x := x) fun t e => h t (by simp [e])]
  case assign x => simp only; rw [ev_congr (x := x) fun t e => h t (by simp [e])]
  case nilCheck x => simp only; rw [ev_congr (x := x) fun t e => h t (by simp [e])]
  case panic x => simp only; rw [ev_congr (x := x) fun t e => h t (by simp [e])]
theorem mem_looks {ops : Array Oper} {o : Oper} {t : Nat} (h : .tmp t ∈ o.op.operands.toList) : t ∈ o.looksAt ops := by
  unfold Oper.looksAt
  exact List.mem_append_left _ (List.mem_filterMap.2 ⟨.tmp t, h, rfl⟩)
theorem wantedA_congr {ops : Array Oper} {fr fr' : Fr} {o : Oper} (h : ∀ t, t ∈ o.looksAt ops → fr.get t = fr'.get t) : wantedA ops.toList fr o = wantedA ops.toList fr' o := by
  unfold wantedA
  split
  · rfl
  · rename_i j want hg
    split
    · rfl
    · rename_i d hd
      have : d ∈ o.looksAt ops := by
        unfold Oper.looksAt
        refine List.mem_append_right _ ?_
        rw [hg]
        simp only [Option.mem_toList]
        simpa using hd
      rw [h d this]
theorem stepV_congr {E : Env} {cf : CallF} {nt : Nat} {ra : RAnn} {ops : Array Oper} {i : Nat} {o : Oper} {fr fr' : Fr} {H : AHeap} (h : ∀ t, t ∈ o.looksAt ops → fr.get t = fr'.get t) :
    stepV E cf nt ra ops.toList i o fr H = stepV E cf nt ra ops.toList i o fr' H := by
  unfold stepV
  rw [wantedA_congr h, exec_congr fun t m => h t (mem_looks m)]
theorem stepV_step {E : Env} {cf : CallF} {nt : Nat} {ra : RAnn} {ops : List Oper} {i : Nat} {o : Oper} {fr : Fr} {H H' : AHeap} {v : AV} (h : stepV E cf nt ra ops i o fr H = some (v, H')) :
    stepOp E cf nt ra ops i o fr H = some (none, fr.putO o.dst v, H') := by
  unfold stepV at h
  unfold stepOp
  simp only [Option.bind_eq_some_iff] at h ⊢
  obtain ⟨w, hw, h⟩ := h
  refine ⟨w, hw, ?_⟩
  split at h
  · rename_i hd
    rw [if_pos hd]
    split at h
    · rename_i hwt
      rw [if_pos hwt]
      simp only [Option.bind_eq_some_iff] at h ⊢
      obtain ⟨r, hr, h⟩ := h
      refine ⟨r, hr, ?_⟩
      cases r with
      | val v' H1 => cases h; rfl
      | skip H1 => cases h; rfl
      | call f args =>
        simp only [Option.bind_eq_some_iff] at h ⊢
        obtain ⟨q, hq, h⟩ := h
        refine ⟨q, hq, ?_⟩
        split at h
        · rename_i v' hv
          cases h; rfl
        · cases h
      | pan v' => cases h
      | dfr f args => cases h
    · rename_i hwt
      rw [if_neg hwt]
      cases h; rfl
  · cases h

theorem abuildSlice_imm {P : Program} {H H' : AHeap} {t n : Nat} {ps : List (Nat × AV)} {v : AV} (h : abuildSlice P true H t n ps = some (v, H')) : H' = H ∧ ∀ H2, abuildSlice P true H2 t n ps = some (v, H2) := by
  unfold abuildSlice at h ⊢
  split at h
  · rename_i e hu
    simp only [hu, Option.bind_eq_some_iff] at h ⊢
    obtain ⟨sz, h1, z, h2, h⟩ := h
    split at h
    · rename_i hc
      simp only [Option.map_eq_some_iff, mkSlice, if_true] at h
      obtain ⟨rows, h3, h⟩ := h
      cases h
      refine ⟨rfl, fun H2 => ⟨sz, h1, z, h2, ?_⟩⟩
      rw [if_pos hc]
      simp only [h3, Option.map_some, mkSlice, if_true]
    · cases h
  · cases h
/-- What exec comes to where the operation has no effect. -/
theorem exec_pure {E : Env} {ra : RAnn} {i : Nat} {fr : Fr} {H : AHeap} {o : Oper} {r : OpR} (he : effOp ra i o = false) (h : exec E ra i fr H o = some r) : ∃ v, r = .val v H := by
  have fin : ∀ {x : Option AV}, ofVal H x = some r → ∃ v, r = .val v H := by
    intro x hx
    simp only [ofVal, Option.map_eq_some_iff] at hx
    obtain ⟨v, _, rfl⟩ := hx
    exact ⟨v, rfl⟩
  unfold effOp at he
  unfold exec at h
  cases ho : o.op <;> rw [ho] at he h <;> simp only [Bool.not_eq_false', Bool.true_eq_false] at he
  case move x => exact fin h
  case assign x => exact fin h
  case pick c a b =>
    obtain ⟨cv, _, h⟩ := Option.bind_eq_some_iff.1 h
    cases cv <;> simp only [reduceCtorEq] at h
    exact fin h
  case build t ps => obtain ⟨_, _, h⟩ := Option.bind_eq_some_iff.1 h; exact fin h
  case load t x => obtain ⟨_, _, h⟩ := Option.bind_eq_some_iff.1 h; exact fin h
  case nilCheck x =>
    obtain ⟨v, _, h⟩ := Option.bind_eq_some_iff.1 h
    cases v <;> simp only [reduceCtorEq] at h <;> exact fin h
  case binOp op t x y _ =>
    obtain ⟨_, _, h⟩ := Option.bind_eq_some_iff.1 h
    obtain ⟨_, _, h⟩ := Option.bind_eq_some_iff.1 h
    exact fin h
  case unOp => obtain ⟨_, _, h⟩ := Option.bind_eq_some_iff.1 h; exact fin h
  case convert => obtain ⟨_, _, h⟩ := Option.bind_eq_some_iff.1 h; exact fin h
  case makeInterface t x =>
    obtain ⟨_, _, h⟩ := Option.bind_eq_some_iff.1 h
    split at h
    · cases h
    · exact fin h
    · cases h
  case makeFunc f first caps =>
    cases f with
    | func f =>
      simp only at h
      split at h
      · obtain ⟨_, _, h⟩ := Option.bind_eq_some_iff.1 h; exact fin h
      · cases h
    | _ => cases h
  case slice t x lo hi mx =>
    obtain ⟨_, _, h⟩ := Option.bind_eq_some_iff.1 h
    obtain ⟨_, _, h⟩ := Option.bind_eq_some_iff.1 h
    obtain ⟨_, _, h⟩ := Option.bind_eq_some_iff.1 h
    obtain ⟨_, _, h⟩ := Option.bind_eq_some_iff.1 h
    exact fin h
  case fieldAddr => obtain ⟨_, _, h⟩ := Option.bind_eq_some_iff.1 h; exact fin h
  case field => obtain ⟨_, _, h⟩ := Option.bind_eq_some_iff.1 h; exact fin h
  case indexAddr =>
    obtain ⟨_, _, h⟩ := Option.bind_eq_some_iff.1 h
    obtain ⟨_, _, h⟩ := Option.bind_eq_some_iff.1 h
    exact fin h
  case index =>
    obtain ⟨_, _, h⟩ := Option.bind_eq_some_iff.1 h
    obtain ⟨_, _, h⟩ := Option.bind_eq_some_iff.1 h
    exact fin h
  case extract =>
    obtain ⟨v, _, h⟩ := Option.bind_eq_some_iff.1 h
    cases v <;> simp only [reduceCtorEq] at h
    exact fin h
  case box t x =>
    obtain ⟨v, _, h⟩ := Option.bind_eq_some_iff.1 h
    split at h
    · cases h
    · rw [he] at h
      cases h
      exact ⟨_, rfl⟩
  case buildSlice t n ps =>
    obtain ⟨v, _, h⟩ := Option.bind_eq_some_iff.1 h
    rw [he] at h
    simp only [ofValH, Option.map_eq_some_iff] at h
    obtain ⟨⟨v', H'⟩, h1, rfl⟩ := h
    obtain ⟨rfl, h2⟩ := abuildSlice_imm h1
    exact ⟨_, rfl⟩
  case call c =>
    obtain ⟨as, _, h⟩ := Option.bind_eq_some_iff.1 h
    cases hc : c.callee <;> rw [hc] at he h <;> try simp only [Bool.true_eq_false] at he
    rename_i b
    cases b <;> simp only [Bool.true_eq_false, reduceCtorEq] at he <;> simp only [abuiltin] at h <;> split at h <;> first | contradiction | exact fin h | cases h
/-- .. where it does not hang on the heap. -/
theorem exec_free {E : Env} {ra : RAnn} {i : Nat} {fr : Fr} {H H2 : AHeap} {o : Oper} {v : AV} {H1 : AHeap} (he : freeOp ra i o = true) (h : exec E ra i fr H o = some (.val v H1)) : exec E ra i fr H2 o = some (.val v H2) := by
  have fin : ∀ {x : Option AV}, ofVal H x = some (.val v H1) → ofVal H2 x = some (.val v H2) := by
    intro x hx
    simp only [ofVal, Option.map_eq_some_iff, OpR.val.injEq] at hx ⊢
    obtain ⟨u, h1, h2, _⟩ := hx
    exact ⟨u, h1, h2, trivial⟩
  unfold freeOp at he
  unfold exec at h ⊢
  cases ho : o.op <;> rw [ho] at he h <;> try simp only [Bool.false_eq_true] at he
  case move x => exact fin h
  case assign x => exact fin h
  case pick c a b =>
    obtain ⟨cv, hcv, h⟩ := Option.bind_eq_some_iff.1 h
    simp only [hcv, Option.bind_some]
    cases cv <;> simp only [reduceCtorEq] at h
    exact fin h
  case build t ps => obtain ⟨_, h1, h⟩ := Option.bind_eq_some_iff.1 h; simp only [h1, Option.bind_some]; exact fin h
  case nilCheck x =>
    obtain ⟨v, h1, h⟩ := Option.bind_eq_some_iff.1 h
    simp only [h1, Option.bind_some]
    cases v <;> simp only [reduceCtorEq] at h <;> exact fin h
  case binOp op t x y _ =>
    obtain ⟨_, h1, h⟩ := Option.bind_eq_some_iff.1 h
    obtain ⟨_, h2, h⟩ := Option.bind_eq_some_iff.1 h
    simp only [h1, h2, Option.bind_some]
    exact fin h
  case unOp => obtain ⟨_, h1, h⟩ := Option.bind_eq_some_iff.1 h; simp only [h1, Option.bind_some]; exact fin h
  case makeInterface t x =>
    obtain ⟨_, h1, h⟩ := Option.bind_eq_some_iff.1 h
    simp only [h1, Option.bind_some]
    cases hu : E.P.underlying t with
    | none => rw [hu] at h; cases h
    | some d => rw [hu] at h; cases d <;> first | exact fin h | cases h
  case makeFunc f first caps =>
    cases f with
    | func f =>
      simp only at h ⊢
      split at h
      · rename_i hf
        obtain ⟨_, h1, h⟩ := Option.bind_eq_some_iff.1 h; simp only [hf, if_true, h1, Option.bind_some]; exact fin h
      · cases h
    | _ => cases h
  case fieldAddr => obtain ⟨_, h1, h⟩ := Option.bind_eq_some_iff.1 h; simp only [h1, Option.bind_some]; exact fin h
  case field => obtain ⟨_, h1, h⟩ := Option.bind_eq_some_iff.1 h; simp only [h1, Option.bind_some]; exact fin h
  case index =>
    obtain ⟨_, h1, h⟩ := Option.bind_eq_some_iff.1 h
    obtain ⟨_, h2, h⟩ := Option.bind_eq_some_iff.1 h
    simp only [h1, h2, Option.bind_some]
    exact fin h
  case extract =>
    obtain ⟨v, h1, h⟩ := Option.bind_eq_some_iff.1 h
    simp only [h1, Option.bind_some]
    cases v <;> simp only [reduceCtorEq] at h
    exact fin h
  case box t x =>
    obtain ⟨v, h1, h⟩ := Option.bind_eq_some_iff.1 h
    simp only [h1, Option.bind_some]
    split at h
    · cases h
    · rename_i hj
      rw [if_neg hj]
      rw [he] at h ⊢
      cases h
      rfl
  case buildSlice t n ps =>
    obtain ⟨v, h1, h⟩ := Option.bind_eq_some_iff.1 h
    simp only [h1, Option.bind_some]
    rw [he] at h ⊢
    simp only [ofValH, Option.map_eq_some_iff] at h ⊢
    obtain ⟨⟨v', H'⟩, h2, h3⟩ := h
    cases h3
    exact ⟨(v', H2), (abuildSlice_imm h2).2 H2, rfl⟩
  case call c =>
    obtain ⟨as, h1, h⟩ := Option.bind_eq_some_iff.1 h
    simp only [h1, Option.bind_some]
    cases hc : c.callee <;> rw [hc] at he h <;> try simp only [Bool.false_eq_true] at he
    rename_i b
    cases b <;> simp only [Bool.false_eq_true, reduceCtorEq] at he <;> simp only [abuiltin] at h ⊢ <;> split at h <;> first | contradiction | exact fin h | cases h

theorem stepV_pure {E : Env} {cf : CallF} {nt : Nat} {ra : RAnn} {ops : List Oper} {i : Nat} {o : Oper} {fr : Fr} {H H' : AHeap} {v : AV} (he : effOp ra i o = false) (h : stepV E cf nt ra ops i o fr H = some (v, H')) : H' = H := by
  unfold stepV at h
  simp only [Option.bind_eq_some_iff] at h
  obtain ⟨w, hw, h⟩ := h
  split at h
  · split at h
    · simp only [Option.bind_eq_some_iff] at h
      obtain ⟨r, hr, h⟩ := h
      obtain ⟨u, rfl⟩ := exec_pure he hr
      cases h; rfl
    · cases h; rfl
  · cases h
theorem stepV_free {E : Env} {cf : CallF} {nt : Nat} {ra : RAnn} {ops : List Oper} {i : Nat} {o : Oper} {fr : Fr} {H H' H2 : AHeap} {v : AV} (he : effOp ra i o = false) (hf : freeOp ra i o = true) (h : stepV E cf nt ra ops i o fr H = some (v, H')) :
    stepV E cf nt ra ops i o fr H2 = some (v, H2) := by
  unfold stepV at h ⊢
  simp only [Option.bind_eq_some_iff] at h ⊢
  obtain ⟨w, hw, h⟩ := h
  refine ⟨w, hw, ?_⟩
  split at h
  · rename_i hd
    rw [if_pos hd]
    split at h
    · rename_i hwt
      rw [if_pos hwt]
      simp only [Option.bind_eq_some_iff] at h ⊢
      obtain ⟨r, hr, h⟩ := h
      obtain ⟨u, rfl⟩ := exec_pure he hr
      refine ⟨.val u H2, exec_free hf hr, ?_⟩
      cases h; rfl
    · rename_i hwt
      rw [if_neg hwt]
      cases h; rfl
  · cases h

/-! ### The frame and the heap behind a set of operations -/
def frAt : Fr → List DRec → Nat → (Nat → Bool) → Fr
  | fr, [], _, _ => fr
  | fr, d :: r, i, S => frAt (if S i = true then fr.putO d.dst d.val else fr) r (i + 1) S
def hpAt : AHeap → List DRec → Nat → (Nat → Bool) → AHeap
  | H, [], _, _ => H
  | H, d :: r, i, S => hpAt (if (d.eff && S i) = true then d.post else H) r (i + 1) S
theorem Fr.get_putO (fr : Fr) (d : Option Nat) (v : AV) (s : Nat) : (fr.putO d v).get s = if d = some s then some v else fr.get s := by
  cases d with
  | none => simp [Fr.putO]
  | some t =>
    simp only [Fr.putO, Fr.get_put, Option.some.injEq]
    by_cases h : s = t
    · simp [h]
    · rw [if_neg h, if_neg (fun e => h e.symm)]
theorem frAt_congr {t : Nat} : ∀ {recs : List DRec} {i : Nat} {S S' : Nat → Bool} {fr fr' : Fr}, fr.get t = fr'.get t → (∀ k d, recs[k]? = some d → d.dst = some t → S (i + k) = S' (i + k)) →
    (frAt fr recs i S).get t = (frAt fr' recs i S').get t
  | [], i, S, S', fr, fr', h, hS => h
  | d :: r, i, S, S', fr, fr', h, hS => by
    simp only [frAt]
    refine frAt_congr ?_ fun k d' hk hd => ?_
    · by_cases hd : d.dst = some t
      · have := hS 0 d rfl hd
        simp only [Nat.add_zero] at this
        rw [this]
        split
        · simp [Fr.get_putO, hd]
        · exact h
      · have hn : ∀ (b : Bool) (f : Fr), (if b = true then f.putO d.dst d.val else f).get t = f.get t := by
          intro b f
          split
          · rw [Fr.get_putO, if_neg hd]
          · rfl
        rw [hn, hn, h]
    · have := hS (k + 1) d' (by simpa using hk) hd
      have e : i + 1 + k = i + (k + 1) := by omega
      rw [e]; exact this
theorem hpAt_congr : ∀ {recs : List DRec} {i : Nat} {S S' : Nat → Bool} {H : AHeap}, (∀ k d, recs[k]? = some d → d.eff = true → S (i + k) = S' (i + k)) → hpAt H recs i S = hpAt H recs i S'
  | [], i, S, S', H, hS => rfl
  | d :: r, i, S, S', H, hS => by
    simp only [hpAt]
    have h0 : (d.eff && S i) = (d.eff && S' i) := by
      cases he : d.eff with
      | false => rfl
      | true => have := hS 0 d rfl he; simp only [Nat.add_zero] at this; rw [this]
    rw [h0]
    refine hpAt_congr fun k d' hk hd => ?_
    have := hS (k + 1) d' (by simpa using hk) hd
    have e : i + 1 + k = i + (k + 1) := by omega
    rw [e]; exact this
theorem frAt_none : ∀ {recs : List DRec} {i : Nat} {S : Nat → Bool} {fr : Fr}, (∀ k, i ≤ k → S k = false) → frAt fr recs i S = fr
  | [], i, S, fr, h => rfl
  | d :: r, i, S, fr, h => by
    simp only [frAt]
    rw [h i (Nat.le_refl _)]
    exact frAt_none fun k hk => h k (by omega)
theorem hpAt_none : ∀ {recs : List DRec} {i : Nat} {S : Nat → Bool} {H : AHeap}, (∀ k, i ≤ k → S k = false) → hpAt H recs i S = H
  | [], i, S, H, h => rfl
  | d :: r, i, S, H, h => by
    simp only [hpAt]
    rw [h i (Nat.le_refl _), Bool.and_false]
    exact hpAt_none fun k hk => h k (by omega)

/-- What the run in the order of the text says of each operation. -/
theorem drawRecs_spec {E : Env} {cf : CallF} {nt : Nat} {ra : RAnn} {ops : List Oper} : ∀ {rest : List Oper} {i : Nat} {fr frE : Fr} {H HE : AHeap} {recs : List DRec}, drawRecs E cf nt ra ops rest i fr H = some (recs, frE, HE) →
    recs.length = rest.length ∧ frE = frAt fr recs i (fun _ => true) ∧ HE = hpAt H recs i (fun _ => true) ∧
    ∀ k o d, rest[k]? = some o → recs[k]? = some d → d.dst = o.dst ∧ d.eff = effOp ra (i + k) o ∧ d.pre = frAt fr recs i (fun j => decide (j < i + k)) ∧
      stepV E cf nt ra ops (i + k) o d.pre (hpAt H recs i (fun j => decide (j < i + k))) = some (d.val, d.post)
  | [], i, fr, frE, H, HE, recs, h => by
    simp only [drawRecs, Option.some.injEq, Prod.mk.injEq] at h
    obtain ⟨rfl, rfl, rfl⟩ := h
    refine ⟨rfl, rfl, rfl, fun k o d hk => ?_⟩
    simp at hk
  | o :: rest, i, fr, frE, H, HE, recs, h => by
    simp only [drawRecs, Option.bind_eq_some_iff, Option.map_eq_some_iff, Prod.mk.injEq] at h
    obtain ⟨⟨v, H1⟩, h1, ⟨q, fq, Hq⟩, h2, rfl, rfl, rfl⟩ := h
    obtain ⟨k1, k2, k3, k4⟩ := drawRecs_spec h2
    have hpost : (if (effOp ra i o && true) = true then H1 else H) = H1 := by
      cases he : effOp ra i o with
      | true => rfl
      | false => simp [stepV_pure he h1]
    refine ⟨by simp [k1], ?_, ?_, fun k o' d hk hd => ?_⟩
    · simp only [frAt, if_true]; exact k2
    · simp only [hpAt]; rw [hpost]; exact k3
    · cases k with
      | zero =>
        simp only [List.getElem?_cons_zero, Option.some.injEq] at hk hd
        subst hk; subst hd
        simp only [Nat.add_zero]
        have hF : ∀ k, i ≤ k → (decide (k < i)) = false := by intro k hk; simp; omega
        rw [frAt_none hF, hpAt_none hF]
        exact ⟨trivial, trivial, rfl, h1⟩
      | succ k =>
        simp only [List.getElem?_cons_succ] at hk hd
        obtain ⟨m1, m2, m3, m4⟩ := k4 k o' d hk hd
        have e : i + 1 + k = i + (k + 1) := by omega
        rw [e] at m2 m3 m4
        have hT : decide (i < i + (k + 1)) = true := by simp
        refine ⟨m1, m2, ?_, ?_⟩
        · simp only [frAt, hT, if_true]; exact m3
        · simp only [hpAt, hT]; rw [hpost]; exact m4
end Go.AM
set_option linter.unusedVariables false
set_option linter.unusedSimpArgs false
namespace Go.AM
open Go Go.RowKit

theorem testBit_one_shl (j i : Nat) : (1 <<< j).testBit i = true → j = i := by
  intro h
  rw [Nat.one_shiftLeft] at h
  rw [Nat.testBit_two_pow] at h
  simpa using h
theorem anc_fold {anc : List Nat} {i : Nat} : ∀ (l : List Nat) (m : Nat), (l.foldl (fun m j => m ||| anc.getD j 0 ||| (1 <<< j)) m).testBit i = true → m.testBit i = true ∨ ∃ d, d ∈ l ∧ (d = i ∨ isAnc anc i d = true)
  | [], m, h => .inl h
  | x :: l, m, h => by
    simp only [List.foldl_cons] at h
    rcases anc_fold l _ h with h | ⟨d, h1, h2⟩
    · simp only [Nat.testBit_or, Bool.or_eq_true] at h
      rcases h with (h | h) | h
      · exact .inl h
      · exact .inr ⟨x, List.mem_cons_self, .inr h⟩
      · exact .inr ⟨x, List.mem_cons_self, .inl (testBit_one_shl _ _ h)⟩
    · exact .inr ⟨d, List.mem_cons_of_mem _ h1, h2⟩

structure DrawFacts (ra : RAnn) (ops : Array Oper) (anc effs : List Nat) : Prop where
  lt : ∀ j o, ops[j]? = some o → ∀ d, d ∈ bindOn o → d < j
  ancd : ∀ j o, ops[j]? = some o → ∀ i, isAnc anc i j = true → ∃ d, d ∈ bindOn o ∧ (d = i ∨ isAnc anc i d = true)
  pair : ∀ i j oi oj, i < j → ops[i]? = some oi → ops[j]? = some oj → isAnc anc i j = true ∨ (oi.apart ops oj = true ∧ (effOp ra i oi = true → effOp ra j oj = true → False))
  effd : ∀ i, i ∈ effs → ∃ o, ops[i]? = some o ∧ effOp ra i o = true
  effd' : ∀ i o, ops[i]? = some o → effOp ra i o = true → i ∈ effs
  look : ∀ j o, ops[j]? = some o → effOp ra j o = true ∨ freeOp ra j o = true ∨ ∀ e, (e = 0 ∨ ∃ e', e' ∈ effs ∧ e = e' + 1) → mayCut anc effs j e = true → (j, e) ∈ ra.chk
theorem drawOK_facts {ra : RAnn} {ops : Array Oper} (h : drawOK ra ops = true) : ∃ anc effs, DrawFacts ra ops anc effs := by
  unfold drawOK at h
  simp only [List.all_eq_true, List.mem_range, Array.length_toList] at h
  have key : ∀ j o, ops[j]? = some o → _ := fun j o ho => by
    have hj : j < ops.size := by
      rcases Nat.lt_or_ge j ops.size with h | h
      · exact h
      · rw [Array.getElem?_eq_none h] at ho; cases ho
    have := h j hj
    rw [show ops.toList[j]? = some o by simpa using ho] at this
    simp only [Bool.and_eq_true, decide_eq_true_eq, List.all_eq_true, List.mem_range, Bool.or_eq_true] at this
    exact this
  refine ⟨ancs ops.toList [], effIdx ra ops.toList, ⟨fun j o ho d hd => ?_, fun j o ho i hi => ?_, fun i j oi oj hij hi hj => ?_, fun i hi => ?_, fun i o ho he => ?_, fun j o ho => ?_⟩⟩
  · have := (key j o ho).1.1.2 d hd; simpa using this
  · have := (key j o ho).1.1.1
    unfold isAnc at hi
    rw [this] at hi
    rcases anc_fold _ _ hi with h | h
    · simp at h
    · exact h
  · have := (key j oj hj).1.2 i hij
    rw [show ops.toList[i]? = some oi by simpa using hi] at this
    simp only [Bool.and_eq_true, Bool.not_eq_true', Bool.and_eq_false_iff] at this
    rcases this with h | ⟨h1, h2⟩
    · exact .inl h
    · refine .inr ⟨h1, fun k1 k2 => ?_⟩
      rcases h2 with h2 | h2
      · rw [k1] at h2; cases h2
      · rw [k2] at h2; cases h2
  · simp only [effIdx, List.mem_filter] at hi
    obtain ⟨_, hi⟩ := hi
    unfold isEff at hi
    split at hi
    · rename_i o ho; exact ⟨o, by simpa using ho, hi⟩
    · cases hi
  · simp only [effIdx, List.mem_filter, List.mem_range]
    have hj : i < ops.size := by
      rcases Nat.lt_or_ge i ops.size with h | h
      · exact h
      · rw [Array.getElem?_eq_none h] at ho; cases ho
    refine ⟨by simpa using hj, ?_⟩
    unfold isEff
    rw [show ops.toList[i]? = some o by simpa using ho]
    exact he
  · rcases (key j o ho).2 with (h1 | h1) | h1
    · exact .inl h1
    · exact .inr (.inl h1)
    · refine .inr (.inr fun e he hm => ?_)
      have hmem : e ∈ (0 :: (effIdx ra ops.toList).map (· + 1)) := by
        rcases he with rfl | ⟨e', he', rfl⟩
        · exact List.mem_cons_self
        · exact List.mem_cons_of_mem _ (List.mem_map.2 ⟨e', he', rfl⟩)
      have := h1 e hmem
      rcases this with h2 | h2
      · simp only [Bool.not_eq_true'] at h2
        rw [h2] at hm; cases hm
      · simp only [List.any_eq_true, Bool.and_eq_true, decide_eq_true_eq] at h2
        obtain ⟨⟨p, e'⟩, hq, rfl, rfl⟩ := h2
        exact hq

def inS (listed : Array Bool) (i : Nat) : Bool := listed.getD i false
theorem inS_set {listed : Array Bool} {i : Nat} (hi : i < listed.size) (k : Nat) : inS (listed.setIfInBounds i true) k = if k = i then true else inS listed k := by
  unfold inS
  simp only [Array.getD_eq_getD_getElem?, Array.getElem?_setIfInBounds]
  by_cases h : i = k
  · subst h; simp [hi]
  · rw [if_neg h, if_neg (fun e => h e.symm)]
theorem ready_spec {ops : Array Oper} {listed : Array Bool} {i : Nat} (hs : listed.size = ops.size) : i ∈ Region.ready .any ops listed ↔ i < ops.size ∧ inS listed i = false ∧ ∃ o, ops[i]? = some o ∧ ∀ d, d ∈ bindOn o → inS listed d = true := by
  unfold Region.ready
  simp only [List.mem_filter, List.mem_range, Bool.and_eq_true, Bool.not_eq_true']
  constructor
  · rintro ⟨h1, h2, h3⟩
    refine ⟨h1, ?_, ops[i], by simp [h1], fun d hd => ?_⟩
    · unfold inS
      simp only [Array.getD_eq_getD_getElem?] at h2 ⊢
      have : i < listed.size := by omega
      rw [Array.getElem?_eq_getElem this] at h2 ⊢
      simpa using h2
    · have ho : ops[i]? = some ops[i] := by simp [h1]
      rw [ho] at h3
      simp only [Option.map_some, Option.getD_some, Array.all_eq_true_iff_forall_mem, Bool.or_eq_true, Bool.not_eq_true'] at h3
      unfold bindOn at hd
      simp only [List.mem_map, List.mem_filter, Array.mem_toList_iff] at hd
      obtain ⟨e, ⟨he, hb⟩, rfl⟩ := hd
      rcases h3 e he with h4 | h4
      · rw [hb] at h4; cases h4
      · exact h4
  · rintro ⟨h1, h2, o, ho, h3⟩
    refine ⟨h1, ?_, ?_⟩
    · unfold inS at h2
      simp only [Array.getD_eq_getD_getElem?] at h2 ⊢
      have : i < listed.size := by omega
      rw [Array.getElem?_eq_getElem this] at h2 ⊢
      simpa using h2
    · rw [ho]
      simp only [Option.map_some, Option.getD_some, Array.all_eq_true_iff_forall_mem, Bool.or_eq_true, Bool.not_eq_true']
      intro e he
      cases hb : Region.binds .any e with
      | false => exact .inl rfl
      | true => exact .inr (h3 e.on (by unfold bindOn; simp only [List.mem_map, List.mem_filter, Array.mem_toList_iff]; exact ⟨e, ⟨he, hb⟩, rfl⟩))

/-- The heap behind a set is that behind its last effect. -/
theorem hpAt_last {S : Nat → Bool} : ∀ {recs : List DRec} {i : Nat} {H : AHeap}, (hpAt H recs i S = H ∧ ∀ k d, recs[k]? = some d → d.eff = true → S (i + k) = false) ∨
    ∃ k d, recs[k]? = some d ∧ d.eff = true ∧ S (i + k) = true ∧ hpAt H recs i S = d.post ∧ ∀ k' d', recs[k']? = some d' → d'.eff = true → k < k' → S (i + k') = false
  | [], i, H => .inl ⟨rfl, fun k d h => by simp at h⟩
  | d :: r, i, H => by
    simp only [hpAt]
    rcases hpAt_last (S := S) (recs := r) (i := i + 1) (H := if (d.eff && S i) = true then d.post else H) with ⟨h1, h2⟩ | ⟨k, d', h1, h2, h3, h4, h5⟩
    · by_cases hd : (d.eff && S i) = true
      · rw [if_pos hd] at h1 ⊢
        simp only [Bool.and_eq_true] at hd
        refine .inr ⟨0, d, rfl, hd.1, by simpa using hd.2, h1, fun k' d' hk he hlt => ?_⟩
        cases k' with
        | zero => omega
        | succ k' => have := h2 k' d' (by simpa using hk) he; rw [show i + (k' + 1) = i + 1 + k' by omega]; exact this
      · rw [if_neg hd] at h1 ⊢
        refine .inl ⟨h1, fun k d' hk he => ?_⟩
        cases k with
        | zero =>
          simp only [List.getElem?_cons_zero, Option.some.injEq] at hk
          subst hk
          rw [he] at hd
          simpa using hd
        | succ k => have := h2 k d' (by simpa using hk) he; rw [show i + (k + 1) = i + 1 + k by omega]; exact this
    · refine .inr ⟨k + 1, d', by simpa using h1, h2, by rw [show i + (k + 1) = i + 1 + k by omega]; exact h3, h4, fun k' d'' hk he hlt => ?_⟩
      cases k' with
      | zero => omega
      | succ k' => have := h5 k' d'' (by simpa using hk) he (by omega); rw [show i + (k' + 1) = i + 1 + k' by omega]; exact this
theorem lookOK_mem {E : Env} {cf : CallF} {nt : Nat} {ra : RAnn} {ops : List Oper} {recs : List DRec} {H : AHeap} : ∀ {l : List (Nat × Nat)}, lookOK E cf nt ra ops recs H l = true → ∀ p e, (p, e) ∈ l →
    ∃ d o He H', recs[p]? = some d ∧ ops[p]? = some o ∧ heapBehind recs H e = some He ∧ stepV E cf nt ra ops p o d.pre He = some (d.val, H')
  | [], h, p, e, hm => by simp at hm
  | (p0, e0) :: l, h, p, e, hm => by
    simp only [lookOK] at h
    split at h
    · rename_i d o He h1 h2 h3
      split at h
      · rename_i q hq
        simp only [Bool.and_eq_true] at h
        rcases List.mem_cons.1 hm with hm | hm
        · cases hm
          have hv := AV.beq_eq _ _ h.1
          exact ⟨d, o, He, q.2, h1, h2, h3, by rw [hq, ← hv]⟩
        · exact lookOK_mem h.2 p e hm
      · cases h
    · cases h

/-- What the last writer has written. -/
theorem frAt_last {t : Nat} : ∀ {recs : List DRec} {i : Nat} {fr : Fr} {k : Nat} {d : DRec}, recs[k]? = some d → d.dst = some t → (frAt fr recs i (fun j => decide (j < i + k + 1))).get t = some d.val
  | [], i, fr, k, d, h, ht => by simp at h
  | d0 :: r, i, fr, 0, d, h, ht => by
    simp only [List.getElem?_cons_zero, Option.some.injEq] at h
    subst h
    have hT : decide (i < i + 0 + 1) = true := by simp
    simp only [frAt, hT, if_true]
    rw [frAt_none (fun j hj => by simp; omega)]
    simp [Fr.get_putO, ht]
  | d0 :: r, i, fr, k + 1, d, h, ht => by
    simp only [List.getElem?_cons_succ] at h
    have := frAt_last (recs := r) (i := i + 1) (fr := if decide (i < i + (k + 1) + 1) = true then fr.putO d0.dst d0.val else fr) h ht
    simp only [frAt]
    rw [show i + 1 + k + 1 = i + (k + 1) + 1 by omega] at this
    exact this

section
variable {E : Env} {w0 : World}
structure DInv (E : Env) (w0 : World) (ops : Array Oper) (anc : List Nat) (recs : List DRec) (nt : Nat) (c0 : Ctx) (H0 : AHeap) (wb : World) (fr0 : Fr) (df0 : List Deferred) (listed : Array Bool) (a : Act) (w : World) (c : Ctx) : Prop where
  size : listed.size = ops.size
  closed : ∀ j, inS listed j = true → ∀ i, isAnc anc i j = true → inS listed i = true
  rel : Rel E w0 c (hpAt H0 recs 0 (inS listed)) w
  ext : Ext c0 H0 wb c (hpAt H0 recs 0 (inS listed)) w
  fr : FrRel c w nt (frAt fr0 recs 0 (inS listed)) a
  df : a.defers = df0

theorem FrRel.of_get {c : Ctx} {w : World} {nt : Nat} {fr fr' : Fr} {a : Act} (h : FrRel c w nt fr a) (he : ∀ t, fr'.get t = fr.get t) : FrRel c w nt fr' a :=
  ⟨h.size, fun t v hv => h.val t v (by rw [← he]; exact hv)⟩

theorem draw_wp (OK : EnvOK E) {cf : CallF} (CO : CallOK E w0 cf) {c0 : Ctx} {H0 : AHeap} {wb : World} (R0 : Rel E w0 c0 H0 wb) {ro : Option Nat} {n nt : Nat} {fr0 frE : Fr} {HE : AHeap} {ra : RAnn} {ops : Array Oper} {recs : List DRec} {df0 : List Deferred} {anc effs : List Nat}
    (F : DrawFacts ra ops anc effs) (hr : drawRecs E cf nt ra ops.toList ops.toList 0 fr0 H0 = some (recs, frE, HE)) (hl : lookOK E cf nt ra ops.toList recs H0 ra.chk = true) {Q : Exit → Act → World → Prop}
    (hQ : ∀ c a w, Ext c0 H0 wb c HE w → Rel E w0 c HE w → FrRel c w nt frE a → a.defers = df0 → Q .normal a w) :
    ∀ (fuel : Nat) (listed : Array Bool) (a : Act) (w : World) (c : Ctx), fuel + listed.count true = ops.size → DInv E w0 ops anc recs nt c0 H0 wb fr0 df0 listed a w c → wpAnyIn (FW ro) n E.P .any ops Q fuel listed a w := by
  obtain ⟨hlen, hfrE, hHE, hrec⟩ := drawRecs_spec hr
  have hlen' : recs.length = ops.size := by simpa using hlen
  have hall : ∀ (listed : Array Bool) (a : Act) (w : World) (c : Ctx), (∀ j, j < ops.size → inS listed j = true) → DInv E w0 ops anc recs nt c0 H0 wb fr0 df0 listed a w c → Q .normal a w := by
    intro listed a w c ha I
    have hS : ∀ k d, recs[k]? = some d → inS listed (0 + k) = true := by
      intro k d hk
      have : k < recs.length := by
        rcases Nat.lt_or_ge k recs.length with h | h
        · exact h
        · rw [List.getElem?_eq_none h] at hk; cases hk
      rw [Nat.zero_add]
      exact ha k (by omega)
    have e1 : hpAt H0 recs 0 (inS listed) = HE := by rw [hHE]; exact hpAt_congr fun k d hk _ => hS k d hk
    refine hQ c a w (e1 ▸ I.ext) (e1 ▸ I.rel) (I.fr.of_get fun t => ?_) I.df
    rw [hfrE]
    exact frAt_congr rfl fun k d hk _ => (hS k d hk).symm
  intro fuel
  induction fuel with
  | zero =>
    intro listed a w c hc I
    have ha : ∀ j, j < ops.size → inS listed j = true := by
      intro j hj
      have hcs : listed.count true = listed.size := by rw [I.size]; omega
      have := Array.count_eq_size.1 hcs
      unfold inS
      have hj' : j < listed.size := by rw [I.size]; exact hj
      rw [Array.getD_eq_getD_getElem?, Array.getElem?_eq_getElem hj', Option.getD_some]
      exact (this _ (Array.getElem_mem hj')).symm
    refine ⟨?_, hall listed a w c ha I⟩
    rw [List.eq_nil_iff_forall_not_mem]
    intro i hi
    obtain ⟨h1, h2, _⟩ := (ready_spec I.size).1 hi
    rw [ha i h1] at h2
    cases h2
  | succ fuel ih =>
    intro listed a w c hc I
    refine ⟨fun h0 => hall listed a w c ?_ I, fun i hi => ?_⟩
    · intro j
      induction j using Nat.strongRecOn with
      | _ j ihj =>
        intro hj
        cases hs : inS listed j with
        | true => rfl
        | false =>
          have ho : ops[j]? = some ops[j] := by simp [hj]
          have : j ∈ Region.ready .any ops listed := (ready_spec I.size).2 ⟨hj, hs, ops[j], ho, fun d hd => ihj d (F.lt j _ ho d hd) (by have := F.lt j _ ho d hd; omega)⟩
          rw [h0] at this
          cases this
    · obtain ⟨hi1, hi2, o, ho, hi3⟩ := (ready_spec I.size).1 hi
      have hancS : ∀ j, isAnc anc j i = true → inS listed j = true := by
        intro j hj
        obtain ⟨d, h1, h2⟩ := F.ancd i o ho j hj
        rcases h2 with rfl | h2
        · exact hi3 d h1
        · exact I.closed d (hi3 d h1) j h2
      have hnot : ∀ j, inS listed j = true → isAnc anc i j = false := by
        intro j hj
        cases h : isAnc anc i j with
        | false => rfl
        | true => rw [I.closed j hj i h] at hi2; cases hi2
      have hget : ∀ k d, recs[k]? = some d → ∃ ok, ops[k]? = some ok ∧ d.dst = ok.dst ∧ d.eff = effOp ra k ok := by
        intro k d hk
        have hlt : k < ops.size := by
          rcases Nat.lt_or_ge k recs.length with h | h
          · omega
          · rw [List.getElem?_eq_none h] at hk; cases hk
        have hok : ops[k]? = some ops[k] := by simp [hlt]
        obtain ⟨h1, h2, _, _⟩ := hrec k ops[k] d (by rw [Array.getElem?_toList]; exact hok) hk
        rw [Nat.zero_add] at h2
        exact ⟨ops[k], hok, h1, h2⟩
      obtain ⟨d, hd⟩ : ∃ d, recs[i]? = some d := ⟨recs[i], by rw [List.getElem?_eq_getElem]⟩
      obtain ⟨hdst, heff, hpre, hst⟩ := hrec i o d (by simpa using ho) hd
      simp only [Nat.zero_add] at heff hpre hst
      -- who writes what i looks at, or writes, has been listed just if it is ahead of i
      have hside : ∀ k ok, ops[k]? = some ok → k ≠ i → (∃ t, ok.dst = some t ∧ (t ∈ o.looksAt ops ∨ o.dst = some t)) → inS listed k = decide (k < i) := by
        intro k ok hok hne ⟨t, ht, hlk⟩
        have hnap : ok.apart ops o = true → False := by
          intro h
          obtain ⟨h1, h2, h3⟩ := Oper.apart_spec h
          rcases hlk with hlk | hlk
          · exact h1 t ht hlk
          · exact h2 t ht hlk
        have hnap' : o.apart ops ok = true → False := by
          intro h
          obtain ⟨h1, h2, h3⟩ := Oper.apart_spec h
          rcases hlk with hlk | hlk
          · exact h3 t ht hlk
          · exact h2 t hlk ht
        rcases Nat.lt_or_ge k i with hlt | hge
        · rw [decide_eq_true hlt]
          rcases F.pair k i ok o hlt hok ho with h | ⟨h, _⟩
          · exact hancS k h
          · exact (hnap h).elim
        · have hgt : i < k := by omega
          rw [decide_eq_false (by omega)]
          rcases F.pair i k o ok hgt ho hok with h | ⟨h, _⟩
          · cases hs : inS listed k with
            | false => rfl
            | true => rw [hnot k hs] at h; cases h
          · exact (hnap' h).elim
      have hframe : ∀ t, t ∈ o.looksAt ops → (frAt fr0 recs 0 (inS listed)).get t = d.pre.get t := by
        intro t ht
        rw [hpre]
        refine frAt_congr rfl fun k d' hk hdt => ?_
        rw [Nat.zero_add]
        obtain ⟨ok, hok, h1, h2⟩ := hget k d' hk
        by_cases hne : k = i
        · subst hne
          rw [hi2]; simp
        · exact hside k ok hok hne ⟨t, by rw [← h1]; exact hdt, .inl ht⟩
      -- the heap
      have hheap : ∃ H', stepV E cf nt ra ops.toList i o d.pre (hpAt H0 recs 0 (inS listed)) = some (d.val, H') ∧ hpAt H0 recs 0 (inS (listed.setIfInBounds i true)) = H' := by
        have hi' : i < listed.size := by rw [I.size]; exact hi1
        cases he : effOp ra i o with
        | true =>
          have hagree : ∀ k d', recs[k]? = some d' → d'.eff = true → k ≠ i → inS listed k = decide (k < i) := by
            intro k d' hk hke hne
            obtain ⟨ok, hok, h1, h2⟩ := hget k d' hk
            rw [h2] at hke
            rcases Nat.lt_or_ge k i with hlt | hge
            · rw [decide_eq_true hlt]
              rcases F.pair k i ok o hlt hok ho with h | ⟨_, h⟩
              · exact hancS k h
              · exact (h hke he).elim
            · rw [decide_eq_false (by omega)]
              rcases F.pair i k o ok (by omega) ho hok with h | ⟨_, h⟩
              · cases hs : inS listed k with
                | false => rfl
                | true => rw [hnot k hs] at h; cases h
              · exact (h he hke).elim
          have e1 : hpAt H0 recs 0 (inS listed) = hpAt H0 recs 0 (fun j => decide (j < i)) := by
            refine hpAt_congr fun k d' hk hke => ?_
            rw [Nat.zero_add]
            by_cases hne : k = i
            · subst hne; rw [hi2]; simp
            · exact hagree k d' hk hke hne
          refine ⟨d.post, by rw [e1]; exact hst, ?_⟩
          rcases hpAt_last (S := inS (listed.setIfInBounds i true)) (recs := recs) (i := 0) (H := H0) with ⟨_, h2⟩ | ⟨k, d', h1, h2, h3, h4, h5⟩
          · have := h2 i d hd (by rw [heff]; exact he)
            rw [Nat.zero_add, inS_set hi'] at this
            simp at this
          · rw [h4]
            have hki : k = i := by
              rcases Nat.lt_trichotomy k i with hlt | heq | hgt
              · have := h5 i d hd (by rw [heff]; exact he) hlt
                rw [Nat.zero_add, inS_set hi'] at this
                simp at this
              · exact heq
              · rw [Nat.zero_add, inS_set hi', if_neg (by omega), hagree k d' h1 h2 (by omega)] at h3
                simp at h3
                omega
            subst hki
            rw [hd] at h1
            cases h1
            rfl
        | false =>
          have e2 : hpAt H0 recs 0 (inS (listed.setIfInBounds i true)) = hpAt H0 recs 0 (inS listed) := by
            refine hpAt_congr fun k d' hk hke => ?_
            rw [Nat.zero_add, inS_set hi']
            by_cases hne : k = i
            · subst hne
              rw [hd] at hk
              cases hk
              rw [heff, he] at hke
              cases hke
            · rw [if_neg hne]
          have hval : ∃ H', stepV E cf nt ra ops.toList i o d.pre (hpAt H0 recs 0 (inS listed)) = some (d.val, H') := by
            rcases F.look i o ho with h | h | h
            · rw [he] at h; cases h
            · exact ⟨_, stepV_free he h hst⟩
            · rcases hpAt_last (S := inS listed) (recs := recs) (i := 0) (H := H0) with ⟨k1, k2⟩ | ⟨k, d', k1, k2, k3, k4, k5⟩
              · have hm := h 0 (.inl rfl) (by
                  simp only [mayCut, List.all_eq_true, Bool.not_eq_true']
                  intro e hee
                  cases hx : isAnc anc e i with
                  | false => rfl
                  | true =>
                    have h1 := hancS e hx
                    obtain ⟨oe, hoe, hoee⟩ := F.effd e hee
                    obtain ⟨de, hde⟩ : ∃ de, recs[e]? = some de := by
                      have : e < ops.size := by
                        rcases Nat.lt_or_ge e ops.size with h | h
                        · exact h
                        · rw [Array.getElem?_eq_none h] at hoe; cases hoe
                      exact ⟨recs[e], by rw [List.getElem?_eq_getElem]⟩
                    obtain ⟨oe', hoe', _, hh⟩ := hget e de hde
                    rw [hoe] at hoe'
                    cases hoe'
                    have := k2 e de hde (by rw [hh]; exact hoee)
                    rw [Nat.zero_add, h1] at this
                    cases this)
                obtain ⟨d2, o2, He, H', q1, q2, q3, q4⟩ := lookOK_mem hl i 0 hm
                rw [hd] at q1
                cases q1
                simp only [Array.getElem?_toList] at q2
                rw [ho] at q2
                cases q2
                simp only [heapBehind, Option.some.injEq] at q3
                rw [k1, q3]
                exact ⟨H', q4⟩
              · rw [Nat.zero_add] at k3
                obtain ⟨ok, hok, _, hh⟩ := hget k d' k1
                have hm := h (k + 1) (.inr ⟨k, F.effd' k ok hok (by rw [← hh]; exact k2), rfl⟩) (by
                  simp only [mayCut, Bool.and_eq_true, Bool.not_eq_true', List.all_eq_true, Bool.or_eq_true, decide_eq_true_eq]
                  refine ⟨hnot k k3, fun e hee => ?_⟩
                  rcases Nat.lt_or_ge k e with hlt | hge
                  · right
                    cases hx : isAnc anc e i with
                    | false => rfl
                    | true =>
                      have h1 := hancS e hx
                      obtain ⟨oe, hoe, hoee⟩ := F.effd e hee
                      obtain ⟨de, hde⟩ : ∃ de, recs[e]? = some de := by
                        have : e < ops.size := by
                          rcases Nat.lt_or_ge e ops.size with h | h
                          · exact h
                          · rw [Array.getElem?_eq_none h] at hoe; cases hoe
                        exact ⟨recs[e], by rw [List.getElem?_eq_getElem]⟩
                      obtain ⟨oe', hoe', _, hh'⟩ := hget e de hde
                      rw [hoe] at hoe'
                      cases hoe'
                      have := k5 e de hde (by rw [hh']; exact hoee) hlt
                      rw [Nat.zero_add, h1] at this
                      cases this
                  · exact .inl hge)
                obtain ⟨d2, o2, He, H', q1, q2, q3, q4⟩ := lookOK_mem hl i (k + 1) hm
                rw [hd] at q1
                cases q1
                simp only [Array.getElem?_toList] at q2
                rw [ho] at q2
                cases q2
                simp only [heapBehind, k1, Option.map_some, Option.some.injEq] at q3
                rw [k4, q3]
                exact ⟨H', q4⟩
          obtain ⟨H', hv⟩ := hval
          have := stepV_pure he hv
          exact ⟨H', hv, by rw [e2, this]⟩
      obtain ⟨H', hv, hpost⟩ := hheap
      have hi' : i < listed.size := by rw [I.size]; exact hi1
      have hv' : stepV E cf nt ra ops.toList i o (frAt fr0 recs 0 (inS listed)) (hpAt H0 recs 0 (inS listed)) = some (d.val, H') := by
        rw [stepV_congr hframe]; exact hv
      refine stepOp_wp OK CO I.rel I.fr ho (stepV_step hv') (fun _ c' a' w' k1 k2 k3 k4 => ?_) (fun v h => by cases h)
      refine ih _ a' w' c' ?_ ⟨by simp [I.size], fun j hj m hm => ?_, by rw [hpost]; exact k2, by rw [hpost]; exact I.ext.trans R0 k1, k3.of_get fun t => ?_, k4.trans I.df⟩
      · have hcnt : (listed.setIfInBounds i true).count true = listed.count true + 1 := by
          rw [show listed.setIfInBounds i true = listed.set i true hi' from by simp [Array.setIfInBounds, hi']]
          rw [Array.count_set hi']
          have : listed[i] = false := by
            unfold inS at hi2
            rw [Array.getD_eq_getD_getElem?, Array.getElem?_eq_getElem hi'] at hi2
            simpa using hi2
          simp [this]
        rw [hcnt]; omega
      · rw [inS_set hi'] at hj ⊢
        split
        · rfl
        · split at hj
          · rename_i hji; subst hji; exact hancS m hm
          · exact I.closed j hj m hm
      · rw [Fr.get_putO]
        by_cases ht : o.dst = some t
        · rw [if_pos ht]
          have e1 : (frAt fr0 recs 0 (inS (listed.setIfInBounds i true))).get t = (frAt fr0 recs 0 (fun j => decide (j < i + 1))).get t := by
            refine frAt_congr rfl fun k d' hk hdt => ?_
            rw [Nat.zero_add, inS_set hi']
            obtain ⟨ok, hok, h1, h2⟩ := hget k d' hk
            by_cases hne : k = i
            · subst hne; simp
            · rw [if_neg hne, hside k ok hok hne ⟨t, by rw [← h1]; exact hdt, .inr ht⟩]
              simp only [decide_eq_decide]; omega
          rw [e1]
          have := frAt_last (recs := recs) (i := 0) (fr := fr0) hd (by rw [hdst]; exact ht)
          rw [Nat.zero_add] at this
          exact this
        · rw [if_neg ht]
          refine frAt_congr rfl fun k d' hk hdt => ?_
          rw [Nat.zero_add, inS_set hi']
          by_cases hne : k = i
          · subst hne
            rw [hd] at hk
            cases hk
            rw [hdst] at hdt
            exact absurd hdt ht
          · rw [if_neg hne]
end
end Go.AM
