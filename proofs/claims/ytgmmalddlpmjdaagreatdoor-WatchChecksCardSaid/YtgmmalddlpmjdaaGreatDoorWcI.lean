/- Equal plans. Equal plans: the whole. -/
import Derived.Test.YtgmmalddlpmjdaaGreatDoorWcG
set_option linter.unusedVariables false
set_option linter.unusedSimpArgs false
namespace Go.AM.Wc
open Go Go.AM
def sameG (a b : G) : Bool := a.name == b.name && (a.acc == b.acc && (a.drift == b.drift && a.since == b.since))
def sameM (a b : M) : Bool := a.name == b.name && (a.crew == b.crew && (a.rank == b.rank && (a.lag == b.lag && a.takes == b.takes)))
def sameA (a b : A) : Bool := a.qu == b.qu && (a.lev == b.lev && (a.lim == b.lim && a.ms == b.ms))
def sameL {α : Type} (f : α → α → Bool) : List α → List α → Bool
  | [], [] => true
  | x :: xs, y :: ys => f x y && sameL f xs ys
  | _, _ => false
def sameQ (a b : Q) : Bool := a.name == b.name && ((a.lo == b.lo && a.hi == b.hi) && (a.rise == b.rise && (a.fall == b.fall && (a.bad == b.bad && sameL sameG a.gs.list b.gs.list))))
theorem sameL_len {α : Type} {f : α → α → Bool} : ∀ {l m : List α}, l.length ≠ m.length → sameL f l m = false
  | [], [], h => absurd rfl h
  | [], y :: ys, _ => rfl
  | x :: xs, [], _ => rfl
  | x :: xs, y :: ys, h => by
    rw [sameL, sameL_len (by simpa using h), Bool.and_false]
theorem sameL_step {α : Type} {f : α → α → Bool} {l m : List α} {j : Nat} (h1 : j < l.length) (h2 : j < m.length) : sameL f (l.drop j) (m.drop j) = (f l[j] m[j] && sameL f (l.drop (j + 1)) (m.drop (j + 1))) := by
  rw [List.drop_eq_getElem_cons h1, List.drop_eq_getElem_cons h2, sameL]
theorem sameL_go {α : Type} {f : α → α → Bool} {l m : List α} {j : Nat} (h1 : j < l.length) (h2 : j < m.length) (k : sameL f l m = sameL f (l.drop j) (m.drop j)) (he : f l[j] m[j] = true) : sameL f l m = sameL f (l.drop (j + 1)) (m.drop (j + 1)) := by
  rw [k, sameL_step h1 h2, he, Bool.true_and]
theorem sameL_bad {α : Type} {f : α → α → Bool} {l m : List α} {j : Nat} (h1 : j < l.length) (h2 : j < m.length) (k : sameL f l m = sameL f (l.drop j) (m.drop j)) (he : f l[j] m[j] = false) : sameL f l m = false := by
  rw [k, sameL_step h1 h2, he, Bool.false_and]
theorem sameL_end {α : Type} {f : α → α → Bool} {l m : List α} {j : Nat} (h1 : l.length ≤ j) (h2 : m.length ≤ j) (k : sameL f l m = sameL f (l.drop j) (m.drop j)) : sameL f l m = true := by
  rw [k, List.drop_of_length_le h1, List.drop_of_length_le h2, sameL]
theorem eqG (a b : G) : abinS false true (some (.fld 0 1 false .str (.fld 1 1 false .int (.fld 2 1 false .int (.fld 3 1 false .int .fin))))) .neq (.agg (List.take 4 (List.drop 0 a.row))) (.agg (List.take 4 (List.drop 0 b.row))) = some (.bool (!(sameG a b))) := by
  cases h1 : a.name == b.name <;> cases h2 : a.acc == b.acc <;> cases h3 : a.drift == b.drift <;> cases h4 : a.since == b.since <;> simp [abinS, eqOp, aeqO, aeqS, cut, sameG, h1, h2, h3, h4]
theorem eqA (a b : A) : abinS false true (some (.fld 0 1 false .int (.fld 1 1 false .int (.fld 2 1 false .int (.fld 3 1 false .int .fin))))) .neq (.agg (List.take 4 (List.drop 0 a.row))) (.agg (List.take 4 (List.drop 0 b.row))) = some (.bool (!(sameA a b))) := by
  cases h1 : a.qu == b.qu <;> cases h2 : a.lev == b.lev <;> cases h3 : a.lim == b.lim <;> cases h4 : a.ms == b.ms <;> simp [abinS, eqOp, aeqO, aeqS, cut, sameA, h1, h2, h3, h4]
theorem eqM (a b : M) : abinS false true (some (.fld 0 1 false .str (.fld 1 1 false .str (.fld 2 1 false .int (.fld 3 1 false .int (.fld 4 1 false .int .fin)))))) .neq (.agg (List.take 5 (List.drop 0 a.row))) (.agg (List.take 5 (List.drop 0 b.row))) = some (.bool (!(sameM a b))) := by
  cases h1 : a.name == b.name <;> cases h2 : a.crew == b.crew <;> cases h3 : a.rank == b.rank <;> cases h4 : a.lag == b.lag <;> cases h5 : a.takes == b.takes <;> simp [abinS, eqOp, aeqO, aeqS, cut, sameM, h1, h2, h3, h4, h5]
theorem eqSpan (a b : Q) : abinS false true (some (.fld 0 1 false .int (.fld 1 1 false .int .fin))) .eql (.agg (List.take 2 (List.drop (0 + 1) a.row))) (.agg (List.take 2 (List.drop (0 + 1) b.row))) = some (.bool (a.lo == b.lo && a.hi == b.hi)) := by
  cases h1 : a.lo == b.lo <;> cases h2 : a.hi == b.hi <;> simp [abinS, eqOp, aeqO, aeqS, cut, h1, h2]
theorem neSpan (a b : Q) : abinS false true (some (.fld 0 1 false .int (.fld 1 1 false .int .fin))) .neq (.agg (List.take 2 (List.drop (0 + 1) a.row))) (.agg (List.take 2 (List.drop (0 + 1) b.row))) = some (.bool (!(a.lo == b.lo && a.hi == b.hi))) := by
  cases h1 : a.lo == b.lo <;> cases h2 : a.hi == b.hi <;> simp [abinS, eqOp, aeqO, aeqS, cut, h1, h2]
set_option maxHeartbeats 4000000 in
set_option maxRecDepth 100000 in
theorem c37 {n : Nat} (hn : 200 ≤ n) (s t : Sl G) (hlen : s.list.length ≤ 100) (H : AHeap) : evalFn S n (.fn 37 []) [s.av G.row, t.av G.row] H = some (.ret (.bool (sameL sameG s.list t.list)), H) := by
  obtain ⟨n, rfl⟩ : ∃ m, n = m + 1 := ⟨n - 1, by omega⟩
  refine fn_ret (S := S) (sf := sf37) rfl (S_fn rfl) rfl ?_
  simp only [sf37, codeP, opsP, drawP]
  repeat' (conv => whnf
           first | refine ⟨_, rfl, ?_⟩ | refine Br.mk (fun _ => ?_) (fun _ => ?_) | refine ⟨_, _, .inl ⟨rfl, ?_⟩⟩ | refine ⟨_, alenSl_av _ _, ?_⟩ | fail)
  all_goals try (conv => whnf)
  all_goals try simp only [decide_eq_true_eq, decide_eq_false_iff_not, beq_iff_eq, beq_eq_false_iff_ne, Bool.not_eq_true', Bool.not_eq_false', Int.not_lt, Int.not_le, ge_iff_le, gt_iff_lt, ne_eq, bne_iff_ne, bne_eq_false_iff_eq, Sl.take_list, List.length_cons, reduceCtorEq] at *
  all_goals try first
    | (refine ⟨congrArg (fun x => FR.ret (.bool x)) ?_, rfl⟩; rw [sameL_len (by omega)]; done)
  have hl : t.list.length = s.list.length := by omega
  refine loopP_inv (fun j fr H' df => ∃ (i : Int), fr = [(0, s.av G.row), (1, t.av G.row), (12, .int .i64 (s.list.length : Nat)), (13, .int .i64 i)] ∧ H' = H ∧ df = [] ∧ i = (j : Int) ∧ sameL sameG s.list t.list = sameL sameG (s.list.drop j) (t.list.drop j)) s.list.length ?_ s.list.length (Nat.zero_add _) ⟨_, rfl, rfl, rfl, rfl, rfl⟩ (by omega)
  rintro j hj fr H' df ⟨i, rfl, rfl, rfl, rfl, hall⟩ kn hk
  try simp only [codeP, opsP, drawP]
  repeat' (conv => whnf
           first | refine ⟨_, eqG _ _, ?_⟩ | refine ⟨_, rfl, ?_⟩ | refine Br.mk (fun _ => ?_) (fun _ => ?_) | refine ⟨_, _, .inl ⟨rfl, ?_⟩⟩ | refine ⟨_, iadI (f := G.row) (fun _ => rfl) rfl rfl (by have := lt_of ‹decide ((j : Int) < _) = true›; omega), ?_⟩ | fail)
  all_goals try (conv => whnf)
  all_goals first | (have hlt := lt_of ‹decide ((j : Int) < _) = true›) | (have hge := ge_of ‹decide ((j : Int) < _) = false›) | skip
  all_goals try simp only [Bool.not_eq_true', Bool.not_eq_false'] at *
  all_goals first
    | exact hk hlt _ _ _ ⟨_, rfl, rfl, rfl, w1 (by omega), sameL_go hlt (by omega) hall (by assumption)⟩
    | (refine ⟨congrArg (fun x => FR.ret (.bool x)) ?_, rfl⟩; exact (sameL_bad hlt (by omega) hall (by assumption)).symm)
    | (refine ⟨congrArg (fun x => FR.ret (.bool x)) ?_, rfl⟩; exact (sameL_end hge (by omega) hall).symm)
set_option maxHeartbeats 4000000 in
set_option maxRecDepth 100000 in
theorem c39 {n : Nat} (hn : 200 ≤ n) (s t : Sl M) (hlen : s.list.length ≤ 100) (H : AHeap) : evalFn S n (.fn 39 []) [s.av M.row, t.av M.row] H = some (.ret (.bool (sameL sameM s.list t.list)), H) := by
  obtain ⟨n, rfl⟩ : ∃ m, n = m + 1 := ⟨n - 1, by omega⟩
  refine fn_ret (S := S) (sf := sf39) rfl (S_fn rfl) rfl ?_
  simp only [sf39, codeP, opsP, drawP]
  repeat' (conv => whnf
           first | refine ⟨_, rfl, ?_⟩ | refine Br.mk (fun _ => ?_) (fun _ => ?_) | refine ⟨_, _, .inl ⟨rfl, ?_⟩⟩ | refine ⟨_, alenSl_av _ _, ?_⟩ | fail)
  all_goals try (conv => whnf)
  all_goals try simp only [decide_eq_true_eq, decide_eq_false_iff_not, beq_iff_eq, beq_eq_false_iff_ne, Bool.not_eq_true', Bool.not_eq_false', Int.not_lt, Int.not_le, ge_iff_le, gt_iff_lt, ne_eq, bne_iff_ne, bne_eq_false_iff_eq, Sl.take_list, List.length_cons, reduceCtorEq] at *
  all_goals try first
    | (refine ⟨congrArg (fun x => FR.ret (.bool x)) ?_, rfl⟩; rw [sameL_len (by omega)]; done)
  have hl : t.list.length = s.list.length := by omega
  refine loopP_inv (fun j fr H' df => ∃ (i : Int), fr = [(0, s.av M.row), (1, t.av M.row), (12, .int .i64 (s.list.length : Nat)), (13, .int .i64 i)] ∧ H' = H ∧ df = [] ∧ i = (j : Int) ∧ sameL sameM s.list t.list = sameL sameM (s.list.drop j) (t.list.drop j)) s.list.length ?_ s.list.length (Nat.zero_add _) ⟨_, rfl, rfl, rfl, rfl, rfl⟩ (by omega)
  rintro j hj fr H' df ⟨i, rfl, rfl, rfl, rfl, hall⟩ kn hk
  try simp only [codeP, opsP, drawP]
  repeat' (conv => whnf
           first | refine ⟨_, eqM _ _, ?_⟩ | refine ⟨_, rfl, ?_⟩ | refine Br.mk (fun _ => ?_) (fun _ => ?_) | refine ⟨_, _, .inl ⟨rfl, ?_⟩⟩ | refine ⟨_, iadI (f := M.row) (fun _ => rfl) rfl rfl (by have := lt_of ‹decide ((j : Int) < _) = true›; omega), ?_⟩ | fail)
  all_goals try (conv => whnf)
  all_goals first | (have hlt := lt_of ‹decide ((j : Int) < _) = true›) | (have hge := ge_of ‹decide ((j : Int) < _) = false›) | skip
  all_goals try simp only [Bool.not_eq_true', Bool.not_eq_false'] at *
  all_goals first
    | exact hk hlt _ _ _ ⟨_, rfl, rfl, rfl, w1 (by omega), sameL_go hlt (by omega) hall (by assumption)⟩
    | (refine ⟨congrArg (fun x => FR.ret (.bool x)) ?_, rfl⟩; exact (sameL_bad hlt (by omega) hall (by assumption)).symm)
    | (refine ⟨congrArg (fun x => FR.ret (.bool x)) ?_, rfl⟩; exact (sameL_end hge (by omega) hall).symm)
set_option maxHeartbeats 4000000 in
set_option maxRecDepth 100000 in
theorem c40 {n : Nat} (hn : 200 ≤ n) (s t : Sl A) (hlen : s.list.length ≤ 100) (H : AHeap) : evalFn S n (.fn 40 []) [s.av A.row, t.av A.row] H = some (.ret (.bool (sameL sameA s.list t.list)), H) := by
  obtain ⟨n, rfl⟩ : ∃ m, n = m + 1 := ⟨n - 1, by omega⟩
  refine fn_ret (S := S) (sf := sf40) rfl (S_fn rfl) rfl ?_
  simp only [sf40, codeP, opsP, drawP]
  repeat' (conv => whnf
           first | refine ⟨_, rfl, ?_⟩ | refine Br.mk (fun _ => ?_) (fun _ => ?_) | refine ⟨_, _, .inl ⟨rfl, ?_⟩⟩ | refine ⟨_, alenSl_av _ _, ?_⟩ | fail)
  all_goals try (conv => whnf)
  all_goals try simp only [decide_eq_true_eq, decide_eq_false_iff_not, beq_iff_eq, beq_eq_false_iff_ne, Bool.not_eq_true', Bool.not_eq_false', Int.not_lt, Int.not_le, ge_iff_le, gt_iff_lt, ne_eq, bne_iff_ne, bne_eq_false_iff_eq, Sl.take_list, List.length_cons, reduceCtorEq] at *
  all_goals try first
    | (refine ⟨congrArg (fun x => FR.ret (.bool x)) ?_, rfl⟩; rw [sameL_len (by omega)]; done)
  have hl : t.list.length = s.list.length := by omega
  refine loopP_inv (fun j fr H' df => ∃ (i : Int), fr = [(0, s.av A.row), (1, t.av A.row), (12, .int .i64 (s.list.length : Nat)), (13, .int .i64 i)] ∧ H' = H ∧ df = [] ∧ i = (j : Int) ∧ sameL sameA s.list t.list = sameL sameA (s.list.drop j) (t.list.drop j)) s.list.length ?_ s.list.length (Nat.zero_add _) ⟨_, rfl, rfl, rfl, rfl, rfl⟩ (by omega)
  rintro j hj fr H' df ⟨i, rfl, rfl, rfl, rfl, hall⟩ kn hk
  try simp only [codeP, opsP, drawP]
  repeat' (conv => whnf
           first | refine ⟨_, eqA _ _, ?_⟩ | refine ⟨_, rfl, ?_⟩ | refine Br.mk (fun _ => ?_) (fun _ => ?_) | refine ⟨_, _, .inl ⟨rfl, ?_⟩⟩ | refine ⟨_, iadI (f := A.row) (fun _ => rfl) rfl rfl (by have := lt_of ‹decide ((j : Int) < _) = true›; omega), ?_⟩ | fail)
  all_goals try (conv => whnf)
  all_goals first | (have hlt := lt_of ‹decide ((j : Int) < _) = true›) | (have hge := ge_of ‹decide ((j : Int) < _) = false›) | skip
  all_goals try simp only [Bool.not_eq_true', Bool.not_eq_false'] at *
  all_goals first
    | exact hk hlt _ _ _ ⟨_, rfl, rfl, rfl, w1 (by omega), sameL_go hlt (by omega) hall (by assumption)⟩
    | (refine ⟨congrArg (fun x => FR.ret (.bool x)) ?_, rfl⟩; exact (sameL_bad hlt (by omega) hall (by assumption)).symm)
    | (refine ⟨congrArg (fun x => FR.ret (.bool x)) ?_, rfl⟩; exact (sameL_end hge (by omega) hall).symm)
set_option maxHeartbeats 8000000 in
set_option maxRecDepth 100000 in
theorem c36 {n : Nat} (hn : 210 ≤ n) (a b : Q) (hlen : a.gs.list.length ≤ 100) (H : AHeap) : evalFn S n (.fn 36 []) [.agg a.row, .agg b.row] H = some (.ret (.bool (sameQ a b)), H) := by
  obtain ⟨n, rfl⟩ : ∃ m, n = m + 1 := ⟨n - 1, by omega⟩
  refine fn_ret (S := S) (sf := sf36) rfl (S_fn rfl) rfl ?_
  simp only [sf36, codeP, opsP, drawP]
  repeat' (conv => whnf
           first | refine ⟨_, eqSpan _ _, ?_⟩ | refine ⟨_, rfl, ?_⟩ | refine Br.mk (fun _ => ?_) (fun _ => ?_) | refine ⟨_, _, .inl ⟨rfl, ?_⟩⟩ | refine ⟨_, _, ⟨rfl, c37 (by omega) _ _ hlen _⟩, ?_⟩ | fail)
  all_goals try (conv => whnf)
  all_goals exact ⟨by simp [packR, sameQ, *], rfl⟩
end Go.AM.Wc
set_option linter.unusedVariables false
set_option linter.unusedSimpArgs false
namespace Go.AM.Wc
open Go Go.AM
structure P.small (p : P) : Prop where
  q : p.qs.list.length ≤ 100
  m : p.ms.list.length ≤ 100
  a : p.as.list.length ≤ 100
  g : ∀ (i : Nat) (h : i < p.qs.list.length), (p.qs.list[i]).gs.list.length ≤ 100
set_option maxHeartbeats 8000000 in
set_option maxRecDepth 100000 in
theorem c38 {n : Nat} (hn : 220 ≤ n) (s t : Sl Q) (hlen : s.list.length ≤ 100) (hg : ∀ (i : Nat) (h : i < s.list.length), (s.list[i]).gs.list.length ≤ 100) (k : Nat) : evalFn S n (.fn 38 []) [s.av Q.row, t.av Q.row, .fn 36 []] ⟨k, []⟩ = some (.ret (.bool (sameL sameQ s.list t.list)), ⟨k, []⟩) := by
  obtain ⟨n, rfl⟩ : ∃ m, n = m + 1 := ⟨n - 1, by omega⟩
  refine fn_ret (S := S) (sf := sf38) rfl (S_fn rfl) rfl ?_
  simp only [sf38, codeP, opsP, drawP]
  repeat' (conv => whnf
           first | refine ⟨_, rfl, ?_⟩ | refine Br.mk (fun _ => ?_) (fun _ => ?_) | refine ⟨_, _, .inl ⟨rfl, ?_⟩⟩ | refine ⟨_, alenSl_av _ _, ?_⟩ | fail)
  all_goals try (conv => whnf)
  all_goals try simp only [decide_eq_true_eq, decide_eq_false_iff_not, beq_iff_eq, beq_eq_false_iff_ne, Bool.not_eq_true', Bool.not_eq_false', Int.not_lt, Int.not_le, ge_iff_le, gt_iff_lt, ne_eq, bne_iff_ne, bne_eq_false_iff_eq, Sl.take_list, List.length_cons, reduceCtorEq] at *
  all_goals try first
    | (refine ⟨congrArg (fun x => FR.ret (.bool x)) ?_, rfl⟩; rw [sameL_len (by omega)]; done)
  have hl : t.list.length = s.list.length := by omega
  refine loopP_inv (fun j fr H' df => ∃ (i : Int) (k' : Nat), fr = [(1, t.av Q.row), (2, .fn 36 []), (15, s.av Q.row), (16, .int .i64 (s.list.length : Nat)), (17, .int .i64 i)] ∧ H' = ⟨k', []⟩ ∧ df = [] ∧ i = (j : Int) ∧ sameL sameQ s.list t.list = sameL sameQ (s.list.drop j) (t.list.drop j)) s.list.length ?_ s.list.length (Nat.zero_add _) ⟨_, _, rfl, rfl, rfl, rfl, rfl⟩ (by omega)
  rintro j hj fr H' df ⟨i, k', rfl, rfl, rfl, rfl, hall⟩ kn hk
  try simp only [codeP, opsP, drawP]
  repeat' (conv => whnf
           first | refine ⟨_, _, .inr ⟨st_ok (fresh_nil _) rfl rfl rfl rfl (cellQ _), rfl, ?_⟩⟩ | refine ⟨_, _, frz_ok (fresh_nil _) rfl, ?_⟩ | refine ⟨_, rfl, ?_⟩ | refine Br.mk (fun _ => ?_) (fun _ => ?_) | refine ⟨_, _, .inl ⟨rfl, ?_⟩⟩ | refine ⟨_, iad_av (f := Q.row) (m := 7) (fun _ => rfl) _ _ _ (by have := lt_of ‹decide ((j : Int) < _) = true›; omega), ?_⟩ | refine ⟨_, _, ⟨rfl, c36 (by omega) _ _ (hg j (lt_of ‹_›)) _⟩, ?_⟩ | fail)
  all_goals try (conv => whnf)
  all_goals first | (have hlt := lt_of ‹decide ((j : Int) < _) = true›) | (have hge := ge_of ‹decide ((j : Int) < _) = false›) | skip
  all_goals first
    | exact hk hlt _ _ _ ⟨_, _, rfl, rfl, rfl, w1 (by omega), sameL_go hlt (by omega) hall (by assumption)⟩
    | (refine ⟨congrArg (fun x => FR.ret (.bool x)) ?_, rfl⟩; exact (sameL_bad hlt (by omega) hall (by assumption)).symm)
    | (refine ⟨congrArg (fun x => FR.ret (.bool x)) ?_, rfl⟩; exact (sameL_end hge (by omega) hall).symm)
def sameP (p o : P) : Bool := sameL sameQ p.qs.list o.qs.list && (sameL sameM p.ms.list o.ms.list && sameL sameA p.as.list o.as.list)
set_option maxHeartbeats 8000000 in
set_option maxRecDepth 100000 in
theorem c10 {n : Nat} (hn : 230 ≤ n) (p o : P) (hp : p.small) (k : Nat) : evalFn S n (.fn 10 []) [.agg p.row, .agg o.row] ⟨k, []⟩ = some (.ret (.bool (sameP p o)), ⟨k, []⟩) := by
  obtain ⟨n, rfl⟩ : ∃ m, n = m + 1 := ⟨n - 1, by omega⟩
  refine fn_ret (S := S) (sf := sf10) rfl (S_fn rfl) rfl ?_
  simp only [sf10, codeP, opsP, drawP]
  repeat' (conv => whnf
           first | refine ⟨_, rfl, ?_⟩ | refine Br.mk (fun _ => ?_) (fun _ => ?_) | refine ⟨_, _, .inl ⟨rfl, ?_⟩⟩ | refine ⟨_, _, ⟨rfl, c38 (by omega) _ _ hp.q hp.g _⟩, ?_⟩ | refine ⟨_, _, ⟨rfl, c39 (by omega) _ _ hp.m _⟩, ?_⟩ | refine ⟨_, _, ⟨rfl, c40 (by omega) _ _ hp.a _⟩, ?_⟩ | fail)
  all_goals try (conv => whnf)
  all_goals exact ⟨by simp [packR, sameP, *], rfl⟩
set_option maxHeartbeats 8000000 in
set_option maxRecDepth 100000 in
theorem c41 {n : Nat} (hn : 200 ≤ n) (a b : Q) (hlen : a.gs.list.length ≤ 100) (H : AHeap) : evalFn S n (.fn 41 []) [.agg a.row, .agg b.row] H = some (.ret (.bool (sameQ a b)), H) := by
  obtain ⟨n, rfl⟩ : ∃ m, n = m + 1 := ⟨n - 1, by omega⟩
  refine fn_ret (S := S) (sf := sf41) rfl (S_fn rfl) rfl ?_
  simp only [sf41, codeP, opsP, drawP]
  repeat' (conv => whnf
           first | refine ⟨_, neSpan _ _, ?_⟩ | refine ⟨_, rfl, ?_⟩ | refine Br.mk (fun _ => ?_) (fun _ => ?_) | refine ⟨_, _, .inl ⟨rfl, ?_⟩⟩ | refine ⟨_, alenSl_av _ _, ?_⟩ | fail)
  all_goals try (conv => whnf)
  all_goals try simp only [Bool.not_eq_true', Bool.not_eq_false', bne_eq_false_iff_eq, bne_iff_ne, ne_eq] at *
  all_goals try first
    | (refine ⟨congrArg (fun x => FR.ret (.bool x)) ?_, rfl⟩; rw [sameQ, sameL_len (by omega)]; simp; done)
    | (refine ⟨congrArg (fun x => FR.ret (.bool x)) ?_, rfl⟩; simp [sameQ, *]; done)
    | (refine ⟨congrArg (fun x => FR.ret (.bool x)) ?_, rfl⟩; simp_all [sameQ]; done)
  have hl : b.gs.list.length = a.gs.list.length := by omega
  have hs : sameQ a b = sameL sameG a.gs.list b.gs.list := by simp_all [sameQ]
  refine loopP_inv (fun j fr H' df => ∃ (i : Int), fr = [(2, .imm a.row 0), (3, .imm b.row 0), (5, .int .i64 i)] ∧ H' = H ∧ df = [] ∧ i = (j : Int) ∧ sameL sameG a.gs.list b.gs.list = sameL sameG (a.gs.list.drop j) (b.gs.list.drop j)) a.gs.list.length ?_ a.gs.list.length (Nat.zero_add _) ⟨_, rfl, rfl, rfl, rfl, rfl⟩ (by omega)
  rintro j hj fr H' df ⟨i, rfl, rfl, rfl, rfl, hall⟩ kn hk
  try simp only [codeP, opsP, drawP]
  repeat' (conv => whnf
           first | refine ⟨_, eqG _ _, ?_⟩ | refine ⟨_, rfl, ?_⟩ | refine Br.mk (fun _ => ?_) (fun _ => ?_) | refine ⟨_, _, .inl ⟨rfl, ?_⟩⟩ | refine ⟨_, alenSl_av _ _, ?_⟩ | refine ⟨_, iadI (f := G.row) (fun _ => rfl) rfl rfl (by have := lt_of ‹decide ((j : Int) < _) = true›; omega), ?_⟩ | fail)
  all_goals try (conv => whnf)
  all_goals first | (have hlt := lt_of ‹decide ((j : Int) < _) = true›) | (have hge := ge_of ‹decide ((j : Int) < _) = false›) | skip
  all_goals try simp only [Bool.not_eq_true', Bool.not_eq_false'] at *
  all_goals first
    | exact hk hlt _ _ _ ⟨_, rfl, rfl, rfl, w1 (by omega), sameL_go hlt (by omega) hall (by assumption)⟩
    | (refine ⟨congrArg (fun x => FR.ret (.bool x)) ?_, rfl⟩; rw [hs]; exact (sameL_bad hlt (by omega) hall (by assumption)).symm)
    | (refine ⟨congrArg (fun x => FR.ret (.bool x)) ?_, rfl⟩; rw [hs]; exact (sameL_end hge (by omega) hall).symm)
end Go.AM.Wc
