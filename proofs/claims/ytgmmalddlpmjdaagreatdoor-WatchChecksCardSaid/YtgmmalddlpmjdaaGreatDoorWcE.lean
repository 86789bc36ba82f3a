/- watch: the errors of quantities, measures, alarms. The specification's numbers and names. -/
import Derived.Test.YtgmmalddlpmjdaaGreatDoorWcC
set_option linter.unusedVariables false
set_option linter.unusedSimpArgs false
namespace Go.AM.Wc
open Go Go.AM
/-- The first error of a list, each element judged by those ahead of it. -/
def errL {α : Type} (e : List α → α → Int) : List α → List α → Int
  | _, [] => 0
  | seen, x :: r => if e seen x = 0 then errL e (seen ++ [x]) r else e seen x
theorem errL_step {α : Type} {e : List α → α → Int} {l : List α} {j : Nat} (h : j < l.length) : errL e (l.take j) (l.drop j) = if e (l.take j) l[j] = 0 then errL e (l.take (j + 1)) (l.drop (j + 1)) else e (l.take j) l[j] := by
  rw [List.drop_eq_getElem_cons h, errL, List.take_add_one, List.getElem?_eq_getElem h]
  rfl
theorem errL_go {α : Type} {e : List α → α → Int} {l : List α} {j : Nat} (h : j < l.length) (k : errL e [] l = errL e (l.take j) (l.drop j)) (he : e (l.take j) l[j] = 0) : errL e [] l = errL e (l.take (j + 1)) (l.drop (j + 1)) := by
  rw [k, errL_step h, if_pos he]
theorem errL_bad {α : Type} {e : List α → α → Int} {l : List α} {j : Nat} {c : Int} (h : j < l.length) (k : errL e [] l = errL e (l.take j) (l.drop j)) (he : e (l.take j) l[j] = c) (hc : c ≠ 0) : errL e [] l = c := by
  rw [k, errL_step h, if_neg (by rw [he]; exact hc), he]
theorem errL_end {α : Type} {e : List α → α → Int} {l : List α} {j : Nat} (h : l.length ≤ j) (k : errL e [] l = errL e (l.take j) (l.drop j)) : errL e [] l = 0 := by
  rw [k, List.drop_of_length_le h, errL]
def gE (seen : List G) (g : G) : Int := if nameOK g.name = false then 5 else if seen.any (fun x => x.name == g.name) = true then 6 else gaugeE g
def qNums (q : Q) : Int := if (within q.lo (-1000000000) 1000000000 && within q.hi (-1000000000) 1000000000 && decide (q.lo ≤ q.hi)) = false then 1 else if (within q.rise 0 10000 && within q.fall 0 10000) = false then 1 else if q.gs.list.length > 8 then 3 else if within q.bad 0 q.gs.list.length = false then 1 else 0
def qSelf (q : Q) : Int := if qNums q = 0 then errL gE [] q.gs.list else qNums q
set_option maxHeartbeats 4000000 in
set_option maxRecDepth 100000 in
theorem c60 {n : Nat} (hn : 300 ≤ n) (q : Q) (k : Nat) : evalFn S n (.fn 60 []) [.agg q.row] ⟨k, []⟩ = some (.ret (.int .i64 (qSelf q)), ⟨k, []⟩) := by
  obtain ⟨n, rfl⟩ : ∃ m, n = m + 1 := ⟨n - 1, by omega⟩
  refine fn_ret (S := S) (sf := sf60) rfl (S_fn rfl) rfl ?_
  simp only [sf60, codeP, opsP, drawP]
  repeat' (conv => whnf
           first | refine ⟨_, rfl, ?_⟩ | refine Br.mk (fun _ => ?_) (fun _ => ?_) | refine ⟨_, _, .inl ⟨rfl, ?_⟩⟩ | refine ⟨_, alenSl_av _ _, ?_⟩ | refine ⟨_, _, ⟨rfl, c29 (by omega) _ _⟩, ?_⟩ | refine ⟨_, _, ⟨rfl, c28 (by omega) _ _ _ _⟩, ?_⟩ | fail)
  all_goals try (conv => whnf)
  all_goals try simp only [decide_eq_true_eq, decide_eq_false_iff_not, beq_iff_eq, beq_eq_false_iff_ne, Bool.not_eq_true', Bool.not_eq_false', Int.not_lt, Int.not_le, ge_iff_le, gt_iff_lt, ne_eq, bne_iff_ne, bne_eq_false_iff_eq, Sl.take_list, List.length_cons, reduceCtorEq] at *
  all_goals try first
    | exact ⟨by simp [packR, qSelf, qNums, *]; omega, rfl⟩
    | exact ⟨by simp [packR, qSelf, qNums, *], rfl⟩
  have hq : qNums q = 0 := by simp [qNums, *]; omega
  have hs : qSelf q = errL gE [] q.gs.list := by simp [qSelf, hq]
  refine loopP_inv (fun j fr H' df => ∃ (i : Int) (k' : Nat), fr = [(1, .imm q.row 0), (53, q.gs.av G.row), (54, .int .i64 (q.gs.list.length : Nat)), (55, .int .i64 i)] ∧ H' = ⟨k', []⟩ ∧ df = [] ∧ i = (j : Int) ∧ errL gE [] q.gs.list = errL gE (q.gs.list.take j) (q.gs.list.drop j)) q.gs.list.length ?_ q.gs.list.length (Nat.zero_add _) ⟨_, _, rfl, rfl, rfl, rfl, rfl⟩ (by omega)
  rintro j hj fr H' df ⟨i, k', rfl, rfl, rfl, rfl, hall⟩ kn hk
  try simp only [codeP, opsP, drawP]
  repeat' (conv => whnf
           first | refine ⟨_, _, .inr ⟨st_ok (fresh_nil _) rfl rfl rfl rfl rfl, rfl, ?_⟩⟩ | refine ⟨_, _, frz_ok (fresh_nil _) rfl, ?_⟩ | refine ⟨_, _, .inl ⟨slcS (f := G.row) (j := j) rfl rfl (fun _ => rfl) hj, ?_⟩⟩ | refine ⟨_, rfl, ?_⟩ | refine Br.mk (fun _ => ?_) (fun _ => ?_) | refine ⟨_, _, .inl ⟨rfl, ?_⟩⟩ | refine ⟨_, alenSl_av _ _, ?_⟩ | refine ⟨_, iad_av (f := G.row) (m := 4) (fun _ => rfl) _ _ _ (lt_of ‹_›), ?_⟩ | refine ⟨_, _, ⟨rfl, c57 (by omega) _ _⟩, ?_⟩ | refine ⟨_, _, ⟨rfl, c83 (by omega) _ _ _ _ _ (by simp; omega) (fun m hm x => c84 hm _ _ _)⟩, ?_⟩ | refine ⟨_, _, ⟨rfl, c42 (by omega) _ _⟩, ?_⟩ | fail)
  all_goals try (conv => whnf)
  all_goals first | (have hlt := lt_of ‹decide ((j : Int) < _) = true›) | (have hge := ge_of ‹decide ((j : Int) < _) = false›) | skip
  all_goals try simp only [decide_eq_true_eq, decide_eq_false_iff_not, beq_iff_eq, beq_eq_false_iff_ne, Bool.not_eq_true', Bool.not_eq_false', Int.not_lt, Int.not_le, ge_iff_le, gt_iff_lt, ne_eq, bne_iff_ne, bne_eq_false_iff_eq, Sl.take_list, List.length_cons, reduceCtorEq] at *
  all_goals first
    | exact hk hlt _ _ _ ⟨_, _, rfl, rfl, rfl, w1 (by omega), errL_go hlt hall (by simp [gE, *])⟩
    | exact ⟨by rw [hs, errL_end hge hall]; rfl, rfl⟩
    | (refine ⟨congrArg (fun x => FR.ret (.int .i64 x)) ?_, rfl⟩; rw [hs]; refine (errL_bad hlt hall ?_ ?_).symm <;> simp [gE, *]; done)
theorem cellQ (q : Q) : q.row.all AV.cell = true := by cases h : q.gs <;> simp [h, Sl.av, AV.cell]
def qE (seen : List Q) (q : Q) : Int := if nameOK q.name = false then 5 else if seen.any (fun x => x.name == q.name) = true then 6 else qSelf q
def qsE (l : List Q) : Int := if l.length > 16 then 3 else errL qE [] l
set_option maxHeartbeats 4000000 in
set_option maxRecDepth 100000 in
theorem c26 {n : Nat} (hn : 310 ≤ n) (s : Sl Q) (k : Nat) : evalFn S n (.fn 26 []) [s.av Q.row] ⟨k, []⟩ = some (.ret (.int .i64 (qsE s.list)), ⟨k, []⟩) := by
  obtain ⟨n, rfl⟩ : ∃ m, n = m + 1 := ⟨n - 1, by omega⟩
  refine fn_ret (S := S) (sf := sf26) rfl (S_fn rfl) rfl ?_
  simp only [sf26, codeP, opsP, drawP]
  repeat' (conv => whnf
           first | refine ⟨_, rfl, ?_⟩ | refine Br.mk (fun _ => ?_) (fun _ => ?_) | refine ⟨_, _, .inl ⟨rfl, ?_⟩⟩ | refine ⟨_, alenSl_av _ _, ?_⟩ | fail)
  all_goals try (conv => whnf)
  all_goals try simp only [decide_eq_true_eq, decide_eq_false_iff_not, beq_iff_eq, beq_eq_false_iff_ne, Bool.not_eq_true', Bool.not_eq_false', Int.not_lt, Int.not_le, ge_iff_le, gt_iff_lt, ne_eq, bne_iff_ne, bne_eq_false_iff_eq, Sl.take_list, List.length_cons, reduceCtorEq] at *
  all_goals try first
    | exact ⟨by simp [packR, qsE, *]; omega, rfl⟩
  have hlen : s.list.length ≤ 16 := by omega
  have hs : qsE s.list = errL qE [] s.list := by rw [qsE, if_neg (by omega)]
  refine loopP_inv (fun j fr H' df => ∃ (i : Int) (k' : Nat), fr = [(0, s.av Q.row), (9, s.av Q.row), (10, .int .i64 (s.list.length : Nat)), (11, .int .i64 i)] ∧ H' = ⟨k', []⟩ ∧ df = [] ∧ i = (j : Int) ∧ errL qE [] s.list = errL qE (s.list.take j) (s.list.drop j)) s.list.length ?_ s.list.length (Nat.zero_add _) ⟨_, _, rfl, rfl, rfl, rfl, rfl⟩ (by omega)
  rintro j hj fr H' df ⟨i, k', rfl, rfl, rfl, rfl, hall⟩ kn hk
  try simp only [codeP, opsP, drawP]
  repeat' (conv => whnf
           first | refine ⟨_, _, .inr ⟨st_ok (fresh_nil _) rfl rfl rfl rfl (cellQ _), rfl, ?_⟩⟩ | refine ⟨_, _, frz_ok (fresh_nil _) rfl, ?_⟩ | refine ⟨_, _, .inl ⟨slcS (f := Q.row) (j := j) rfl rfl (fun _ => rfl) hj, ?_⟩⟩ | refine ⟨_, rfl, ?_⟩ | refine Br.mk (fun _ => ?_) (fun _ => ?_) | refine ⟨_, _, .inl ⟨rfl, ?_⟩⟩ | refine ⟨_, alenSl_av _ _, ?_⟩ | refine ⟨_, iad_av (f := Q.row) (m := 7) (fun _ => rfl) _ _ _ (lt_of ‹_›), ?_⟩ | refine ⟨_, _, ⟨rfl, c57 (by omega) _ _⟩, ?_⟩ | refine ⟨_, _, ⟨rfl, c58 (by omega) _ _ _ _ _ (by simp; omega) (fun m hm x => c59 hm _ _ _)⟩, ?_⟩ | refine ⟨_, _, ⟨rfl, c60 (by omega) _ _⟩, ?_⟩ | fail)
  all_goals try (conv => whnf)
  all_goals first | (have hlt := lt_of ‹decide ((j : Int) < _) = true›) | (have hge := ge_of ‹decide ((j : Int) < _) = false›) | skip
  all_goals try simp only [decide_eq_true_eq, decide_eq_false_iff_not, beq_iff_eq, beq_eq_false_iff_ne, Bool.not_eq_true', Bool.not_eq_false', Int.not_lt, Int.not_le, ge_iff_le, gt_iff_lt, ne_eq, bne_iff_ne, bne_eq_false_iff_eq, Sl.take_list, List.length_cons, reduceCtorEq] at *
  all_goals first
    | exact hk hlt _ _ _ ⟨_, _, rfl, rfl, rfl, w1 (by omega), errL_go hlt hall (by simp [qE, *])⟩
    | exact ⟨by rw [hs, errL_end hge hall]; rfl, rfl⟩
    | (refine ⟨congrArg (fun x => FR.ret (.int .i64 x)) ?_, rfl⟩; rw [hs]; refine (errL_bad hlt hall ?_ ?_).symm <;> simp [qE, *]; done)
def mE (seen : List M) (m : M) : Int := if (nameOK m.name && nameOK m.crew) = false then 5 else if seen.any (fun x => x.name == m.name) = true then 6 else if (within m.rank 0 100000 && within m.lag 0 100000 && within m.takes 0 100000) = false then 1 else if seen.any (fun x => x.crew == m.crew && decide (x.rank = m.rank)) = true then 10 else 0
def msE (l : List M) : Int := if l.length > 16 then 3 else errL mE [] l
set_option maxHeartbeats 4000000 in
set_option maxRecDepth 100000 in
theorem c27 {n : Nat} (hn : 310 ≤ n) (s : Sl M) (k : Nat) : evalFn S n (.fn 27 []) [s.av M.row] ⟨k, []⟩ = some (.ret (.int .i64 (msE s.list)), ⟨k, []⟩) := by
  obtain ⟨n, rfl⟩ : ∃ m, n = m + 1 := ⟨n - 1, by omega⟩
  refine fn_ret (S := S) (sf := sf27) rfl (S_fn rfl) rfl ?_
  simp only [sf27, codeP, opsP, drawP]
  repeat' (conv => whnf
           first | refine ⟨_, rfl, ?_⟩ | refine Br.mk (fun _ => ?_) (fun _ => ?_) | refine ⟨_, _, .inl ⟨rfl, ?_⟩⟩ | refine ⟨_, alenSl_av _ _, ?_⟩ | fail)
  all_goals try (conv => whnf)
  all_goals try simp only [decide_eq_true_eq, decide_eq_false_iff_not, beq_iff_eq, beq_eq_false_iff_ne, Bool.not_eq_true', Bool.not_eq_false', Int.not_lt, Int.not_le, ge_iff_le, gt_iff_lt, ne_eq, bne_iff_ne, bne_eq_false_iff_eq, Sl.take_list, List.length_cons, reduceCtorEq] at *
  all_goals try first
    | exact ⟨by simp [packR, msE, *]; omega, rfl⟩
  have hlen : s.list.length ≤ 16 := by omega
  have hs : msE s.list = errL mE [] s.list := by rw [msE, if_neg (by omega)]
  refine loopP_inv (fun j fr H' df => ∃ (i : Int) (k' : Nat), fr = [(0, s.av M.row), (8, s.av M.row), (9, .int .i64 (s.list.length : Nat)), (10, .int .i64 i)] ∧ H' = ⟨k', []⟩ ∧ df = [] ∧ i = (j : Int) ∧ errL mE [] s.list = errL mE (s.list.take j) (s.list.drop j)) s.list.length ?_ s.list.length (Nat.zero_add _) ⟨_, _, rfl, rfl, rfl, rfl, rfl⟩ (by omega)
  rintro j hj fr H' df ⟨i, k', rfl, rfl, rfl, rfl, hall⟩ kn hk
  try simp only [codeP, opsP, drawP]
  repeat' (conv => whnf
           first | refine ⟨_, _, .inr ⟨st_ok (fresh_nil _) rfl rfl rfl rfl rfl, rfl, ?_⟩⟩ | refine ⟨_, _, frz_ok (fresh_nil _) rfl, ?_⟩ | refine ⟨_, _, .inl ⟨slcS (f := M.row) (j := j) rfl rfl (fun _ => rfl) hj, ?_⟩⟩ | refine ⟨_, rfl, ?_⟩ | refine Br.mk (fun _ => ?_) (fun _ => ?_) | refine ⟨_, _, .inl ⟨rfl, ?_⟩⟩ | refine ⟨_, alenSl_av _ _, ?_⟩ | refine ⟨_, iad_av (f := M.row) (m := 5) (fun _ => rfl) _ _ _ (lt_of ‹_›), ?_⟩ | refine ⟨_, _, ⟨rfl, c57 (by omega) _ _⟩, ?_⟩ | refine ⟨_, _, ⟨rfl, c61 (by omega) _ 62 _ _ _ (by simp; omega) (fun m hm x => c62 hm _ _ _)⟩, ?_⟩ | refine ⟨_, _, ⟨rfl, c61 (by omega) _ 63 _ _ _ (by simp; omega) (fun m hm x => c63 hm _ _ _)⟩, ?_⟩ | refine ⟨_, _, ⟨rfl, c43 (by omega) _ _⟩, ?_⟩ | fail)
  all_goals try (conv => whnf)
  all_goals first | (have hlt := lt_of ‹decide ((j : Int) < _) = true›) | (have hge := ge_of ‹decide ((j : Int) < _) = false›) | skip
  all_goals try simp only [decide_eq_true_eq, decide_eq_false_iff_not, beq_iff_eq, beq_eq_false_iff_ne, Bool.not_eq_true', Bool.not_eq_false', Int.not_lt, Int.not_le, ge_iff_le, gt_iff_lt, ne_eq, bne_iff_ne, bne_eq_false_iff_eq, Sl.take_list, List.length_cons, reduceCtorEq] at *
  all_goals first
    | exact hk hlt _ _ _ ⟨_, _, rfl, rfl, rfl, w1 (by omega), errL_go hlt hall (by simp [mE, *])⟩
    | exact ⟨by rw [hs, errL_end hge hall]; rfl, rfl⟩
    | (refine ⟨congrArg (fun x => FR.ret (.int .i64 x)) ?_, rfl⟩; rw [hs]; refine (errL_bad hlt hall ?_ ?_).symm <;> simp [mE, *]; done)
def aE (nq nm : Nat) (seen : List A) (a : A) : Int := if (within a.qu 0 ((nq : Int) - 1) && within a.ms 0 ((nm : Int) - 1)) = false then 7 else if (within a.lev (-1000000000) 1000000000 && within a.lim (-1000000000) 1000000000) = false then 1 else if seen.any (fun x => decide (x.ms = a.ms)) = true then 6 else 0
def asE (nq nm : Nat) (l : List A) : Int := if l.length > 16 then 3 else errL (aE nq nm) [] l
def planE (p : P) : Int := if qsE p.qs.list = 0 then (if msE p.ms.list = 0 then asE p.qs.list.length p.ms.list.length p.as.list else msE p.ms.list) else qsE p.qs.list
theorem qs_len {l : List Q} (h : qsE l = 0) : l.length ≤ 16 := by
  unfold qsE at h
  split at h
  · cases h
  · omega
theorem ms_len {l : List M} (h : msE l = 0) : l.length ≤ 16 := by
  unfold msE at h
  split at h
  · cases h
  · omega
set_option maxHeartbeats 4000000 in
set_option maxRecDepth 100000 in
theorem c8 {n : Nat} (hn : 320 ≤ n) (p : P) (k : Nat) : evalFn S n (.fn 8 []) [.agg p.row] ⟨k, []⟩ = some (.ret (.int .i64 (planE p)), ⟨k, []⟩) := by
  obtain ⟨n, rfl⟩ : ∃ m, n = m + 1 := ⟨n - 1, by omega⟩
  refine fn_ret (S := S) (sf := sf8) rfl (S_fn rfl) rfl ?_
  simp only [sf8, codeP, opsP, drawP]
  repeat' (conv => whnf
           first | refine ⟨_, rfl, ?_⟩ | refine Br.mk (fun _ => ?_) (fun _ => ?_) | refine ⟨_, _, .inl ⟨rfl, ?_⟩⟩ | refine ⟨_, alenSl_av _ _, ?_⟩ | refine ⟨_, _, ⟨rfl, c26 (by omega) _ _⟩, ?_⟩ | refine ⟨_, _, ⟨rfl, c27 (by omega) _ _⟩, ?_⟩ | fail)
  all_goals try (conv => whnf)
  all_goals try simp only [decide_eq_true_eq, decide_eq_false_iff_not, beq_iff_eq, beq_eq_false_iff_ne, Bool.not_eq_true', Bool.not_eq_false', Int.not_lt, Int.not_le, ge_iff_le, gt_iff_lt, ne_eq, bne_iff_ne, bne_eq_false_iff_eq, Sl.take_list, List.length_cons, reduceCtorEq] at *
  all_goals try first
    | exact ⟨by simp [packR, planE, asE, *]; omega, rfl⟩
    | exact ⟨by simp [packR, planE, asE, *], rfl⟩
  have hq : qsE p.qs.list = 0 := ‹_›
  have hm : msE p.ms.list = 0 := ‹_›
  have hql := qs_len hq
  have hml := ms_len hm
  have hlen : p.as.list.length ≤ 16 := by omega
  have hs : planE p = errL (aE p.qs.list.length p.ms.list.length) [] p.as.list := by rw [planE, if_pos hq, if_pos hm, asE, if_neg (by omega)]
  have wq : IntKind.wrap .i64 ((p.qs.list.length : Int) - 1) = (p.qs.list.length : Int) - 1 := IntWalk.i64_in _ (by omega)
  have wm : IntKind.wrap .i64 ((p.ms.list.length : Int) - 1) = (p.ms.list.length : Int) - 1 := IntWalk.i64_in _ (by omega)
  refine loopP_inv (fun j fr H' df => ∃ (i : Int) (k' : Nat), fr = [(1, .imm p.row 0), (24, p.as.av A.row), (25, .int .i64 (p.as.list.length : Nat)), (26, .int .i64 i)] ∧ H' = ⟨k', []⟩ ∧ df = [] ∧ i = (j : Int) ∧ errL (aE p.qs.list.length p.ms.list.length) [] p.as.list = errL (aE p.qs.list.length p.ms.list.length) (p.as.list.take j) (p.as.list.drop j)) p.as.list.length ?_ p.as.list.length (Nat.zero_add _) ⟨_, _, rfl, rfl, rfl, rfl, rfl⟩ (by omega)
  rintro j hj fr H' df ⟨i, k', rfl, rfl, rfl, rfl, hall⟩ kn hk
  try simp only [codeP, opsP, drawP]
  repeat' (conv => whnf
           first | refine ⟨_, _, .inr ⟨st_ok (fresh_nil _) rfl rfl rfl rfl rfl, rfl, ?_⟩⟩ | refine ⟨_, _, frz_ok (fresh_nil _) rfl, ?_⟩ | refine ⟨_, _, .inl ⟨slcS (f := A.row) (j := j) rfl rfl (fun _ => rfl) hj, ?_⟩⟩ | refine ⟨_, rfl, ?_⟩ | refine Br.mk (fun _ => ?_) (fun _ => ?_) | refine ⟨_, _, .inl ⟨rfl, ?_⟩⟩ | refine ⟨_, alenSl_av _ _, ?_⟩ | refine ⟨_, iad_av (f := A.row) (m := 4) (fun _ => rfl) _ _ _ (lt_of ‹_›), ?_⟩ | refine ⟨_, _, ⟨rfl, c30 (by omega) _ _ _ _ _ (by simp; omega) (fun m hm x => c31 hm _ _ _)⟩, ?_⟩ | refine ⟨_, _, ⟨rfl, c28 (by omega) _ _ _ _⟩, ?_⟩ | refine ⟨_, _, ⟨rfl, c29 (by omega) _ _⟩, ?_⟩ | fail)
  all_goals try (conv => whnf)
  all_goals first | (have hlt := lt_of ‹decide ((j : Int) < _) = true›) | (have hge := ge_of ‹decide ((j : Int) < _) = false›) | skip
  all_goals try simp only [decide_eq_true_eq, decide_eq_false_iff_not, beq_iff_eq, beq_eq_false_iff_ne, Bool.not_eq_true', Bool.not_eq_false', Int.not_lt, Int.not_le, ge_iff_le, gt_iff_lt, ne_eq, bne_iff_ne, bne_eq_false_iff_eq, Sl.take_list, List.length_cons, reduceCtorEq] at *
  all_goals first
    | exact hk hlt _ _ _ ⟨_, _, rfl, rfl, rfl, w1 (by omega), errL_go hlt hall (by simp_all [aE])⟩
    | exact ⟨by rw [hs, errL_end hge hall]; rfl, rfl⟩
    | (refine ⟨congrArg (fun x => FR.ret (.int .i64 x)) ?_, rfl⟩; rw [hs]; clear hk; refine (errL_bad hlt hall ?_ ?_).symm <;> simp_all [aE]; done)
end Go.AM.Wc
set_option linter.unusedVariables false
set_option linter.unusedSimpArgs false
namespace Go.AM.Wc
open Go Go.AM
theorem c65 {n : Nat} (hn : 1 ≤ n) (a : Int) (H : AHeap) : evalFn S n (.fn 65 []) [.int .i64 a] H = some (.ret (.bool (within a (-1000000000) 1000000000)), H) := by
  obtain ⟨n, rfl⟩ : ∃ m, n = m + 1 := ⟨n - 1, by omega⟩
  refine fn_ret (S := S) (sf := sf65) rfl (S_fn rfl) rfl ?_
  simp only [sf65, codeP, opsP, drawP]
  repeat' (conv => whnf
           first | refine ⟨_, rfl, ?_⟩ | refine Br.mk (fun _ => ?_) (fun _ => ?_) | refine ⟨_, _, .inl ⟨rfl, ?_⟩⟩ | fail)
  all_goals try (conv => whnf)
  all_goals try first | exact ⟨by simp_all [packR, within] <;> omega, rfl⟩ | (exfalso; simp_all; done) | (exfalso; simp_all; omega)
theorem c46 {n : Nat} (hn : 1 ≤ n) (a : Int) (H : AHeap) : evalFn S n (.fn 46 []) [.int .i64 a] H = some (.ret (.bool (within a 0 100000)), H) := by
  obtain ⟨n, rfl⟩ : ∃ m, n = m + 1 := ⟨n - 1, by omega⟩
  refine fn_ret (S := S) (sf := sf46) rfl (S_fn rfl) rfl ?_
  simp only [sf46, codeP, opsP, drawP]
  repeat' (conv => whnf
           first | refine ⟨_, rfl, ?_⟩ | refine Br.mk (fun _ => ?_) (fun _ => ?_) | refine ⟨_, _, .inl ⟨rfl, ?_⟩⟩ | fail)
  all_goals try (conv => whnf)
  all_goals try first | exact ⟨by simp_all [packR, within] <;> omega, rfl⟩ | (exfalso; simp_all; done) | (exfalso; simp_all; omega)
set_option maxHeartbeats 4000000 in
set_option maxRecDepth 100000 in
theorem c45 {n : Nat} (hn : 3 ≤ n) (g : G) (H : AHeap) : evalFn S n (.fn 45 []) [.agg g.row] H = some (.ret (.int .i64 (gaugeE g)), H) := by
  obtain ⟨n, rfl⟩ : ∃ m, n = m + 1 := ⟨n - 1, by omega⟩
  refine fn_ret (S := S) (sf := sf45) rfl (S_fn rfl) rfl ?_
  simp only [sf45, codeP, opsP, drawP]
  repeat' (conv => whnf
           first | refine ⟨_, rfl, ?_⟩ | refine Br.mk (fun _ => ?_) (fun _ => ?_) | refine ⟨_, _, .inl ⟨rfl, ?_⟩⟩ | refine ⟨_, _, ⟨rfl, c46 (by omega) _ _⟩, ?_⟩ | fail)
  all_goals try (conv => whnf)
  all_goals try simp only [decide_eq_true_eq, decide_eq_false_iff_not, beq_iff_eq, beq_eq_false_iff_ne, Bool.not_eq_true', Bool.not_eq_false', Int.not_lt, Int.not_le, ge_iff_le, gt_iff_lt, ne_eq, bne_iff_ne, bne_eq_false_iff_eq, Sl.take_list, List.length_cons, reduceCtorEq] at *
  all_goals (refine ⟨congrArg (fun x => FR.ret (.int .i64 x)) ?_, rfl⟩; cases h1 : within g.acc 0 1000000000 <;> cases h2 : within g.drift 0 1000000000 <;> cases h3 : within g.since 0 100000 <;> first
    | (simp [gaugeE, h1, h2, h3]; done)
    | (exfalso; simp only [within, Bool.and_eq_true, Bool.and_eq_false_iff, decide_eq_true_eq, decide_eq_false_iff_not, reduceCtorEq] at *; omega)
    | (exfalso; simp_all; done))
def worstS (g : G) (t : Int) : Int := w64 (g.acc + w64 (g.drift * w64 ((w64 ((if 0 > w64 (t - g.since) then 0 else w64 (t - g.since)) + 999)).tdiv 1000)))
theorem c47 {n : Nat} (hn : 1 ≤ n) (g : G) (t : Int) (H : AHeap) : evalFn S n (.fn 47 []) [.agg g.row, .int .i64 t] H = some (.ret (.int .i64 (worstS g t)), H) := by
  obtain ⟨n, rfl⟩ : ∃ m, n = m + 1 := ⟨n - 1, by omega⟩
  refine fn_ret (S := S) (sf := sf47) rfl (S_fn rfl) rfl ?_
  simp only [sf47, codeP, opsP, drawP]
  repeat' (conv => whnf
           first | refine ⟨_, rfl, ?_⟩ | refine Br.mk (fun _ => ?_) (fun _ => ?_) | refine ⟨_, _, .inl ⟨rfl, ?_⟩⟩ | fail)
  all_goals try (conv => whnf)
  all_goals exact ⟨rfl, rfl⟩
theorem worst_eq {g : G} {t : Int} (h : gaugeE g = 0) (ht : within t 0 100000 = true) : worstS g t = deviationS g t := by
  have hg : (0 ≤ g.acc ∧ g.acc ≤ 1000000000) ∧ (0 ≤ g.since ∧ g.since ≤ 100000) := by
    unfold gaugeE at h
    split at h
    · rename_i h1
      simp only [within, Bool.and_eq_true, decide_eq_true_eq] at h1
      omega
    · cases h
  have ht' : 0 ≤ t ∧ t ≤ 100000 := by
    simp only [within, Bool.and_eq_true, decide_eq_true_eq] at ht
    omega
  unfold worstS deviationS w64
  rw [IntWalk.i64_in (t - g.since) (by omega)]
  by_cases hts : t ≤ g.since
  · rw [if_pos hts]
    have e : (if (0 : Int) > t - g.since then (0 : Int) else t - g.since) = 0 := by split <;> omega
    rw [e]
    have e2 : IntKind.wrap .i64 (0 + 999) = 999 := IntWalk.i64_in _ (by omega)
    rw [e2]
    have e3 : (999 : Int).tdiv 1000 = 0 := by decide
    rw [e3, IntWalk.i64_in 0 (by omega), Int.mul_zero, IntWalk.i64_in 0 (by omega), Int.add_zero, IntWalk.i64_in _ (by omega)]
  · rw [if_neg hts, if_neg (by omega), Int.mul_comm]
theorem gaugeE_two (g : G) : gaugeE g = 0 ∨ gaugeE g = 1 := by unfold gaugeE; split <;> simp
theorem c13 {n : Nat} (hn : 4 ≤ n) (g : G) (t : Int) (H : AHeap) : evalFn S n (.fn 13 []) [.agg g.row, .int .i64 t] H = some (.ret (errorS g t), H) := by
  obtain ⟨n, rfl⟩ : ∃ m, n = m + 1 := ⟨n - 1, by omega⟩
  refine fn_ret (S := S) (sf := sf13) rfl (S_fn rfl) rfl ?_
  simp only [sf13, codeP, opsP, drawP]
  repeat' (conv => whnf
           first | refine ⟨_, rfl, ?_⟩ | refine Br.mk (fun _ => ?_) (fun _ => ?_) | refine ⟨_, _, .inl ⟨rfl, ?_⟩⟩ | refine ⟨_, _, ⟨rfl, c45 (by omega) _ _⟩, ?_⟩ | refine ⟨_, _, ⟨rfl, c46 (by omega) _ _⟩, ?_⟩ | refine ⟨_, _, ⟨rfl, c47 (by omega) _ _ _⟩, ?_⟩ | fail)
  all_goals try (conv => whnf)
  all_goals try simp only [decide_eq_true_eq, decide_eq_false_iff_not, beq_iff_eq, beq_eq_false_iff_ne, Bool.not_eq_true', Bool.not_eq_false', Int.not_lt, Int.not_le, ge_iff_le, gt_iff_lt, ne_eq, bne_iff_ne, bne_eq_false_iff_eq, Sl.take_list, List.length_cons, reduceCtorEq] at *
  all_goals (refine ⟨congrArg FR.ret ?_, rfl⟩; have h2 := gaugeE_two g; rcases h2 with h2 | h2 <;> simp_all [packR, errorS, worst_eq])
theorem c32 {n : Nat} (hn : 20 ≤ n) (s : List UInt8) (H : AHeap) : evalFn S n (.fn 32 []) [.str s] H = some (.ret (.bool (nameOK s)), H) := by
  obtain ⟨n, rfl⟩ : ∃ m, n = m + 1 := ⟨n - 1, by omega⟩
  refine fn_ret (S := S) (sf := sf32) rfl (S_fn rfl) rfl ?_
  simp only [sf32, codeP, opsP, drawP]
  cases s with
  | nil =>
    repeat' (conv => whnf
             first | refine ⟨_, rfl, ?_⟩ | refine Br.mk (fun _ => ?_) (fun _ => ?_) | refine ⟨_, _, .inl ⟨rfl, ?_⟩⟩ | fail)
    all_goals try (conv => whnf)
    all_goals try first | exact ⟨by simp_all [packR, nameOK] <;> omega, rfl⟩ | (exfalso; simp_all; done) | (exfalso; simp_all; omega)
  | cons c r =>
    repeat' (conv => whnf
             first | refine ⟨_, rfl, ?_⟩ | refine Br.mk (fun _ => ?_) (fun _ => ?_) | refine ⟨_, _, .inl ⟨rfl, ?_⟩⟩ | fail)
    all_goals try (conv => whnf)
    all_goals try simp only [decide_eq_true_eq, decide_eq_false_iff_not, beq_iff_eq, beq_eq_false_iff_ne, Bool.not_eq_true', Bool.not_eq_false', Int.not_lt, Int.not_le, ge_iff_le, gt_iff_lt, ne_eq, bne_iff_ne, bne_eq_false_iff_eq, Sl.take_list, List.length_cons, reduceCtorEq] at *
    all_goals try first
      | (exfalso; omega)
      | exact ⟨by simp [packR, nameOK]; omega, rfl⟩
    have hlen : (c :: r).length ≤ 16 := by simp only [List.length_cons]; omega
    refine loopP_inv (fun j fr H' df => ∃ i : Int, fr = [(0, .str (c :: r)), (3, .int .i64 i)] ∧ H' = H ∧ df = [] ∧ i = (j : Int) ∧ ((c :: r).take j).all okc = true) (c :: r).length ?_ (c :: r).length (Nat.zero_add _) ⟨_, rfl, rfl, rfl, rfl, rfl⟩ (by omega)
    rintro j hj fr H' df ⟨i, rfl, rfl, rfl, rfl, hall⟩ kn hk
    try simp only [codeP, opsP, drawP]
    repeat' (conv => whnf
             first | refine ⟨_, rfl, ?_⟩ | refine Br.mk (fun _ => ?_) (fun _ => ?_) | refine ⟨_, _, .inl ⟨rfl, ?_⟩⟩ | refine ⟨_, ixs_at (List.getElem?_eq_getElem (lt_of ‹_›)), ?_⟩ | fail)
    all_goals try (conv => whnf)
    all_goals first | (have hlt := lt_of ‹decide ((j : Int) < _) = true›) | (have hge := ge_of ‹decide ((j : Int) < _) = false›) | skip
    all_goals try simp only [decide_eq_true_eq, decide_eq_false_iff_not, beq_iff_eq, beq_eq_false_iff_ne, Bool.not_eq_true', Bool.not_eq_false', Int.not_lt, Int.not_le, ge_iff_le, gt_iff_lt, ne_eq, bne_iff_ne, bne_eq_false_iff_eq, Sl.take_list, List.length_cons, reduceCtorEq] at *
    all_goals first
      | exact hk hlt _ _ _ ⟨_, rfl, rfl, rfl, w1 (by omega), all_take (List.getElem?_eq_getElem hlt) hall (okc_of (by omega))⟩
      | exact ⟨by rw [nameOK_bad (all_bad (List.getElem?_eq_getElem hlt) (okc_bad (by omega)))]; rfl, rfl⟩
      | exact ⟨by rw [List.take_of_length_le hge] at hall; rw [nameOK_of hlen (by omega) (by omega) hall]; rfl, rfl⟩
end Go.AM.Wc
