/- The specification's errors of a plan. The specification's Check. -/
import Derived.Test.YtgmmalddlpmjdaaGreatDoorWcE
set_option linter.unusedVariables false
set_option linter.unusedSimpArgs false
namespace Go.AM.Wc
open Go Go.AM
theorem any_hit {α : Type} {p : α → Bool} {l : List α} {i j : Nat} (hi : i < l.length) (hij : i < j) (hp : p l[i] = true) : (l.take j).any p = true := by
  rw [List.any_eq_true]
  refine ⟨l[i], ?_, hp⟩
  rw [List.mem_take_iff_getElem]
  exact ⟨i, by omega, rfl⟩
def q2 (q : Q) : Int := if nameOK q.name = false then 5 else qSelf q
set_option maxHeartbeats 8000000 in
set_option maxRecDepth 100000 in
theorem c33 {n : Nat} (hn : 200 ≤ n) (q : Q) (H : AHeap) : evalFn S n (.fn 33 []) [.agg q.row] H = some (.ret (.int .i64 (q2 q)), H) := by
  obtain ⟨n, rfl⟩ : ∃ m, n = m + 1 := ⟨n - 1, by omega⟩
  refine fn_ret (S := S) (sf := sf33) rfl (S_fn rfl) rfl ?_
  simp only [sf33, codeP, opsP, drawP]
  repeat' (conv => whnf
           first | refine ⟨_, rfl, ?_⟩ | refine Br.mk (fun _ => ?_) (fun _ => ?_) | refine ⟨_, _, .inl ⟨rfl, ?_⟩⟩ | refine ⟨_, alenSl_av _ _, ?_⟩ | refine ⟨_, _, ⟨rfl, c32 (by omega) _ _⟩, ?_⟩ | refine ⟨_, _, ⟨rfl, c65 (by omega) _ _⟩, ?_⟩ | fail)
  all_goals try (conv => whnf)
  all_goals try simp only [decide_eq_true_eq, decide_eq_false_iff_not, beq_iff_eq, beq_eq_false_iff_ne, Bool.not_eq_true', Bool.not_eq_false', Int.not_lt, Int.not_le, ge_iff_le, gt_iff_lt, ne_eq, bne_iff_ne, bne_eq_false_iff_eq, Sl.take_list, List.length_cons, reduceCtorEq] at *
  all_goals try first
    | (exfalso; omega)
    | (refine ⟨congrArg (fun x => FR.ret (.int .i64 x)) ?_, rfl⟩; cases h1 : within q.rise 0 10000 <;> cases h2 : within q.fall 0 10000 <;> cases h3 : within q.bad 0 q.gs.list.length <;> first
        | (simp [q2, qSelf, qNums, *]; done)
        | (simp [q2, qSelf, qNums, *]; omega)
        | (exfalso; simp only [within, Bool.and_eq_true, Bool.and_eq_false_iff, decide_eq_true_eq, decide_eq_false_iff_not] at h1 h2 h3; omega))
  have h1 : within q.rise 0 10000 = true := by simp only [within, Bool.and_eq_true, decide_eq_true_eq]; omega
  have h2 : within q.fall 0 10000 = true := by simp only [within, Bool.and_eq_true, decide_eq_true_eq]; omega
  have h3 : within q.bad 0 q.gs.list.length = true := by simp only [within, Bool.and_eq_true, decide_eq_true_eq]; omega
  have hlen : q.gs.list.length ≤ 8 := by omega
  have hq : qNums q = 0 := by simp [qNums, *]
  have hs : q2 q = errL gE [] q.gs.list := by simp [q2, qSelf, *]
  refine loopP_inv (fun j fr H' df => ∃ (i : Int), fr = [(1, .imm q.row 0), (3, .int .i64 i)] ∧ H' = H ∧ df = [] ∧ i = (j : Int) ∧ errL gE [] q.gs.list = errL gE (q.gs.list.take j) (q.gs.list.drop j)) q.gs.list.length ?_ q.gs.list.length (Nat.zero_add _) ⟨_, rfl, rfl, rfl, rfl, rfl⟩ (by omega)
  rintro j hj fr H' df ⟨i, rfl, rfl, rfl, rfl, hall⟩ kn hk
  try simp only [codeP, opsP, drawP]
  repeat' (conv => whnf
           first | refine ⟨_, rfl, ?_⟩ | refine Br.mk (fun _ => ?_) (fun _ => ?_) | refine ⟨_, _, .inl ⟨rfl, ?_⟩⟩ | refine ⟨_, alenSl_av _ _, ?_⟩ | refine ⟨_, iad_av (f := G.row) (m := 4) (fun _ => rfl) _ _ _ (lt_of ‹_›), ?_⟩ | refine ⟨_, _, ⟨rfl, c32 (by omega) _ _⟩, ?_⟩ | fail)
  all_goals try (conv => whnf)
  all_goals first | (have hlt := lt_of ‹decide ((j : Int) < _) = true›) | (have hge := ge_of ‹decide ((j : Int) < _) = false›) | skip
  all_goals try simp only [decide_eq_true_eq, decide_eq_false_iff_not, beq_iff_eq, beq_eq_false_iff_ne, Bool.not_eq_true', Bool.not_eq_false', Int.not_lt, Int.not_le, ge_iff_le, gt_iff_lt, ne_eq, bne_iff_ne, bne_eq_false_iff_eq, Sl.take_list, List.length_cons, reduceCtorEq] at *
  all_goals try first
    | exact ⟨by rw [hs, errL_end hge hall]; rfl, rfl⟩
    | (refine ⟨congrArg (fun x => FR.ret (.int .i64 x)) ?_, rfl⟩; rw [hs]; refine (errL_bad hlt hall ?_ ?_).symm <;> simp [gE, *]; done)
  refine loopP_inv (fun a fr H2 df => ∃ (i : Int), fr = [(1, .imm q.row 0), (3, .int .i64 j), (4, .int .i64 i)] ∧ H2 = H' ∧ df = [] ∧ i = (a : Int) ∧ (q.gs.list.take a).any (fun x => x.name == q.gs.list[j].name) = false) j ?_ j (Nat.zero_add _) ⟨_, rfl, rfl, rfl, rfl, rfl⟩ (by omega)
  rintro a ha fr H2 df ⟨i, rfl, rfl, rfl, rfl, hany⟩ kn2 hk2
  try simp only [codeP, opsP, drawP]
  repeat' (conv => whnf
           first | refine ⟨_, rfl, ?_⟩ | refine Br.mk (fun _ => ?_) (fun _ => ?_) | refine ⟨_, _, .inl ⟨rfl, ?_⟩⟩ | refine ⟨_, iadI (f := G.row) (fun _ => rfl) rfl rfl (by first | assumption | (have := lt_of ‹decide ((a : Int) < _) = true›; omega)), ?_⟩ | refine ⟨_, iad_av (f := G.row) (m := 4) (fun _ => rfl) _ _ _ hlt, ?_⟩ | refine ⟨_, _, ⟨rfl, c45 (by omega) _ _⟩, ?_⟩ | fail)
  all_goals try (conv => whnf)
  all_goals first | (have hlt2 := lt_of ‹decide ((a : Int) < _) = true›) | (have hge2 := ge_of ‹decide ((a : Int) < _) = false›) | skip
  all_goals try simp only [decide_eq_true_eq, decide_eq_false_iff_not, beq_iff_eq, beq_eq_false_iff_ne, Bool.not_eq_true', Bool.not_eq_false', Int.not_lt, Int.not_le, ge_iff_le, gt_iff_lt, ne_eq, bne_iff_ne, bne_eq_false_iff_eq, Sl.take_list, List.length_cons, reduceCtorEq] at *
  all_goals first
    | exact hk2 hlt2 _ _ _ ⟨_, rfl, rfl, rfl, w1 (by omega), any_take (List.getElem?_eq_getElem (by omega)) hany (by simp [*])⟩
    | (refine ⟨congrArg (fun x => FR.ret (.int .i64 x)) ?_, rfl⟩; rw [hs]; have hh := any_hit (l := q.gs.list) (p := fun x => x.name == q.gs.list[j].name) (by omega) hlt2 (by simp [*]); refine (errL_bad hlt hall ?_ ?_).symm <;> simp [gE, *]; done)
    | (obtain rfl : a = j := by omega
       exact hk hlt _ _ _ ⟨_, rfl, rfl, rfl, w1 (by omega), errL_go hlt hall (by simp [gE, *])⟩)
    | (obtain rfl : a = j := by omega
       refine ⟨congrArg (fun x => FR.ret (.int .i64 x)) ?_, rfl⟩; rw [hs]; refine (errL_bad hlt hall ?_ ?_).symm <;> simp [gE, *]; done)
set_option maxHeartbeats 8000000 in
set_option maxRecDepth 100000 in
theorem c34 {n : Nat} (hn : 200 ≤ n) (m : M) (s : Sl M) (hlen : s.list.length ≤ 100) (H : AHeap) : evalFn S n (.fn 34 []) [.agg m.row, s.av M.row] H = some (.ret (.int .i64 (mE s.list m)), H) := by
  obtain ⟨n, rfl⟩ : ∃ m, n = m + 1 := ⟨n - 1, by omega⟩
  refine fn_ret (S := S) (sf := sf34) rfl (S_fn rfl) rfl ?_
  simp only [sf34, codeP, opsP, drawP]
  repeat' (conv => whnf
           first | refine ⟨_, rfl, ?_⟩ | refine Br.mk (fun _ => ?_) (fun _ => ?_) | refine ⟨_, _, .inl ⟨rfl, ?_⟩⟩ | refine ⟨_, alenSl_av _ _, ?_⟩ | refine ⟨_, _, ⟨rfl, c32 (by omega) _ _⟩, ?_⟩ | fail)
  all_goals try (conv => whnf)
  all_goals try simp only [decide_eq_true_eq, decide_eq_false_iff_not, beq_iff_eq, beq_eq_false_iff_ne, Bool.not_eq_true', Bool.not_eq_false', Int.not_lt, Int.not_le, ge_iff_le, gt_iff_lt, ne_eq, bne_iff_ne, bne_eq_false_iff_eq, Sl.take_list, List.length_cons, reduceCtorEq] at *
  all_goals try first
    | exact ⟨by simp [packR, mE, *]; done, rfl⟩
  refine loopP_inv (fun j fr H' df => ∃ (i : Int), fr = [(1, s.av M.row), (2, .imm m.row 0), (5, .int .i64 i)] ∧ H' = H ∧ df = [] ∧ i = (j : Int) ∧ (s.list.take j).any (fun x => x.name == m.name) = false) s.list.length ?_ s.list.length (Nat.zero_add _) ⟨_, rfl, rfl, rfl, rfl, rfl⟩ (by omega)
  rintro j hj fr H' df ⟨i, rfl, rfl, rfl, rfl, hall⟩ kn hk
  try simp only [codeP, opsP, drawP]
  repeat' (conv => whnf
           first | refine ⟨_, rfl, ?_⟩ | refine Br.mk (fun _ => ?_) (fun _ => ?_) | refine ⟨_, _, .inl ⟨rfl, ?_⟩⟩ | refine ⟨_, alenSl_av _ _, ?_⟩ | refine ⟨_, iadI (f := M.row) (fun _ => rfl) rfl rfl (lt_of ‹_›), ?_⟩ | refine ⟨_, _, ⟨rfl, c46 (by omega) _ _⟩, ?_⟩ | fail)
  all_goals try (conv => whnf)
  all_goals first | (have hlt := lt_of ‹decide ((j : Int) < _) = true›) | (have hge := ge_of ‹decide ((j : Int) < _) = false›) | skip
  all_goals try simp only [decide_eq_true_eq, decide_eq_false_iff_not, beq_iff_eq, beq_eq_false_iff_ne, Bool.not_eq_true', Bool.not_eq_false', Int.not_lt, Int.not_le, ge_iff_le, gt_iff_lt, ne_eq, bne_iff_ne, bne_eq_false_iff_eq, Sl.take_list, List.length_cons, reduceCtorEq] at *
  all_goals try first
    | exact hk hlt _ _ _ ⟨_, rfl, rfl, rfl, w1 (by omega), any_take (List.getElem?_eq_getElem hlt) hall (by simp [*])⟩
    | (refine ⟨congrArg (fun x => FR.ret (.int .i64 x)) ?_, rfl⟩; have hh := any_hit (l := s.list) (p := fun x => x.name == m.name) hlt hlt (by simp [*]); rw [List.take_of_length_le (Nat.le_refl _)] at hh; simp [mE, *]; done)
    | (refine ⟨congrArg (fun x => FR.ret (.int .i64 x)) ?_, rfl⟩; rw [List.take_of_length_le hge] at hall; simp [mE, *]; done)
  rw [List.take_of_length_le hge] at hall
  refine loopP_inv (fun j fr H2 df => ∃ (i : Int), fr = [(1, s.av M.row), (2, .imm m.row 0), (6, .int .i64 i)] ∧ H2 = H' ∧ df = [] ∧ i = (j : Int) ∧ (s.list.take j).any (fun x => x.crew == m.crew && decide (x.rank = m.rank)) = false) s.list.length ?_ s.list.length (Nat.zero_add _) ⟨_, rfl, rfl, rfl, rfl, rfl⟩ (by omega)
  rintro a ha fr H2 df ⟨i, rfl, rfl, rfl, rfl, hall2⟩ kn2 hk2
  try simp only [codeP, opsP, drawP]
  repeat' (conv => whnf
           first | refine ⟨_, rfl, ?_⟩ | refine Br.mk (fun _ => ?_) (fun _ => ?_) | refine ⟨_, _, .inl ⟨rfl, ?_⟩⟩ | refine ⟨_, alenSl_av _ _, ?_⟩ | refine ⟨_, iadI (f := M.row) (fun _ => rfl) rfl rfl (lt_of ‹_›), ?_⟩ | fail)
  all_goals try (conv => whnf)
  all_goals first | (have hlt2 := lt_of ‹decide ((a : Int) < _) = true›) | (have hge2 := ge_of ‹decide ((a : Int) < _) = false›) | skip
  all_goals try simp only [decide_eq_true_eq, decide_eq_false_iff_not, beq_iff_eq, beq_eq_false_iff_ne, Bool.not_eq_true', Bool.not_eq_false', Int.not_lt, Int.not_le, ge_iff_le, gt_iff_lt, ne_eq, bne_iff_ne, bne_eq_false_iff_eq, Sl.take_list, List.length_cons, reduceCtorEq] at *
  all_goals first
    | exact hk2 hlt2 _ _ _ ⟨_, rfl, rfl, rfl, w1 (by omega), any_take (List.getElem?_eq_getElem hlt2) hall2 (by simp [*])⟩
    | (refine ⟨congrArg (fun x => FR.ret (.int .i64 x)) ?_, rfl⟩; have hh := any_hit (l := s.list) (p := fun x => x.crew == m.crew && decide (x.rank = m.rank)) hlt2 hlt2 (by simp [*]); rw [List.take_of_length_le (Nat.le_refl _)] at hh; simp [mE, *]; done)
    | (refine ⟨congrArg (fun x => FR.ret (.int .i64 x)) ?_, rfl⟩; rw [List.take_of_length_le hge2] at hall2; simp [mE, *]; done)
set_option maxHeartbeats 8000000 in
set_option maxRecDepth 100000 in
theorem c35 {n : Nat} (hn : 200 ≤ n) (p : P) (i : Nat) (hi : i < p.as.list.length) (hlen : p.as.list.length ≤ 100) (k : Nat) :
    evalFn S n (.fn 35 []) [.agg p.row, .int .i64 i] ⟨k, []⟩ = some (.ret (.int .i64 (aE p.qs.list.length p.ms.list.length (p.as.list.take i) p.as.list[i])), ⟨k, []⟩) := by
  obtain ⟨n, rfl⟩ : ∃ m, n = m + 1 := ⟨n - 1, by omega⟩
  refine fn_ret (S := S) (sf := sf35) rfl (S_fn rfl) rfl ?_
  simp only [sf35, codeP, opsP, drawP]
  repeat' (conv => whnf
           first | refine ⟨_, _, .inr ⟨st_ok (fresh_nil _) rfl rfl rfl rfl rfl, rfl, ?_⟩⟩ | refine ⟨_, _, frz_ok (fresh_nil _) rfl, ?_⟩ | refine ⟨_, rfl, ?_⟩ | refine Br.mk (fun _ => ?_) (fun _ => ?_) | refine ⟨_, _, .inl ⟨rfl, ?_⟩⟩ | refine ⟨_, alenSl_av _ _, ?_⟩ | refine ⟨_, iad_av (f := A.row) (m := 4) (fun _ => rfl) _ _ _ hi, ?_⟩ | refine ⟨_, _, ⟨rfl, c65 (by omega) _ _⟩, ?_⟩ | fail)
  all_goals try (conv => whnf)
  all_goals try simp only [decide_eq_true_eq, decide_eq_false_iff_not, beq_iff_eq, beq_eq_false_iff_ne, Bool.not_eq_true', Bool.not_eq_false', Int.not_lt, Int.not_le, ge_iff_le, gt_iff_lt, ne_eq, bne_iff_ne, bne_eq_false_iff_eq, Sl.take_list, List.length_cons, reduceCtorEq] at *
  all_goals try first
    | (refine ⟨congrArg (fun x => FR.ret (.int .i64 x)) ?_, rfl⟩; have h1 : (within p.as.list[i].qu 0 ((p.qs.list.length : Int) - 1) && within p.as.list[i].ms 0 ((p.ms.list.length : Int) - 1)) = false := by (simp only [within, Bool.and_eq_false_iff, decide_eq_false_iff_not]; omega)
       simp [aE, h1]; done)
    | (refine ⟨congrArg (fun x => FR.ret (.int .i64 x)) ?_, rfl⟩; have h1 : (within p.as.list[i].qu 0 ((p.qs.list.length : Int) - 1) && within p.as.list[i].ms 0 ((p.ms.list.length : Int) - 1)) = true := by (simp only [within, Bool.and_eq_true, decide_eq_true_eq]; omega)
       simp [aE, *]; done)
  have h1 : (within p.as.list[i].qu 0 ((p.qs.list.length : Int) - 1) && within p.as.list[i].ms 0 ((p.ms.list.length : Int) - 1)) = true := by simp only [within, Bool.and_eq_true, decide_eq_true_eq]; omega
  refine loopP_inv (fun j fr H' df => ∃ (x : Int), fr = [(1, .int .i64 i), (2, .imm p.row 0), (5, .imm (A.row p.as.list[i]) 0), (6, .int .i64 x)] ∧ H' = ⟨k + 1, []⟩ ∧ df = [] ∧ x = (j : Int) ∧ (p.as.list.take j).any (fun x => decide (x.ms = p.as.list[i].ms)) = false) i ?_ i (Nat.zero_add _) ⟨_, rfl, rfl, rfl, rfl, rfl⟩ (by omega)
  rintro j hj fr H' df ⟨x, rfl, rfl, rfl, rfl, hall⟩ kn hk
  try simp only [codeP, opsP, drawP]
  repeat' (conv => whnf
           first | refine ⟨_, rfl, ?_⟩ | refine Br.mk (fun _ => ?_) (fun _ => ?_) | refine ⟨_, _, .inl ⟨rfl, ?_⟩⟩ | refine ⟨_, iadI (f := A.row) (fun _ => rfl) rfl rfl (by have := lt_of ‹decide ((j : Int) < _) = true›; omega), ?_⟩ | fail)
  all_goals try (conv => whnf)
  all_goals first | (have hlt := lt_of ‹decide ((j : Int) < _) = true›) | (have hge := ge_of ‹decide ((j : Int) < _) = false›) | skip
  all_goals try simp only [decide_eq_true_eq, decide_eq_false_iff_not, beq_iff_eq, beq_eq_false_iff_ne, Bool.not_eq_true', Bool.not_eq_false', Int.not_lt, Int.not_le, ge_iff_le, gt_iff_lt, ne_eq, bne_iff_ne, bne_eq_false_iff_eq, Sl.take_list, List.length_cons, reduceCtorEq] at *
  all_goals first
    | exact hk hlt _ _ _ ⟨_, rfl, rfl, rfl, w1 (by omega), any_take (List.getElem?_eq_getElem (by omega)) hall (by simp [*])⟩
    | (refine ⟨congrArg (fun x => FR.ret (.int .i64 x)) ?_, rfl⟩; have hh := any_hit (l := p.as.list) (j := i) (p := fun x => decide (x.ms = p.as.list[i].ms)) (by omega) hlt (by simp [*]); simp [aE, *]; done)
    | (obtain rfl : j = i := by omega
       refine ⟨congrArg (fun x => FR.ret (.int .i64 x)) ?_, rfl⟩; simp [aE, *]; done)
end Go.AM.Wc
set_option linter.unusedVariables false
set_option linter.unusedSimpArgs false
namespace Go.AM.Wc
open Go Go.AM
set_option maxHeartbeats 16000000 in
set_option maxRecDepth 100000 in
theorem c9 {n : Nat} (hn : 300 ≤ n) (p : P) (k : Nat) : evalFn S n (.fn 9 []) [.agg p.row] ⟨k, []⟩ = some (.ret (.int .i64 (planE p)), ⟨k, []⟩) := by
  obtain ⟨n, rfl⟩ : ∃ m, n = m + 1 := ⟨n - 1, by omega⟩
  refine fn_ret (S := S) (sf := sf9) rfl (S_fn rfl) rfl ?_
  simp only [sf9, codeP, opsP, drawP]
  repeat' (conv => whnf
           first | refine ⟨_, rfl, ?_⟩ | refine Br.mk (fun _ => ?_) (fun _ => ?_) | refine ⟨_, _, .inl ⟨rfl, ?_⟩⟩ | refine ⟨_, alenSl_av _ _, ?_⟩ | fail)
  all_goals try (conv => whnf)
  all_goals try simp only [decide_eq_true_eq, decide_eq_false_iff_not, beq_iff_eq, beq_eq_false_iff_ne, Bool.not_eq_true', Bool.not_eq_false', Int.not_lt, Int.not_le, ge_iff_le, gt_iff_lt, ne_eq, bne_iff_ne, bne_eq_false_iff_eq, Sl.take_list, List.length_cons, reduceCtorEq] at *
  all_goals try first
    | (refine ⟨congrArg (fun x => FR.ret (.int .i64 x)) ?_, rfl⟩; have e : qsE p.qs.list = 3 := by (rw [qsE, if_pos (by omega)])
       simp [planE, e]; done)
  have hql : p.qs.list.length ≤ 16 := by omega
  have hqs : qsE p.qs.list = errL qE [] p.qs.list := by rw [qsE, if_neg (by omega)]
  refine loopP_inv (fun j fr H' df => ∃ (i : Int), fr = [(1, .imm p.row 0), (3, .int .i64 i)] ∧ H' = ⟨k, []⟩ ∧ df = [] ∧ i = (j : Int) ∧ errL qE [] p.qs.list = errL qE (p.qs.list.take j) (p.qs.list.drop j)) p.qs.list.length ?_ p.qs.list.length (Nat.zero_add _) ⟨_, rfl, rfl, rfl, rfl, rfl⟩ (by omega)
  rintro j hj fr H' df ⟨i, rfl, rfl, rfl, rfl, hall⟩ kn hk
  try simp only [codeP, opsP, drawP]
  repeat' (conv => whnf
           first | refine ⟨_, rfl, ?_⟩ | refine Br.mk (fun _ => ?_) (fun _ => ?_) | refine ⟨_, _, .inl ⟨rfl, ?_⟩⟩ | refine ⟨_, alenSl_av _ _, ?_⟩ | refine ⟨_, iad_av (f := Q.row) (m := 7) (fun _ => rfl) _ _ _ (lt_of ‹_›), ?_⟩ | refine ⟨_, _, ⟨rfl, c32 (by omega) _ _⟩, ?_⟩ | fail)
  all_goals try (conv => whnf)
  all_goals first | (have hlt := lt_of ‹decide ((j : Int) < _) = true›) | (have hge := ge_of ‹decide ((j : Int) < _) = false›) | skip
  all_goals try simp only [decide_eq_true_eq, decide_eq_false_iff_not, beq_iff_eq, beq_eq_false_iff_ne, Bool.not_eq_true', Bool.not_eq_false', Int.not_lt, Int.not_le, ge_iff_le, gt_iff_lt, ne_eq, bne_iff_ne, bne_eq_false_iff_eq, Sl.take_list, List.length_cons, reduceCtorEq] at *
  all_goals try first
    | (refine ⟨congrArg (fun x => FR.ret (.int .i64 x)) ?_, rfl⟩; have e : qsE p.qs.list = 5 := hqs.trans (errL_bad hlt hall (by simp [qE, *]) (by decide)); simp [planE, e]; done)
    | (refine ⟨congrArg (fun x => FR.ret (.int .i64 x)) ?_, rfl⟩; have e1 : qsE p.qs.list = 0 := hqs.trans (errL_end hge hall); have e : msE p.ms.list = 3 := by (rw [msE, if_pos (by omega)])
       simp [planE, e, e1]; done)
  case refine_2.refine_1.refine_1 =>
    refine loopP_inv (fun a fr H2 df => ∃ (i : Int), fr = [(1, .imm p.row 0), (3, .int .i64 j), (4, .int .i64 i)] ∧ H2 = ⟨k, []⟩ ∧ df = [] ∧ i = (a : Int) ∧ (p.qs.list.take a).any (fun x => x.name == p.qs.list[j].name) = false) j ?_ j (Nat.zero_add _) ⟨_, rfl, rfl, rfl, rfl, rfl⟩ (by omega)
    rintro a ha fr H2 df ⟨i, rfl, rfl, rfl, rfl, hany⟩ kn2 hk2
    try simp only [codeP, opsP, drawP]
    repeat' (conv => whnf
             first | refine ⟨_, rfl, ?_⟩ | refine Br.mk (fun _ => ?_) (fun _ => ?_) | refine ⟨_, _, .inl ⟨rfl, ?_⟩⟩ | refine ⟨_, iadI (f := Q.row) (fun _ => rfl) rfl rfl (by first | assumption | (have := lt_of ‹decide ((a : Int) < _) = true›; omega)), ?_⟩ | refine ⟨_, iad_av (f := Q.row) (m := 7) (fun _ => rfl) _ _ _ hlt, ?_⟩ | refine ⟨_, _, ⟨rfl, c33 (by omega) _ _⟩, ?_⟩ | fail)
    all_goals try (conv => whnf)
    all_goals first | (have hlt2 := lt_of ‹decide ((a : Int) < _) = true›) | (have hge2 := ge_of ‹decide ((a : Int) < _) = false›) | skip
    all_goals try simp only [decide_eq_true_eq, decide_eq_false_iff_not, beq_iff_eq, beq_eq_false_iff_ne, Bool.not_eq_true', Bool.not_eq_false', Int.not_lt, Int.not_le, ge_iff_le, gt_iff_lt, ne_eq, bne_iff_ne, bne_eq_false_iff_eq, Sl.take_list, List.length_cons, reduceCtorEq] at *
    all_goals first
      | exact hk2 hlt2 _ _ _ ⟨_, rfl, rfl, rfl, w1 (by omega), any_take (List.getElem?_eq_getElem (by omega)) hany (by simp [*])⟩
      | (refine ⟨congrArg (fun x => FR.ret (.int .i64 x)) ?_, rfl⟩; have hh := any_hit (l := p.qs.list) (p := fun x => x.name == p.qs.list[j].name) (by omega) hlt2 (by simp [*]); have e : qsE p.qs.list = 6 := hqs.trans (errL_bad hlt hall (by simp [qE, *]) (by decide)); simp [planE, e]; done)
      | (obtain rfl : a = j := by omega
         have e2 : q2 p.qs.list[a] = qSelf p.qs.list[a] := by simp [q2, *]
         exact hk hlt _ _ _ ⟨_, rfl, rfl, rfl, w1 (by omega), errL_go hlt hall (by simp_all [qE])⟩)
      | (obtain rfl : a = j := by omega
         have e2 : q2 p.qs.list[a] = qSelf p.qs.list[a] := by simp [q2, *]
         refine ⟨congrArg (fun x => FR.ret (.int .i64 x)) ?_, rfl⟩
         have e : qsE p.qs.list = q2 p.qs.list[a] := hqs.trans (errL_bad hlt hall (by simp [qE, *]) (by assumption))
         rw [planE, e, if_neg (by assumption)])
  have e1 : qsE p.qs.list = 0 := hqs.trans (errL_end hge hall)
  have hml : p.ms.list.length ≤ 16 := by omega
  have hms : msE p.ms.list = errL mE [] p.ms.list := by rw [msE, if_neg (by omega)]
  clear hk hall hj hge
  refine loopP_inv (fun j fr H' df => ∃ (i : Int), fr = [(1, .imm p.row 0), (6, .int .i64 i)] ∧ H' = ⟨k, []⟩ ∧ df = [] ∧ i = (j : Int) ∧ errL mE [] p.ms.list = errL mE (p.ms.list.take j) (p.ms.list.drop j)) p.ms.list.length ?_ p.ms.list.length (Nat.zero_add _) ⟨_, rfl, rfl, rfl, rfl, rfl⟩ (by omega)
  rintro j hj fr H' df ⟨i, rfl, rfl, rfl, rfl, hall⟩ kn hk
  try simp only [codeP, opsP, drawP]
  repeat' (conv => whnf
           first | refine ⟨_, rfl, ?_⟩ | refine Br.mk (fun _ => ?_) (fun _ => ?_) | refine ⟨_, _, .inl ⟨rfl, ?_⟩⟩ | refine ⟨_, alenSl_av _ _, ?_⟩ | refine ⟨_, iadI (f := M.row) (fun _ => rfl) rfl rfl (lt_of ‹_›), ?_⟩ | refine ⟨_, slcI (f := M.row) (j := j) rfl rfl (fun _ => rfl) hj, ?_⟩ | refine ⟨_, _, ⟨rfl, c34 (by omega) _ _ (by simp; omega) _⟩, ?_⟩ | fail)
  all_goals try (conv => whnf)
  all_goals first | (have hlt := lt_of ‹decide ((j : Int) < _) = true›) | (have hge := ge_of ‹decide ((j : Int) < _) = false›) | skip
  all_goals try simp only [decide_eq_true_eq, decide_eq_false_iff_not, beq_iff_eq, beq_eq_false_iff_ne, Bool.not_eq_true', Bool.not_eq_false', Int.not_lt, Int.not_le, ge_iff_le, gt_iff_lt, ne_eq, bne_iff_ne, bne_eq_false_iff_eq, Sl.take_list, List.length_cons, reduceCtorEq] at *
  all_goals try first
    | exact hk hlt _ _ _ ⟨_, rfl, rfl, rfl, w1 (by omega), errL_go hlt hall (by assumption)⟩
    | (refine ⟨congrArg (fun x => FR.ret (.int .i64 x)) ?_, rfl⟩
       have e : msE p.ms.list = mE (p.ms.list.take j) p.ms.list[j] := hms.trans (errL_bad hlt hall rfl (by assumption))
       rw [planE, e1, if_pos rfl, e, if_neg (by assumption)]; done)
    | (refine ⟨congrArg (fun x => FR.ret (.int .i64 x)) ?_, rfl⟩; have e : msE p.ms.list = 0 := hms.trans (errL_end hge hall)
       rw [planE, e1, if_pos rfl, e, if_pos rfl, asE, if_pos (by omega)]; done)
  have e2 : msE p.ms.list = 0 := hms.trans (errL_end hge hall)
  have hal : p.as.list.length ≤ 16 := by omega
  have has : planE p = errL (aE p.qs.list.length p.ms.list.length) [] p.as.list := by rw [planE, e1, if_pos rfl, e2, if_pos rfl, asE, if_neg (by omega)]
  clear hk hall hj hge
  refine loopP_inv (fun j fr H' df => ∃ (i : Int), fr = [(1, .imm p.row 0), (8, .int .i64 i)] ∧ H' = ⟨k, []⟩ ∧ df = [] ∧ i = (j : Int) ∧ errL (aE p.qs.list.length p.ms.list.length) [] p.as.list = errL (aE p.qs.list.length p.ms.list.length) (p.as.list.take j) (p.as.list.drop j)) p.as.list.length ?_ p.as.list.length (Nat.zero_add _) ⟨_, rfl, rfl, rfl, rfl, rfl⟩ (by omega)
  rintro j hj fr H' df ⟨i, rfl, rfl, rfl, rfl, hall⟩ kn hk
  try simp only [codeP, opsP, drawP]
  repeat' (conv => whnf
           first | refine ⟨_, rfl, ?_⟩ | refine Br.mk (fun _ => ?_) (fun _ => ?_) | refine ⟨_, _, .inl ⟨rfl, ?_⟩⟩ | refine ⟨_, alenSl_av _ _, ?_⟩ | refine ⟨_, _, ⟨rfl, c35 (by omega) _ _ (lt_of ‹_›) (by omega) _⟩, ?_⟩ | fail)
  all_goals try (conv => whnf)
  all_goals first | (have hlt := lt_of ‹decide ((j : Int) < _) = true›) | (have hge := ge_of ‹decide ((j : Int) < _) = false›) | skip
  all_goals try simp only [decide_eq_true_eq, decide_eq_false_iff_not, beq_iff_eq, beq_eq_false_iff_ne, Bool.not_eq_true', Bool.not_eq_false', Int.not_lt, Int.not_le, ge_iff_le, gt_iff_lt, ne_eq, bne_iff_ne, bne_eq_false_iff_eq, Sl.take_list, List.length_cons, reduceCtorEq] at *
  all_goals first
    | exact hk hlt _ _ _ ⟨_, rfl, rfl, rfl, w1 (by omega), errL_go hlt hall (by assumption)⟩
    | (refine ⟨congrArg (fun x => FR.ret (.int .i64 x)) ?_, rfl⟩; rw [has]; exact (errL_bad hlt hall rfl (by assumption)).symm)
    | (refine ⟨congrArg (fun x => FR.ret (.int .i64 x)) ?_, rfl⟩; rw [has]; exact (errL_end hge hall).symm)
end Go.AM.Wc
