/- watch.Print and the specification's. -/
import Derived.Test.YtgmmalddlpmjdaaGreatDoorWcM
set_option linter.unusedVariables false
set_option linter.unusedSimpArgs false
namespace Go.AM.Wc
open Go Go.AM
def printS (p : P) : AV := if planE p = 0 then (if (textP p).length > 65536 then .tup [.str [], .int .i64 3] else .tup [.str (textP p), .int .i64 0]) else .tup [.str [], .int .i64 (planE p)]
set_option maxHeartbeats 4000000 in
set_option maxRecDepth 100000 in
theorem c7 {n : Nat} (hn : 310 ≤ n) (p : P) (k : Nat) : evalFn S n (.fn 7 []) [.agg p.row] ⟨k, []⟩ = some (.ret (printS p), ⟨k, []⟩) := by
  obtain ⟨n, rfl⟩ : ∃ m, n = m + 1 := ⟨n - 1, by omega⟩
  refine fn_ret (S := S) (sf := sf7) rfl (S_fn rfl) rfl ?_
  simp only [sf7, codeP, opsP, drawP]
  by_cases hp : planE p = 0
  · have hv := valid_of hp
    repeat' (conv => whnf
             first | refine ⟨_, rfl, ?_⟩ | refine Br.mk (fun _ => ?_) (fun _ => ?_) | refine ⟨_, _, .inl ⟨rfl, ?_⟩⟩ | refine ⟨_, _, ⟨rfl, c9 (by omega) _ _⟩, ?_⟩ | refine ⟨_, _, ⟨rfl, c25 (by omega) _ hv _⟩, ?_⟩ | fail)
    all_goals try (conv => whnf)
    all_goals try simp only [decide_eq_true_eq, decide_eq_false_iff_not, beq_iff_eq, beq_eq_false_iff_ne, Bool.not_eq_true', Bool.not_eq_false', Int.not_lt, Int.not_le, ge_iff_le, gt_iff_lt, ne_eq, bne_iff_ne, bne_eq_false_iff_eq, Sl.take_list, List.length_cons, reduceCtorEq] at *
    all_goals first
      | (exfalso; contradiction)
      | exact ⟨by simp only [packR, printS, if_pos hp]; rw [if_pos (by omega)], rfl⟩
      | exact ⟨by simp only [packR, printS, if_pos hp]; rw [if_neg (by omega)], rfl⟩
  · skip
    repeat' (conv => whnf
             first | refine ⟨_, rfl, ?_⟩ | refine Br.mk (fun _ => ?_) (fun _ => ?_) | refine ⟨_, _, .inl ⟨rfl, ?_⟩⟩ | refine ⟨_, _, ⟨rfl, c9 (by omega) _ _⟩, ?_⟩ | fail)
    all_goals try (conv => whnf)
    all_goals try simp only [decide_eq_true_eq, decide_eq_false_iff_not, beq_iff_eq, beq_eq_false_iff_ne, Bool.not_eq_true', Bool.not_eq_false', Int.not_lt, Int.not_le, ge_iff_le, gt_iff_lt, ne_eq, bne_iff_ne, bne_eq_false_iff_eq, Sl.take_list, List.length_cons, reduceCtorEq] at *
    all_goals first
      | (exfalso; contradiction)
      | exact ⟨by simp only [packR, printS, if_neg hp], rfl⟩
theorem drop_bl {m b : Nat} {st : BSt} (h : okB m b st) (s : List UInt8) (kd : IntKind) (z : Int) : dropH true b (.tup [.str s, .int kd z]) ⟨m, bl b st⟩ = ⟨b, []⟩ := by
  have hb : Nat.blt b b = false := by simp [Nat.blt_eq, ← Bool.not_eq_true]
  cases st with
  | none => simp [dropH, AV.under, AV.unders, bl, blksCut, blksUnder, hb]
  | some x =>
    obtain ⟨r, t⟩ := x
    simp only [okB] at h
    have hr : Nat.blt r b = false := by rw [← Bool.not_eq_true, Nat.blt_eq]; omega
    simp [dropH, AV.under, AV.unders, bl, blksCut, blksUnder, hb, hr]
theorem okB_up {m b : Nat} {st : BSt} (h : okB m b st) : okB (m + 1) b st := by
  cases st with
  | none => simp only [okB] at h ⊢; omega
  | some x => obtain ⟨r, t⟩ := x; simp only [okB] at h ⊢; omega
theorem txtS (r : Nat) (t : List UInt8) : txt (some (r, t)) = t := rfl
theorem slS {α : Type} (c : Nat) (l : List α) : (Sl.some c l).list = l := rfl
theorem slN {α : Type} : (Sl.none : Sl α).list = [] := rfl
theorem line_len (ws : List (List UInt8)) : (line ws).length = (Lib.join ws [32]).length + 1 := by simp [line]
set_option maxHeartbeats 16000000 in
set_option maxRecDepth 100000 in
theorem c6 {n : Nat} (hn : 330 ≤ n) (p : P) (k : Nat) : evalFn S n (.fn 6 []) [.agg p.row] ⟨k, []⟩ = some (.ret (printS p), ⟨k, []⟩) := by
  obtain ⟨n, rfl⟩ : ∃ m, n = m + 1 := ⟨n - 1, by omega⟩
  refine fn_ret (S := S) (sf := sf6) rfl (S_fn rfl) rfl ?_
  simp only [sf6, codeP, opsP, drawP]
  by_cases hp : planE p ≠ 0
  · skip
    repeat' (conv => whnf
             first | refine ⟨_, rfl, ?_⟩ | refine Br.mk (fun _ => ?_) (fun _ => ?_) | refine ⟨_, _, .inl ⟨rfl, ?_⟩⟩ | refine ⟨_, _, ⟨rfl, c8 (by omega) _ _⟩, ?_⟩ | fail)
    all_goals try (conv => whnf)
    all_goals try simp only [decide_eq_true_eq, decide_eq_false_iff_not, beq_iff_eq, beq_eq_false_iff_ne, Bool.not_eq_true', Bool.not_eq_false', Int.not_lt, Int.not_le, ge_iff_le, gt_iff_lt, ne_eq, bne_iff_ne, bne_eq_false_iff_eq, Sl.take_list, List.length_cons, reduceCtorEq] at *
    all_goals first
      | (exfalso; contradiction)
      | exact ⟨by simp only [packR, printS, if_neg hp], rfl⟩
  have hp : planE p = 0 := by omega
  have hv := valid_of hp
  have hql := hv.ql
  have hml := hv.ml
  have hal := hv.al
  repeat' (conv => whnf
           first | refine ⟨_, rfl, ?_⟩ | refine Br.mk (fun _ => ?_) (fun _ => ?_) | refine ⟨_, _, .inl ⟨rfl, ?_⟩⟩ | refine ⟨_, _, ⟨rfl, c8 (by omega) _ _⟩, ?_⟩ | refine ⟨_, alenSl_av _ _, ?_⟩ | fail)
  all_goals try (conv => whnf)
  all_goals try simp only [decide_eq_true_eq, decide_eq_false_iff_not, beq_iff_eq, beq_eq_false_iff_ne, Bool.not_eq_true', Bool.not_eq_false', Int.not_lt, Int.not_le, ge_iff_le, gt_iff_lt, ne_eq, bne_iff_ne, bne_eq_false_iff_eq, Sl.take_list, List.length_cons, reduceCtorEq] at *
  case refine_1 => exfalso; contradiction
  refine loopP_inv (fun j fr H' df => ∃ (i : Int) (st : BSt) (m : Nat), fr = [(1, .imm p.row 0), (5, .ptr k 0 0), (6, .fn 19 [.ptr k 0 0]), (22, p.qs.av Q.row), (23, .int .i64 (p.qs.list.length : Nat)), (24, .int .i64 i)] ∧ H' = ⟨m, bl k st⟩ ∧ df = [] ∧ i = (j : Int) ∧ okB m k st ∧ (txt st).length ≤ 4000 * j ∧ txt st = flat qText (p.qs.list.take j)) p.qs.list.length ?_ p.qs.list.length (Nat.zero_add _) ⟨_, none, k + 1, rfl, rfl, rfl, rfl, Nat.lt_succ_self k, by simp [txt], rfl⟩ (by omega)
  rintro j hj fr H' df ⟨i, st, m, rfl, rfl, rfl, rfl, hb, hl, hs⟩ kn hk
  by_cases hlt : j < p.qs.list.length
  · have qv := hv.q j hlt
    have hgl := qv.len
    have e1 := qv.name
    have e2 := itl qv.lo
    have e3 := itl qv.hi
    have e4 := itl qv.rise
    have e5 := itl qv.fall
    have e6 := itl qv.bad
    obtain ⟨r, m2, hb2, he2⟩ := c19 (n := n) (by omega) (okB_up hb) [[113,117,97,110,116,105,116,121], (p.qs.list[j]).name] (.some 5 [(p.qs.list[j]).lo, (p.qs.list[j]).hi, (p.qs.list[j]).rise, (p.qs.list[j]).fall, (p.qs.list[j]).bad]) (by simp) (by simp [slS]) (fun i hi => by
      simp only [slS, List.length_cons, List.length_nil] at hi
      match i, hi with
      | 0, _ => exact qv.lo
      | 1, _ => exact qv.hi
      | 2, _ => exact qv.rise
      | 3, _ => exact qv.fall
      | 4, _ => exact qv.bad) (by simp [slS, Lib.join, List.intercalate]; omega) (by omega) (H0 := ⟨m + 1, bl k st⟩) (by simp [exB])
    have hq : line ([[113,117,97,110,116,105,116,121], (p.qs.list[j]).name] ++ (Sl.some 5 [(p.qs.list[j]).lo, (p.qs.list[j]).hi, (p.qs.list[j]).rise, (p.qs.list[j]).fall, (p.qs.list[j]).bad]).list.map Lib.itoa) = qLine p.qs.list[j] := rfl
    rw [hq] at hb2 he2
    have hlq : (qLine p.qs.list[j]).length ≤ 300 := by
      simp [qLine, line, Lib.join, List.intercalate]; omega
    try simp only [codeP, opsP, drawP]
    repeat' (conv => whnf
             first | refine ⟨_, _, .inr ⟨st_ok (fresh_bl hb) rfl rfl rfl rfl (cellQ _), rfl, ?_⟩⟩ | refine ⟨_, _, frz_ok (fresh_bl hb) rfl, ?_⟩ | refine ⟨_, rfl, ?_⟩ | refine Br.mk (fun _ => ?_) (fun _ => ?_) | refine ⟨_, _, .inl ⟨rfl, ?_⟩⟩ | refine ⟨_, alenSl_av _ _, ?_⟩ | refine ⟨_, iad_av (f := Q.row) (m := 7) (fun _ => rfl) _ _ _ hlt, ?_⟩ | refine ⟨_, _, ⟨rfl, he2⟩, ?_⟩ | fail)
    all_goals try (conv => whnf)
    all_goals try (exfalso; have := of_decide_eq_false ‹decide ((j : Int) < _) = false›; omega)
    refine loopP_inv (fun a fr H2 df => ∃ (i : Int) (st2 : BSt) (m3 : Nat), fr = [(1, .imm p.row 0), (5, .ptr k 0 0), (6, .fn 19 [.ptr k 0 0]), (22, p.qs.av Q.row), (23, .int .i64 (p.qs.list.length : Nat)), (24, .int .i64 j), (47, (p.qs.list[j]).gs.av G.row), (48, .int .i64 ((p.qs.list[j]).gs.list.length : Nat)), (49, .int .i64 i)] ∧ H2 = ⟨m3, bl k st2⟩ ∧ df = [] ∧ i = (a : Int) ∧ okB m3 k st2 ∧ (txt st2).length ≤ 4000 * j + 300 + 300 * a ∧ txt st2 = txt st ++ qLine p.qs.list[j] ++ flat gLine ((p.qs.list[j]).gs.list.take a)) (p.qs.list[j]).gs.list.length ?_ (p.qs.list[j]).gs.list.length (Nat.zero_add _) ⟨_, some (r, txt st ++ qLine p.qs.list[j]), m2, rfl, rfl, rfl, rfl, hb2, by simp only [txtS, List.length_append]; omega, (List.append_nil _).symm⟩ (by omega)
    rintro a ha fr H2 df ⟨i, st2, m3, rfl, rfl, rfl, rfl, hb3, hl3, hs3⟩ kn2 hk2
    by_cases hlt2 : a < (p.qs.list[j]).gs.list.length
    · have gv := qv.gs a hlt2
      have f1 := gv.name
      have f2 := itl gv.acc
      have f3 := itl gv.drift
      have f4 := itl gv.since
      obtain ⟨r4, m4, hb4, he4⟩ := c19 (n := n) (by omega) (okB_up hb3) [[103,97,117,103,101], ((p.qs.list[j]).gs.list[a]).name] (.some 3 [((p.qs.list[j]).gs.list[a]).acc, ((p.qs.list[j]).gs.list[a]).drift, ((p.qs.list[j]).gs.list[a]).since]) (by simp) (by simp [slS]) (fun i hi => by
        simp only [slS, List.length_cons, List.length_nil] at hi
        match i, hi with
        | 0, _ => exact gv.acc
        | 1, _ => exact gv.drift
        | 2, _ => exact gv.since) (by simp [slS, Lib.join, List.intercalate]; omega) (by omega) (H0 := ⟨m3 + 1, bl k st2⟩) (by simp [exB])
      have hq4 : line ([[103,97,117,103,101], ((p.qs.list[j]).gs.list[a]).name] ++ (Sl.some 3 [((p.qs.list[j]).gs.list[a]).acc, ((p.qs.list[j]).gs.list[a]).drift, ((p.qs.list[j]).gs.list[a]).since]).list.map Lib.itoa) = gLine (p.qs.list[j]).gs.list[a] := rfl
      rw [hq4] at hb4 he4
      have hlg : (gLine (p.qs.list[j]).gs.list[a]).length ≤ 300 := by
        simp [gLine, line, Lib.join, List.intercalate]; omega
      try simp only [codeP, opsP, drawP]
      repeat' (conv => whnf
               first | refine ⟨_, _, .inr ⟨st_ok (fresh_bl hb3) rfl rfl rfl rfl rfl, rfl, ?_⟩⟩ | refine ⟨_, _, frz_ok (fresh_bl hb3) rfl, ?_⟩ | refine ⟨_, rfl, ?_⟩ | refine Br.mk (fun _ => ?_) (fun _ => ?_) | refine ⟨_, _, .inl ⟨rfl, ?_⟩⟩ | refine ⟨_, iad_av (f := G.row) (m := 4) (fun _ => rfl) _ _ _ hlt2, ?_⟩ | refine ⟨_, _, ⟨rfl, he4⟩, ?_⟩ | fail)
      all_goals try (conv => whnf)
      all_goals try (exfalso; have := of_decide_eq_false ‹decide ((a : Int) < _) = false›; omega)
      refine hk2 hlt2 _ _ _ ⟨_, some (r4, txt st2 ++ gLine (p.qs.list[j]).gs.list[a]), m4, rfl, rfl, rfl, w1 (by omega), hb4, by simp only [txtS, List.length_append]; omega, ?_⟩
      rw [flat_step hlt2]
      simp only [txtS, hs3, List.append_assoc]
    · skip
      try simp only [codeP, opsP, drawP]
      repeat' (conv => whnf
               first | refine ⟨_, rfl, ?_⟩ | refine Br.mk (fun _ => ?_) (fun _ => ?_) | refine ⟨_, _, .inl ⟨rfl, ?_⟩⟩ | fail)
      all_goals try (conv => whnf)
      all_goals try (exfalso; have := of_decide_eq_true ‹decide ((a : Int) < _) = true›; omega)
      refine hk hlt _ _ _ ⟨_, st2, m3, rfl, rfl, rfl, w1 (by omega), hb3, by omega, ?_⟩
      rw [flat_step hlt, hs3, hs, List.take_of_length_le (l := (p.qs.list[j]).gs.list) (i := a) (by omega), qText, List.append_assoc]
  · skip
    try simp only [codeP, opsP, drawP]
    repeat' (conv => whnf
             first | refine ⟨_, rfl, ?_⟩ | refine Br.mk (fun _ => ?_) (fun _ => ?_) | refine ⟨_, _, .inl ⟨rfl, ?_⟩⟩ | refine ⟨_, alenSl_av _ _, ?_⟩ | fail)
    all_goals try (conv => whnf)
    all_goals try (exfalso; have := of_decide_eq_true ‹decide ((j : Int) < _) = true›; omega)
    rw [List.take_of_length_le (by omega)] at hs
    have hl' : (txt st).length ≤ 64000 := by omega
    refine loopP_inv (fun j fr H' df => ∃ (i : Int) (st2 : BSt) (m : Nat), fr = [(1, .imm p.row 0), (5, .ptr k 0 0), (6, .fn 19 [.ptr k 0 0]), (68, p.ms.av M.row), (69, .int .i64 (p.ms.list.length : Nat)), (70, .int .i64 i)] ∧ H' = ⟨m, bl k st2⟩ ∧ df = [] ∧ i = (j : Int) ∧ okB m k st2 ∧ (txt st2).length ≤ 64000 + 400 * j ∧ txt st2 = txt st ++ flat mLine (p.ms.list.take j)) p.ms.list.length ?_ p.ms.list.length (Nat.zero_add _) ⟨_, st, m, rfl, rfl, rfl, rfl, hb, by omega, (List.append_nil _).symm⟩ (by omega)
    rintro a ha fr H2 df ⟨i, st2, m2, rfl, rfl, rfl, rfl, hb2, hl2, hs2⟩ kn2 hk2
    by_cases hlt2 : a < p.ms.list.length
    · have mv := hv.m a hlt2
      have f1 := mv.name
      have f0 := mv.crew
      have f2 := itl mv.rank
      have f3 := itl mv.lag
      have f4 := itl mv.takes
      obtain ⟨r4, m4, hb4, he4⟩ := c19 (n := n) (by omega) (okB_up hb2) [[109,101,97,115,117,114,101], (p.ms.list[a]).name, (p.ms.list[a]).crew] (.some 3 [(p.ms.list[a]).rank, (p.ms.list[a]).lag, (p.ms.list[a]).takes]) (by simp) (by simp [slS]) (fun i hi => by
        simp only [slS, List.length_cons, List.length_nil] at hi
        match i, hi with
        | 0, _ => exact mv.rank
        | 1, _ => exact mv.lag
        | 2, _ => exact mv.takes) (by simp [slS, Lib.join, List.intercalate]; omega) (by omega) (H0 := ⟨m2 + 1, bl k st2⟩) (by simp [exB])
      have hq4 : line ([[109,101,97,115,117,114,101], (p.ms.list[a]).name, (p.ms.list[a]).crew] ++ (Sl.some 3 [(p.ms.list[a]).rank, (p.ms.list[a]).lag, (p.ms.list[a]).takes]).list.map Lib.itoa) = mLine p.ms.list[a] := rfl
      rw [hq4] at hb4 he4
      have hlg : (mLine p.ms.list[a]).length ≤ 400 := by
        simp [mLine, line, Lib.join, List.intercalate]; omega
      try simp only [codeP, opsP, drawP]
      repeat' (conv => whnf
               first | refine ⟨_, _, .inr ⟨st_ok (fresh_bl hb2) rfl rfl rfl rfl rfl, rfl, ?_⟩⟩ | refine ⟨_, _, frz_ok (fresh_bl hb2) rfl, ?_⟩ | refine ⟨_, rfl, ?_⟩ | refine Br.mk (fun _ => ?_) (fun _ => ?_) | refine ⟨_, _, .inl ⟨rfl, ?_⟩⟩ | refine ⟨_, iad_av (f := M.row) (m := 5) (fun _ => rfl) _ _ _ hlt2, ?_⟩ | refine ⟨_, _, ⟨rfl, he4⟩, ?_⟩ | fail)
      all_goals try (conv => whnf)
      all_goals try (exfalso; have := of_decide_eq_false ‹decide ((a : Int) < _) = false›; omega)
      refine hk2 hlt2 _ _ _ ⟨_, some (r4, txt st2 ++ mLine p.ms.list[a]), m4, rfl, rfl, rfl, w1 (by omega), hb4, by simp only [txtS, List.length_append]; omega, ?_⟩
      rw [flat_step hlt2]
      simp only [txtS, hs2, List.append_assoc]
    · skip
      try simp only [codeP, opsP, drawP]
      repeat' (conv => whnf
               first | refine ⟨_, rfl, ?_⟩ | refine Br.mk (fun _ => ?_) (fun _ => ?_) | refine ⟨_, _, .inl ⟨rfl, ?_⟩⟩ | refine ⟨_, alenSl_av _ _, ?_⟩ | fail)
      all_goals try (conv => whnf)
      all_goals try (exfalso; have := of_decide_eq_true ‹decide ((a : Int) < _) = true›; omega)
      rw [List.take_of_length_le (by omega)] at hs2
      have hl2' : (txt st2).length ≤ 80000 := by omega
      refine loopP_inv (fun j fr H' df => ∃ (i : Int) (st3 : BSt) (m : Nat), fr = [(1, .imm p.row 0), (5, .ptr k 0 0), (6, .fn 19 [.ptr k 0 0]), (90, p.as.av A.row), (91, .int .i64 (p.as.list.length : Nat)), (92, .int .i64 i)] ∧ H' = ⟨m, bl k st3⟩ ∧ df = [] ∧ i = (j : Int) ∧ okB m k st3 ∧ (txt st3).length ≤ 80000 + 400 * j ∧ txt st3 = txt st2 ++ flat (aLine p) (p.as.list.take j)) p.as.list.length ?_ p.as.list.length (Nat.zero_add _) ⟨_, st2, m2, rfl, rfl, rfl, rfl, hb2, by omega, (List.append_nil _).symm⟩ (by omega)
      rintro b hbb fr H3 df ⟨i, st3, m3, rfl, rfl, rfl, rfl, hb3, hl3, hs3⟩ kn3 hk3
      by_cases hlt3 : b < p.as.list.length
      · have av := hv.a b hlt3
        obtain ⟨qi, hqi⟩ : ∃ qi : Nat, (p.as.list[b]).qu = (qi : Int) := ⟨(p.as.list[b]).qu.toNat, by have := av.qu; omega⟩
        obtain ⟨mi, hmi⟩ : ∃ mi : Nat, (p.as.list[b]).ms = (mi : Int) := ⟨(p.as.list[b]).ms.toNat, by have := av.ms; omega⟩
        have hq1 : qi < p.qs.list.length := by have := av.qu; omega
        have hm1 : mi < p.ms.list.length := by have := av.ms; omega
        have nq := (hv.q qi hq1).name
        have nm := (hv.m mi hm1).name
        have l1 := itl av.lev
        have l2 := itl av.lim
        have hQ : ∀ (H : AHeap), aindexAddrS H 7 (p.qs.av Q.row) (.int .i64 (p.as.list[b]).qu) = some (.imm (Q.row p.qs.list[qi]) 0) := fun H => by rw [hqi]; exact iad_av (f := Q.row) (fun _ => rfl) _ _ _ hq1
        have hM : ∀ (H : AHeap), aindexAddrS H 5 (p.ms.av M.row) (.int .i64 (p.as.list[b]).ms) = some (.imm (M.row p.ms.list[mi]) 0) := fun H => by rw [hmi]; exact iad_av (f := M.row) (fun _ => rfl) _ _ _ hm1
        have hi1 : ∀ (H : AHeap) {k : Nat}, 1 ≤ k → evalFn S k (.fn 20 []) [.int .i64 (p.as.list[b]).lev] H = some (.ret (.str (Lib.itoa (p.as.list[b]).lev)), H) := fun H k hk => call_ext (g := 20) rfl hk (itoa_ext av.lev H)
        have hi2 : ∀ (H : AHeap) {k : Nat}, 1 ≤ k → evalFn S k (.fn 20 []) [.int .i64 (p.as.list[b]).lim] H = some (.ret (.str (Lib.itoa (p.as.list[b]).lim)), H) := fun H k hk => call_ext (g := 20) rfl hk (itoa_ext av.lim H)
        have hq4 : line ([[97,108,97,114,109], (p.qs.list[qi]).name, Lib.itoa (p.as.list[b]).lev, Lib.itoa (p.as.list[b]).lim, (p.ms.list[mi]).name] ++ (Sl.none : Sl Int).list.map Lib.itoa) = aLine p p.as.list[b] := by
          simp [aLine, slN, hqi, hmi, hq1, hm1]
        have hlg : (aLine p p.as.list[b]).length ≤ 400 := by
          rw [← hq4]
          simp [slN, line, Lib.join, List.intercalate]; omega
        obtain ⟨r4, m4, hb4, he4⟩ := c19 (n := n) (by omega) (okB_up hb3) [[97,108,97,114,109], (p.qs.list[qi]).name, Lib.itoa (p.as.list[b]).lev, Lib.itoa (p.as.list[b]).lim, (p.ms.list[mi]).name] .none (by simp) (by simp [slN]) (fun i hi => by simp [slN] at hi) (by simp [slN, Lib.join, List.intercalate]; omega) (by omega) (H0 := ⟨m3 + 1, bl k st3⟩) (by simp [exB])
        rw [hq4] at hb4 he4
        try simp only [codeP, opsP, drawP]
        repeat' (conv => whnf
                 first | refine ⟨_, _, .inr ⟨st_ok (fresh_bl hb3) rfl rfl rfl rfl rfl, rfl, ?_⟩⟩ | refine ⟨_, _, frz_ok (fresh_bl hb3) rfl, ?_⟩ | refine ⟨_, rfl, ?_⟩ | refine Br.mk (fun _ => ?_) (fun _ => ?_) | refine ⟨_, _, .inl ⟨rfl, ?_⟩⟩ | refine ⟨_, iad_av (f := A.row) (m := 4) (fun _ => rfl) _ _ _ hlt3, ?_⟩ | refine ⟨_, iadE rfl rfl (hQ _), ?_⟩ | refine ⟨_, iadE rfl rfl (hM _), ?_⟩ | refine ⟨_, _, ⟨rfl, hi1 _ (by omega)⟩, ?_⟩ | refine ⟨_, _, ⟨rfl, hi2 _ (by omega)⟩, ?_⟩ | refine ⟨_, _, ⟨rfl, he4⟩, ?_⟩ | fail)
        all_goals try (conv => whnf)
        all_goals try (exfalso; have := of_decide_eq_false ‹decide ((b : Int) < _) = false›; omega)
        refine hk3 hlt3 _ _ _ ⟨_, some (r4, txt st3 ++ aLine p p.as.list[b]), m4, rfl, rfl, rfl, w1 (by omega), hb4, by simp only [txtS, List.length_append]; omega, ?_⟩
        rw [flat_step hlt3]
        simp only [txtS, hs3, List.append_assoc]
      · have ht3 : txt st3 = textP p := by
          rw [hs3, hs2, hs, List.take_of_length_le (by omega), textP]
        try simp only [codeP, opsP, drawP]
        repeat' (conv => whnf
                 first | refine ⟨_, rfl, ?_⟩ | refine Br.mk (fun _ => ?_) (fun _ => ?_) | refine ⟨_, _, .inl ⟨rfl, ?_⟩⟩ | refine ⟨_, _, ⟨rfl, call_ext (g := 23) rfl (by omega) (get_ok hb3).1⟩, ?_⟩ | refine ⟨_, _, ⟨rfl, call_ext (g := 24) rfl (by omega) (get_ok hb3).2⟩, ?_⟩ | fail)
        all_goals try (conv => whnf)
        all_goals try (exfalso; have := of_decide_eq_true ‹decide ((b : Int) < _) = true›; omega)
        all_goals try simp only [decide_eq_true_eq, decide_eq_false_iff_not, beq_iff_eq, beq_eq_false_iff_ne, Bool.not_eq_true', Bool.not_eq_false', Int.not_lt, Int.not_le, ge_iff_le, gt_iff_lt, ne_eq, bne_iff_ne, bne_eq_false_iff_eq, Sl.take_list, List.length_cons, reduceCtorEq] at *
        all_goals first
          | exact ⟨by simp only [packR, printS, if_pos hp]; rw [if_pos (by rw [← ht3]; omega)], drop_bl hb3 _ _ _⟩
          | exact ⟨by simp only [packR, printS, if_pos hp]; rw [if_neg (by rw [← ht3]; omega), ht3], drop_bl hb3 _ _ _⟩
end Go.AM.Wc
