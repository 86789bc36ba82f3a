/- The specification's Same; how great a plan is. -/
import Derived.Test.YtgmmalddlpmjdaaGreatDoorWcI
set_option linter.unusedVariables false
set_option linter.unusedSimpArgs false
namespace Go.AM.Wc
open Go Go.AM
set_option maxHeartbeats 16000000 in
set_option maxRecDepth 100000 in
theorem c11 {n : Nat} (hn : 230 ≤ n) (p o : P) (hp : p.small) (H : AHeap) : evalFn S n (.fn 11 []) [.agg p.row, .agg o.row] H = some (.ret (.bool (sameP p o)), H) := by
  obtain ⟨n, rfl⟩ : ∃ m, n = m + 1 := ⟨n - 1, by omega⟩
  refine fn_ret (S := S) (sf := sf11) rfl (S_fn rfl) rfl ?_
  simp only [sf11, codeP, opsP, drawP]
  repeat' (conv => whnf
           first | refine ⟨_, rfl, ?_⟩ | refine Br.mk (fun _ => ?_) (fun _ => ?_) | refine ⟨_, _, .inl ⟨rfl, ?_⟩⟩ | refine ⟨_, alenSl_av _ _, ?_⟩ | fail)
  all_goals try (conv => whnf)
  all_goals try simp only [Bool.not_eq_true', Bool.not_eq_false', bne_eq_false_iff_eq, bne_iff_ne, ne_eq] at *
  all_goals try first
    | (refine ⟨congrArg (fun x => FR.ret (.bool x)) ?_, rfl⟩; have e : sameL sameQ p.qs.list o.qs.list = false := sameL_len (by omega)
       simp [sameP, e]; done)
    | (refine ⟨congrArg (fun x => FR.ret (.bool x)) ?_, rfl⟩; have e : sameL sameM p.ms.list o.ms.list = false := sameL_len (by omega)
       simp [sameP, e]; done)
    | (refine ⟨congrArg (fun x => FR.ret (.bool x)) ?_, rfl⟩; have e : sameL sameA p.as.list o.as.list = false := sameL_len (by omega)
       simp [sameP, e]; done)
  have lq : o.qs.list.length = p.qs.list.length := by omega
  have lm : o.ms.list.length = p.ms.list.length := by omega
  have la : o.as.list.length = p.as.list.length := by omega
  have hq := hp.q
  have hm := hp.m
  have ha := hp.a
  refine loopP_inv (fun j fr H' df => ∃ (i : Int), fr = [(2, .imm p.row 0), (3, .imm o.row 0), (5, .int .i64 i)] ∧ H' = H ∧ df = [] ∧ i = (j : Int) ∧ sameL sameQ p.qs.list o.qs.list = sameL sameQ (p.qs.list.drop j) (o.qs.list.drop j)) p.qs.list.length ?_ p.qs.list.length (Nat.zero_add _) ⟨_, rfl, rfl, rfl, rfl, rfl⟩ (by omega)
  rintro j hj fr H' df ⟨i, rfl, rfl, rfl, rfl, hall⟩ kn hk
  try simp only [codeP, opsP, drawP]
  repeat' (conv => whnf
           first | refine ⟨_, rfl, ?_⟩ | refine Br.mk (fun _ => ?_) (fun _ => ?_) | refine ⟨_, _, .inl ⟨rfl, ?_⟩⟩ | refine ⟨_, alenSl_av _ _, ?_⟩ | refine ⟨_, iadI (f := Q.row) (fun _ => rfl) rfl rfl (by have := lt_of ‹decide ((j : Int) < _) = true›; omega), ?_⟩ | refine ⟨_, _, ⟨rfl, c41 (by omega) _ _ (hp.g j (lt_of ‹_›)) _⟩, ?_⟩ | fail)
  all_goals try (conv => whnf)
  all_goals first | (have hlt := lt_of ‹decide ((j : Int) < _) = true›) | (have hge := ge_of ‹decide ((j : Int) < _) = false›) | skip
  all_goals try first
    | exact hk hlt _ _ _ ⟨_, rfl, rfl, rfl, w1 (by omega), sameL_go hlt (by omega) hall (by assumption)⟩
    | (refine ⟨congrArg (fun x => FR.ret (.bool x)) ?_, rfl⟩; rw [sameP, sameL_bad hlt (by omega) hall (by assumption)]; rfl)
  have e1 : sameL sameQ p.qs.list o.qs.list = true := sameL_end hge (by omega) hall
  clear hk hall hge hj
  refine loopP_inv (fun j fr H2 df => ∃ (i : Int), fr = [(2, .imm p.row 0), (3, .imm o.row 0), (6, .int .i64 i)] ∧ H2 = H' ∧ df = [] ∧ i = (j : Int) ∧ sameL sameM p.ms.list o.ms.list = sameL sameM (p.ms.list.drop j) (o.ms.list.drop j)) p.ms.list.length ?_ p.ms.list.length (Nat.zero_add _) ⟨_, rfl, rfl, rfl, rfl, rfl⟩ (by omega)
  rintro a ha2 fr H2 df ⟨i, rfl, rfl, rfl, rfl, hall⟩ kn2 hk2
  try simp only [codeP, opsP, drawP]
  repeat' (conv => whnf
           first | refine ⟨_, eqM _ _, ?_⟩ | refine ⟨_, rfl, ?_⟩ | refine Br.mk (fun _ => ?_) (fun _ => ?_) | refine ⟨_, _, .inl ⟨rfl, ?_⟩⟩ | refine ⟨_, alenSl_av _ _, ?_⟩ | refine ⟨_, iadI (f := M.row) (fun _ => rfl) rfl rfl (by have := lt_of ‹decide ((a : Int) < _) = true›; omega), ?_⟩ | fail)
  all_goals try (conv => whnf)
  all_goals first | (have hlt := lt_of ‹decide ((a : Int) < _) = true›) | (have hge := ge_of ‹decide ((a : Int) < _) = false›) | skip
  all_goals try simp only [Bool.not_eq_true', Bool.not_eq_false'] at *
  all_goals try first
    | exact hk2 hlt _ _ _ ⟨_, rfl, rfl, rfl, w1 (by omega), sameL_go hlt (by omega) hall (by assumption)⟩
    | (refine ⟨congrArg (fun x => FR.ret (.bool x)) ?_, rfl⟩; rw [sameP, e1, sameL_bad hlt (by omega) hall (by assumption)]; rfl)
  have e2 : sameL sameM p.ms.list o.ms.list = true := sameL_end hge (by omega) hall
  clear hk2 hall hge ha2
  refine loopP_inv (fun j fr H3 df => ∃ (i : Int), fr = [(2, .imm p.row 0), (3, .imm o.row 0), (7, .int .i64 i)] ∧ H3 = H2 ∧ df = [] ∧ i = (j : Int) ∧ sameL sameA p.as.list o.as.list = sameL sameA (p.as.list.drop j) (o.as.list.drop j)) p.as.list.length ?_ p.as.list.length (Nat.zero_add _) ⟨_, rfl, rfl, rfl, rfl, rfl⟩ (by omega)
  rintro b hb fr H3 df ⟨i, rfl, rfl, rfl, rfl, hall⟩ kn3 hk3
  try simp only [codeP, opsP, drawP]
  repeat' (conv => whnf
           first | refine ⟨_, eqA _ _, ?_⟩ | refine ⟨_, rfl, ?_⟩ | refine Br.mk (fun _ => ?_) (fun _ => ?_) | refine ⟨_, _, .inl ⟨rfl, ?_⟩⟩ | refine ⟨_, alenSl_av _ _, ?_⟩ | refine ⟨_, iadI (f := A.row) (fun _ => rfl) rfl rfl (by have := lt_of ‹decide ((b : Int) < _) = true›; omega), ?_⟩ | fail)
  all_goals try (conv => whnf)
  all_goals first | (have hlt := lt_of ‹decide ((b : Int) < _) = true›) | (have hge := ge_of ‹decide ((b : Int) < _) = false›) | skip
  all_goals try simp only [Bool.not_eq_true', Bool.not_eq_false'] at *
  all_goals first
    | exact hk3 hlt _ _ _ ⟨_, rfl, rfl, rfl, w1 (by omega), sameL_go hlt (by omega) hall (by assumption)⟩
    | (refine ⟨congrArg (fun x => FR.ret (.bool x)) ?_, rfl⟩; rw [sameP, e1, e2, sameL_bad hlt (by omega) hall (by assumption)]; rfl)
    | (refine ⟨congrArg (fun x => FR.ret (.bool x)) ?_, rfl⟩; rw [sameP, e1, e2, sameL_end hge (by omega) hall]; rfl)

def vq : List Q → Int → Int
  | [], n => n
  | q :: r, n => if n < 100 then vq r (n + q.gs.list.length + (q.name.length : Int).tdiv 10) else n
def vm : List M → Int → Int
  | [], n => n
  | m :: r, n => if n < 100 then vm r (n + ((m.name.length : Int) + m.crew.length).tdiv 10) else n
def vastS (p : P) : Bool := decide (vm p.ms.list (vq p.qs.list (p.qs.list.length + p.ms.list.length + p.as.list.length)) > 60)
/-- No list is longer than any machine has room for. -/
structure P.fits (p : P) : Prop where
  q : p.qs.list.length ≤ 1152921504606846976
  m : p.ms.list.length ≤ 1152921504606846976
  a : p.as.list.length ≤ 1152921504606846976
  qg : ∀ (i : Nat) (h : i < p.qs.list.length), (p.qs.list[i]).gs.list.length ≤ 1152921504606846976 ∧ (p.qs.list[i]).name.length ≤ 1152921504606846976
  mn : ∀ (i : Nat) (h : i < p.ms.list.length), (p.ms.list[i]).name.length ≤ 1152921504606846976 ∧ (p.ms.list[i]).crew.length ≤ 1152921504606846976
theorem vq_stop {l : List Q} {n : Int} (h : ¬ n < 100) : vq l n = n := by cases l <;> simp [vq, h]
theorem vm_stop {l : List M} {n : Int} (h : ¬ n < 100) : vm l n = n := by cases l <;> simp [vm, h]
theorem vq_step {l : List Q} {j : Nat} {n : Int} (hj : j < l.length) (h : n < 100) : vq (l.drop j) n = vq (l.drop (j + 1)) (n + l[j].gs.list.length + (l[j].name.length : Int).tdiv 10) := by
  rw [List.drop_eq_getElem_cons hj, vq, if_pos h]
theorem vm_step {l : List M} {j : Nat} {n : Int} (hj : j < l.length) (h : n < 100) : vm (l.drop j) n = vm (l.drop (j + 1)) (n + ((l[j].name.length : Int) + l[j].crew.length).tdiv 10) := by
  rw [List.drop_eq_getElem_cons hj, vm, if_pos h]
theorem tdiv_le {a : Nat} : 0 ≤ (a : Int).tdiv 10 ∧ (a : Int).tdiv 10 ≤ a := by
  rw [Int.tdiv_eq_ediv_of_nonneg (by omega)]
  omega
set_option maxHeartbeats 16000000 in
set_option maxRecDepth 100000 in
theorem c4 {n : Nat} (hn : 230 ≤ n) (p : P) (hf : p.fits) (H : AHeap) : evalFn S n (.fn 4 []) [.agg p.row] H = some (.ret (.bool (vastS p)), H) := by
  have hq := hf.q
  have hm := hf.m
  have ha := hf.a
  obtain ⟨n, rfl⟩ : ∃ m, n = m + 1 := ⟨n - 1, by omega⟩
  refine fn_ret (S := S) (sf := sf4) rfl (S_fn rfl) rfl ?_
  simp only [sf4, codeP, opsP, drawP]
  repeat' (conv => whnf
           first | refine ⟨_, rfl, ?_⟩ | refine Br.mk (fun _ => ?_) (fun _ => ?_) | refine ⟨_, _, .inl ⟨rfl, ?_⟩⟩ | refine ⟨_, alenSl_av _ _, ?_⟩ | fail)
  all_goals try (conv => whnf)
  have ew : IntKind.wrap .i64 (IntKind.wrap .i64 ((p.qs.list.length : Int) + p.ms.list.length) + p.as.list.length) = (p.qs.list.length : Int) + p.ms.list.length + p.as.list.length := by
    rw [IntWalk.i64_in ((p.qs.list.length : Int) + p.ms.list.length) (by omega), IntWalk.i64_in _ (by omega)]
  generalize hn0 : (p.qs.list.length : Int) + p.ms.list.length + p.as.list.length = n0 at ew
  refine loopP_inv (fun j fr H' df => ∃ (i x : Int), fr = [(1, .imm p.row 0), (3, .int .i64 x), (4, .int .i64 i)] ∧ H' = H ∧ df = [] ∧ i = (j : Int) ∧ n0 ≤ x ∧ x ≤ 4611686018427387904 ∧ vq p.qs.list n0 = vq (p.qs.list.drop j) x) (if n0 < 100 then p.qs.list.length else 0) ?_ (if n0 < 100 then p.qs.list.length else 0) (Nat.zero_add _) ⟨_, _, rfl, rfl, rfl, rfl, by omega, by omega, by rw [List.drop_zero, ew]⟩ (by split <;> omega)
  rintro j hj fr H' df ⟨i, x, rfl, rfl, rfl, rfl, hx1, hx2, hall⟩ kn hk
  try simp only [codeP, opsP, drawP]
  repeat' (conv => whnf
           first | refine ⟨_, rfl, ?_⟩ | refine Br.mk (fun _ => ?_) (fun _ => ?_) | refine ⟨_, _, .inl ⟨rfl, ?_⟩⟩ | refine ⟨_, alenSl_av _ _, ?_⟩ | refine ⟨_, iadI (f := Q.row) (fun _ => rfl) rfl rfl (lt_of ‹_›), ?_⟩ | refine ⟨_, lenI (f := G.row) rfl, ?_⟩ | fail)
  all_goals try (conv => whnf)
  all_goals first | (have hlt := lt_of ‹decide ((j : Int) < _) = true›) | (have hge := ge_of ‹decide ((j : Int) < _) = false›) | skip
  all_goals try simp only [decide_eq_true_eq, decide_eq_false_iff_not, beq_iff_eq, beq_eq_false_iff_ne, Bool.not_eq_true', Bool.not_eq_false', Int.not_lt, Int.not_le, ge_iff_le, gt_iff_lt, ne_eq, bne_iff_ne, bne_eq_false_iff_eq, Sl.take_list, List.length_cons, reduceCtorEq] at *
  case refine_1.refine_1 =>
    have hg := (hf.qg j hlt).1
    have hs := (hf.qg j hlt).2
    have ht := tdiv_le (a := (p.qs.list[j]).name.length)
    have hN : (if n0 < 100 then p.qs.list.length else 0) = p.qs.list.length := if_pos (by omega)
    have e : IntKind.wrap .i64 (IntKind.wrap .i64 (x + (p.qs.list[j]).gs.list.length) + IntKind.wrap .i64 (((p.qs.list[j]).name.length : Int).tdiv 10)) = x + (p.qs.list[j]).gs.list.length + ((p.qs.list[j]).name.length : Int).tdiv 10 := by
      rw [IntWalk.i64_in (x + (p.qs.list[j]).gs.list.length) (by omega), IntWalk.i64_in (((p.qs.list[j]).name.length : Int).tdiv 10) (by omega), IntWalk.i64_in _ (by omega)]
    refine hk (by omega) _ _ _ ⟨_, _, rfl, rfl, rfl, w1 (by omega), ?_, ?_, ?_⟩
    · show n0 ≤ _
      rw [e]; omega
    · rw [e]; omega
    · rw [e, hall, vq_step hlt (by omega)]
  case' refine_1.refine_2 => have hv : vq p.qs.list n0 = x := by rw [hall, vq_stop (by omega)]
  case' refine_2 => have hv : vq p.qs.list n0 = x := by rw [hall, List.drop_of_length_le hge, vq]
  all_goals
    clear hk hall hj
    refine loopP_inv (fun j fr H2 df => ∃ (i y : Int), fr = [(1, .imm p.row 0), (3, .int .i64 y), (5, .int .i64 i)] ∧ H2 = H' ∧ df = [] ∧ i = (j : Int) ∧ x ≤ y ∧ y ≤ 4611686018427387904 ∧ vm p.ms.list x = vm (p.ms.list.drop j) y) (if x < 100 then p.ms.list.length else 0) ?_ (if x < 100 then p.ms.list.length else 0) (Nat.zero_add _) ⟨_, _, rfl, rfl, rfl, rfl, by omega, by omega, by rw [List.drop_zero]⟩ (by split <;> omega)
    rintro a ha2 fr H2 df ⟨i, y, rfl, rfl, rfl, rfl, hy1, hy2, hall⟩ kn2 hk2
    try simp only [codeP, opsP, drawP]
    repeat' (conv => whnf
             first | refine ⟨_, rfl, ?_⟩ | refine Br.mk (fun _ => ?_) (fun _ => ?_) | refine ⟨_, _, .inl ⟨rfl, ?_⟩⟩ | refine ⟨_, alenSl_av _ _, ?_⟩ | refine ⟨_, iadI (f := M.row) (fun _ => rfl) rfl rfl (lt_of ‹_›), ?_⟩ | fail)
    all_goals try (conv => whnf)
    all_goals first | (have hlt2 := lt_of ‹decide ((a : Int) < _) = true›) | (have hge2 := ge_of ‹decide ((a : Int) < _) = false›) | skip
    all_goals try simp only [decide_eq_true_eq, decide_eq_false_iff_not, beq_iff_eq, beq_eq_false_iff_ne, Bool.not_eq_true', Bool.not_eq_false', Int.not_lt, Int.not_le, ge_iff_le, gt_iff_lt, ne_eq, bne_iff_ne, bne_eq_false_iff_eq, Sl.take_list, List.length_cons, reduceCtorEq] at *
    all_goals first
      | (have hs := hf.mn a hlt2
         have ht := tdiv_le (a := (p.ms.list[a]).name.length + (p.ms.list[a]).crew.length)
         rw [Int.natCast_add] at ht
         have hN : (if x < 100 then p.ms.list.length else 0) = p.ms.list.length := if_pos (by omega)
         have e : IntKind.wrap .i64 (y + IntKind.wrap .i64 ((IntKind.wrap .i64 (((p.ms.list[a]).name.length : Int) + (p.ms.list[a]).crew.length)).tdiv 10)) = y + (((p.ms.list[a]).name.length : Int) + (p.ms.list[a]).crew.length).tdiv 10 := by
           rw [IntWalk.i64_in (((p.ms.list[a]).name.length : Int) + (p.ms.list[a]).crew.length) (by omega), IntWalk.i64_in ((((p.ms.list[a]).name.length : Int) + (p.ms.list[a]).crew.length).tdiv 10) (by omega), IntWalk.i64_in _ (by omega)]
         exact hk2 (by omega) _ _ _ ⟨_, _, rfl, rfl, rfl, w1 (by omega), by rw [e]; omega, by rw [e]; omega, by rw [e, hall, vm_step hlt2 (by omega)]⟩)
      | (refine ⟨congrArg (fun x => FR.ret (.bool x)) ?_, rfl⟩
         rw [vastS, hn0, hv, hall, List.drop_of_length_le hge2, vm]
         simp; omega)
      | (refine ⟨congrArg (fun x => FR.ret (.bool x)) ?_, rfl⟩
         rw [vastS, hn0, hv, hall, vm_stop (by omega)]
         simp; omega)
end Go.AM.Wc
