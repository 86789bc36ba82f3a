/- The text of a plan by the specification. -/
import Derived.Test.YtgmmalddlpmjdaaGreatDoorWcK
set_option linter.unusedVariables false
set_option linter.unusedSimpArgs false
namespace Go.AM.Wc
open Go Go.AM
/-! ### What a valid plan is like -/
theorem errL_all {α : Type} {e : List α → α → Int} : ∀ {l seen : List α}, errL e seen l = 0 → ∀ (j : Nat) (h : j < l.length), ∃ s, e s l[j] = 0
  | [], _, _, j, h => by simp at h
  | x :: r, seen, h0, j, h => by
    rw [errL] at h0
    split at h0
    · rename_i hx
      cases j with
      | zero => exact ⟨seen, hx⟩
      | succ j => exact errL_all h0 j (by simpa using h)
    · rename_i hx
      exact absurd h0 hx
structure GV (g : G) : Prop where
  name : g.name.length ≤ 16
  acc : -1000000000 ≤ g.acc ∧ g.acc ≤ 1000000000
  drift : -1000000000 ≤ g.drift ∧ g.drift ≤ 1000000000
  since : -1000000000 ≤ g.since ∧ g.since ≤ 1000000000
structure QV (q : Q) : Prop where
  name : q.name.length ≤ 16
  lo : -1000000000 ≤ q.lo ∧ q.lo ≤ 1000000000
  hi : -1000000000 ≤ q.hi ∧ q.hi ≤ 1000000000
  rise : -1000000000 ≤ q.rise ∧ q.rise ≤ 1000000000
  fall : -1000000000 ≤ q.fall ∧ q.fall ≤ 1000000000
  bad : -1000000000 ≤ q.bad ∧ q.bad ≤ 1000000000
  len : q.gs.list.length ≤ 8
  gs : ∀ (i : Nat) (h : i < q.gs.list.length), GV q.gs.list[i]
structure MV (m : M) : Prop where
  name : m.name.length ≤ 16
  crew : m.crew.length ≤ 16
  rank : -1000000000 ≤ m.rank ∧ m.rank ≤ 1000000000
  lag : -1000000000 ≤ m.lag ∧ m.lag ≤ 1000000000
  takes : -1000000000 ≤ m.takes ∧ m.takes ≤ 1000000000
structure AVd (nq nm : Nat) (a : A) : Prop where
  qu : 0 ≤ a.qu ∧ a.qu < nq
  ms : 0 ≤ a.ms ∧ a.ms < nm
  lev : -1000000000 ≤ a.lev ∧ a.lev ≤ 1000000000
  lim : -1000000000 ≤ a.lim ∧ a.lim ≤ 1000000000
theorem name_len {s : List UInt8} (h : nameOK s = true) : s.length ≤ 16 := by
  cases s with
  | nil => simp
  | cons c r =>
    simp only [nameOK, Bool.and_eq_true, decide_eq_true_eq] at h
    exact h.1.1
theorem gV {seen : List G} {g : G} (h : gE seen g = 0) : GV g := by
  unfold gE at h
  split at h
  · cases h
  · rename_i h1
    split at h
    · cases h
    · unfold gaugeE at h
      split at h
      · rename_i h2
        simp only [within, Bool.and_eq_true, decide_eq_true_eq] at h2
        exact ⟨name_len (by simpa using h1), by omega, by omega, by omega⟩
      · cases h
theorem qV {seen : List Q} {q : Q} (h : qE seen q = 0) : QV q := by
  unfold qE at h
  split at h
  · cases h
  · rename_i h1
    split at h
    · cases h
    · unfold qSelf at h
      split at h
      · rename_i hq
        unfold qNums at hq
        split at hq
        · cases hq
        · split at hq
          · cases hq
          · split at hq
            · cases hq
            · split at hq
              · cases hq
              · rename_i a b c d
                simp only [within, Bool.not_eq_false, Bool.and_eq_true, decide_eq_true_eq] at a b d
                exact ⟨name_len (by simpa using h1), by omega, by omega, by omega, by omega, by omega, by omega, fun i hi => by
                  obtain ⟨s, hs⟩ := errL_all h i hi
                  exact gV hs⟩
      · rename_i hq
        exact absurd h hq
theorem mV {seen : List M} {m : M} (h : mE seen m = 0) : MV m := by
  unfold mE at h
  split at h
  · cases h
  · rename_i h1
    split at h
    · cases h
    · split at h
      · cases h
      · rename_i h2
        simp only [Bool.not_eq_false, Bool.and_eq_true] at h1
        simp only [within, Bool.not_eq_false, Bool.and_eq_true, decide_eq_true_eq] at h2
        exact ⟨name_len h1.1, name_len h1.2, by omega, by omega, by omega⟩
theorem aV {nq nm : Nat} {seen : List A} {a : A} (h : aE nq nm seen a = 0) : AVd nq nm a := by
  unfold aE at h
  split at h
  · cases h
  · rename_i h1
    split at h
    · cases h
    · rename_i h2
      simp only [within, Bool.not_eq_false, Bool.and_eq_true, decide_eq_true_eq] at h1 h2
      exact ⟨by omega, by omega, by omega, by omega⟩
structure Valid (p : P) : Prop where
  ql : p.qs.list.length ≤ 16
  ml : p.ms.list.length ≤ 16
  al : p.as.list.length ≤ 16
  q : ∀ (j : Nat) (h : j < p.qs.list.length), QV p.qs.list[j]
  m : ∀ (j : Nat) (h : j < p.ms.list.length), MV p.ms.list[j]
  a : ∀ (j : Nat) (h : j < p.as.list.length), AVd p.qs.list.length p.ms.list.length p.as.list[j]
theorem valid_of {p : P} (h : planE p = 0) : Valid p := by
  unfold planE at h
  split at h
  · rename_i hq
    split at h
    · rename_i hm
      have hq' := hq
      have hm' := hm
      unfold qsE at hq'
      unfold msE at hm'
      unfold asE at h
      split at hq'
      · cases hq'
      split at hm'
      · cases hm'
      split at h
      · cases h
      exact ⟨by omega, by omega, by omega, fun j hj => (errL_all hq' j hj).elim fun s k => qV k, fun j hj => (errL_all hm' j hj).elim fun s k => mV k, fun j hj => (errL_all h j hj).elim fun s k => aV k⟩
    · rename_i hm
      exact absurd h hm
  · rename_i hq
    exact absurd h hq

/-! ### Its text -/
def line (ws : List (List UInt8)) : List UInt8 := Lib.join ws [32] ++ [10]
def gLine (g : G) : List UInt8 := line [[103,97,117,103,101], g.name, Lib.itoa g.acc, Lib.itoa g.drift, Lib.itoa g.since]
def qLine (q : Q) : List UInt8 := line [[113,117,97,110,116,105,116,121], q.name, Lib.itoa q.lo, Lib.itoa q.hi, Lib.itoa q.rise, Lib.itoa q.fall, Lib.itoa q.bad]
def mLine (m : M) : List UInt8 := line [[109,101,97,115,117,114,101], m.name, m.crew, Lib.itoa m.rank, Lib.itoa m.lag, Lib.itoa m.takes]
def aLine (p : P) (a : A) : List UInt8 := line [[97,108,97,114,109], (p.qs.list[a.qu.toNat]?.map Q.name).getD [], Lib.itoa a.lev, Lib.itoa a.lim, (p.ms.list[a.ms.toNat]?.map M.name).getD []]
def flat {α : Type} (f : α → List UInt8) (l : List α) : List UInt8 := (l.map f).flatten
def qText (q : Q) : List UInt8 := qLine q ++ flat gLine q.gs.list
def textP (p : P) : List UInt8 := flat qText p.qs.list ++ flat mLine p.ms.list ++ flat (aLine p) p.as.list
theorem flat_step {α : Type} {f : α → List UInt8} {l : List α} {j : Nat} (h : j < l.length) : flat f (l.take (j + 1)) = flat f (l.take j) ++ f l[j] := by
  rw [List.take_add_one, List.getElem?_eq_getElem h]
  simp only [flat, List.map_append, List.flatten_append, Option.toList_some, List.map_cons, List.map_nil, List.flatten_cons, List.flatten_nil, List.append_nil]
theorem itl {n : Int} (h : -1000000000 ≤ n ∧ n ≤ 1000000000) : (Lib.itoa n).length ≤ 21 := Lib.itoa_length_le n (by omega) (by omega)
set_option maxHeartbeats 16000000 in
set_option maxRecDepth 100000 in
theorem c25 {n : Nat} (hn : 230 ≤ n) (p : P) (hv : Valid p) (k : Nat) : evalFn S n (.fn 25 []) [.agg p.row] ⟨k, []⟩ = some (.ret (.str (textP p)), ⟨k, []⟩) := by
  have hql := hv.ql
  have hml := hv.ml
  have hal := hv.al
  obtain ⟨n, rfl⟩ : ∃ m, n = m + 1 := ⟨n - 1, by omega⟩
  refine fn_ret (S := S) (sf := sf25) rfl (S_fn rfl) rfl ?_
  simp only [sf25, codeP, opsP, drawP]
  repeat' (conv => whnf
           first | refine ⟨_, rfl, ?_⟩ | refine Br.mk (fun _ => ?_) (fun _ => ?_) | refine ⟨_, _, .inl ⟨rfl, ?_⟩⟩ | fail)
  all_goals try (conv => whnf)
  refine loopP_inv (fun j fr H' df => ∃ (i : Int) (s : List UInt8) (k' : Nat), fr = [(1, .imm p.row 0), (3, .str s), (4, .int .i64 i)] ∧ H' = ⟨k', []⟩ ∧ df = [] ∧ i = (j : Int) ∧ s.length ≤ 4000 * j ∧ s = flat qText (p.qs.list.take j)) p.qs.list.length ?_ p.qs.list.length (Nat.zero_add _) ⟨_, _, _, rfl, rfl, rfl, rfl, by simp, rfl⟩ (by omega)
  rintro j hj fr H' df ⟨i, s, k', rfl, rfl, rfl, rfl, hl, hs⟩ kn hk
  try simp only [codeP, opsP, drawP]
  repeat' (conv => whnf
           first | refine ⟨_, _, .inr ⟨st_ok (fresh_nil _) rfl rfl rfl rfl (cellQ _), rfl, ?_⟩⟩ | refine ⟨_, _, frz_ok (fresh_nil _) rfl, ?_⟩ | refine ⟨_, strAdd (by have hlt := lt_of ‹decide ((j : Int) < _) = true›; have qv := hv.q j hlt; have := qv.name; have := itl qv.lo; have := itl qv.hi; have := itl qv.rise; have := itl qv.fall; have := itl qv.bad; simp only [List.length_append, List.length_cons, List.length_nil]; omega), ?_⟩ | refine ⟨_, rfl, ?_⟩ | refine Br.mk (fun _ => ?_) (fun _ => ?_) | refine ⟨_, _, .inl ⟨rfl, ?_⟩⟩ | refine ⟨_, alenSl_av _ _, ?_⟩ | refine ⟨_, iad_av (f := Q.row) (m := 7) (fun _ => rfl) _ _ _ (lt_of ‹_›), ?_⟩ | refine ⟨_, _, ⟨rfl, c56 (by omega) _ (by have qv := hv.q j (lt_of ‹_›); have := qv.lo; have := qv.hi; have := qv.rise; have := qv.fall; have := qv.bad; omega) (by have qv := hv.q j (lt_of ‹_›); have := qv.lo; have := qv.hi; have := qv.rise; have := qv.fall; have := qv.bad; omega) _⟩, ?_⟩ | fail)
  all_goals try (conv => whnf)
  all_goals first | (have hlt := lt_of ‹decide ((j : Int) < _) = true›) | (have hge := ge_of ‹decide ((j : Int) < _) = false›) | skip
  case refine_2 =>
    rw [List.take_of_length_le hge] at hs
    have hl' : s.length ≤ 64000 := by omega
    clear hk hl hj hge
    refine loopP_inv (fun j fr H' df => ∃ (i : Int) (t : List UInt8) (k' : Nat), fr = [(1, .imm p.row 0), (3, .str t), (8, .int .i64 i)] ∧ H' = ⟨k', []⟩ ∧ df = [] ∧ i = (j : Int) ∧ t.length ≤ 64000 + 400 * j ∧ t = s ++ flat mLine (p.ms.list.take j)) p.ms.list.length ?_ p.ms.list.length (Nat.zero_add _) ⟨_, _, _, rfl, rfl, rfl, rfl, by omega, (List.append_nil s).symm⟩ (by omega)
    rintro a ha fr H2 df ⟨i, t, k2, rfl, rfl, rfl, rfl, hl, ht⟩ kn2 hk2
    try simp only [codeP, opsP, drawP]
    repeat' (conv => whnf
             first | refine ⟨_, _, .inr ⟨st_ok (fresh_nil _) rfl rfl rfl rfl rfl, rfl, ?_⟩⟩ | refine ⟨_, _, frz_ok (fresh_nil _) rfl, ?_⟩ | refine ⟨_, strAdd (by have hlt := lt_of ‹decide ((a : Int) < _) = true›; have mv := hv.m a hlt; have := mv.name; have := mv.crew; have := itl mv.rank; have := itl mv.lag; have := itl mv.takes; simp only [List.length_append, List.length_cons, List.length_nil]; omega), ?_⟩ | refine ⟨_, rfl, ?_⟩ | refine Br.mk (fun _ => ?_) (fun _ => ?_) | refine ⟨_, _, .inl ⟨rfl, ?_⟩⟩ | refine ⟨_, alenSl_av _ _, ?_⟩ | refine ⟨_, iad_av (f := M.row) (m := 5) (fun _ => rfl) _ _ _ (lt_of ‹_›), ?_⟩ | refine ⟨_, _, ⟨rfl, c56 (by omega) _ (by have mv := hv.m a (lt_of ‹_›); have := mv.rank; have := mv.lag; have := mv.takes; omega) (by have mv := hv.m a (lt_of ‹_›); have := mv.rank; have := mv.lag; have := mv.takes; omega) _⟩, ?_⟩ | fail)
    all_goals try (conv => whnf)
    all_goals first | (have hlt := lt_of ‹decide ((a : Int) < _) = true›) | (have hge := ge_of ‹decide ((a : Int) < _) = false›) | skip
    case refine_1 =>
      have mv := hv.m a hlt
      have := mv.name
      have := mv.crew
      have := itl mv.rank
      have := itl mv.lag
      have := itl mv.takes
      refine hk2 hlt _ _ _ ⟨_, _, _, rfl, rfl, rfl, w1 (by omega), by simp only [List.length_append, List.length_cons, List.length_nil]; omega, ?_⟩
      rw [flat_step hlt, ht]
      simp [mLine, line, Lib.join, List.intercalate]
    rw [List.take_of_length_le hge] at ht
    have hl2 : t.length ≤ 80000 := by omega
    clear hk2 hl ha hge
    refine loopP_inv (fun j fr H' df => ∃ (i : Int) (u : List UInt8) (k' : Nat), fr = [(1, .imm p.row 0), (3, .str u), (10, .int .i64 i)] ∧ H' = ⟨k', []⟩ ∧ df = [] ∧ i = (j : Int) ∧ u.length ≤ 80000 + 400 * j ∧ u = t ++ flat (aLine p) (p.as.list.take j)) p.as.list.length ?_ p.as.list.length (Nat.zero_add _) ⟨_, _, _, rfl, rfl, rfl, rfl, by omega, (List.append_nil t).symm⟩ (by omega)
    rintro b hb fr H3 df ⟨i, u, k3, rfl, rfl, rfl, rfl, hl, hu⟩ kn3 hk3
    by_cases hlt : b < p.as.list.length
    · have av := hv.a b hlt
      obtain ⟨qi, hqi⟩ : ∃ qi : Nat, (p.as.list[b]).qu = (qi : Int) := ⟨(p.as.list[b]).qu.toNat, by have := av.qu; omega⟩
      obtain ⟨mi, hmi⟩ : ∃ mi : Nat, (p.as.list[b]).ms = (mi : Int) := ⟨(p.as.list[b]).ms.toNat, by have := av.ms; omega⟩
      have hq1 : qi < p.qs.list.length := by have := av.qu; omega
      have hm1 : mi < p.ms.list.length := by have := av.ms; omega
      have nq := (hv.q qi hq1).name
      have nm := (hv.m mi hm1).name
      have l1 := itl av.lev
      have l2 := itl av.lim
      have r1 := av.lev
      have r2 := av.lim
      have hQ : ∀ (H : AHeap), aindexAddrS H 7 (p.qs.av Q.row) (.int .i64 (p.as.list[b]).qu) = some (.imm (Q.row p.qs.list[qi]) 0) := fun H => by rw [hqi]; exact iad_av (f := Q.row) (fun _ => rfl) _ _ _ hq1
      have hM : ∀ (H : AHeap), aindexAddrS H 5 (p.ms.av M.row) (.int .i64 (p.as.list[b]).ms) = some (.imm (M.row p.ms.list[mi]) 0) := fun H => by rw [hmi]; exact iad_av (f := M.row) (fun _ => rfl) _ _ _ hm1
      try simp only [codeP, opsP, drawP]
      repeat' (conv => whnf
               first | refine ⟨_, _, .inr ⟨st_ok (fresh_nil _) rfl rfl rfl rfl rfl, rfl, ?_⟩⟩ | refine ⟨_, _, frz_ok (fresh_nil _) rfl, ?_⟩ | refine ⟨_, strAdd (by simp only [List.length_append, List.length_cons, List.length_nil]; omega), ?_⟩ | refine ⟨_, rfl, ?_⟩ | refine Br.mk (fun _ => ?_) (fun _ => ?_) | refine ⟨_, _, .inl ⟨rfl, ?_⟩⟩ | refine ⟨_, alenSl_av _ _, ?_⟩ | refine ⟨_, iad_av (f := A.row) (m := 4) (fun _ => rfl) _ _ _ hlt, ?_⟩ | refine ⟨_, _, ⟨rfl, c56 (by omega) _ (by omega) (by omega) _⟩, ?_⟩ | refine ⟨_, iadE rfl rfl (hQ _), ?_⟩ | refine ⟨_, iadE rfl rfl (hM _), ?_⟩ | fail)
      all_goals try (conv => whnf)
      all_goals try (exfalso; have := of_decide_eq_false ‹decide ((b : Int) < _) = false›; omega)
      refine hk3 hlt _ _ _ ⟨_, _, _, rfl, rfl, rfl, w1 (by omega), by simp only [List.length_append, List.length_cons, List.length_nil]; omega, ?_⟩
      rw [flat_step hlt, hu]
      simp [aLine, line, Lib.join, List.intercalate, hqi, hmi, hq1, hm1]
    · skip
      try simp only [codeP, opsP, drawP]
      repeat' (conv => whnf
               first | refine ⟨_, rfl, ?_⟩ | refine Br.mk (fun _ => ?_) (fun _ => ?_) | refine ⟨_, _, .inl ⟨rfl, ?_⟩⟩ | refine ⟨_, alenSl_av _ _, ?_⟩ | fail)
      all_goals try (conv => whnf)
      all_goals try (exfalso; have := of_decide_eq_true ‹decide ((b : Int) < _) = true›; omega)
      refine ⟨congrArg (fun x => FR.ret (.str x)) ?_, rfl⟩
      rw [hu, List.take_of_length_le (by omega), ht, hs]
      simp [textP]
  have qv := hv.q j hlt
  have hgl := qv.len
  have e1 := qv.name
  have e2 := itl qv.lo
  have e3 := itl qv.hi
  have e4 := itl qv.rise
  have e5 := itl qv.fall
  have e6 := itl qv.bad
  refine loopP_inv (fun a fr H2 df => ∃ (i : Int) (t : List UInt8) (k2 : Nat), fr = [(1, .imm p.row 0), (3, .str t), (4, .int .i64 j), (5, .imm (Q.row p.qs.list[j]) 0), (6, .int .i64 i)] ∧ H2 = ⟨k2, []⟩ ∧ df = [] ∧ i = (a : Int) ∧ t.length ≤ 4000 * j + 300 + 300 * a ∧ t = s ++ qLine p.qs.list[j] ++ flat gLine ((p.qs.list[j]).gs.list.take a)) (p.qs.list[j]).gs.list.length ?_ (p.qs.list[j]).gs.list.length (Nat.zero_add _) ⟨_, _, _, rfl, rfl, rfl, rfl, by simp only [List.length_append, List.length_cons, List.length_nil]; omega, by simp [qLine, line, Lib.join, List.intercalate, flat]⟩ (by omega)
  rintro a ha fr H2 df ⟨i, t, k2, rfl, rfl, rfl, rfl, hl2, ht⟩ kn2 hk2
  try simp only [codeP, opsP, drawP]
  repeat' (conv => whnf
           first | refine ⟨_, _, .inr ⟨st_ok (fresh_nil _) rfl rfl rfl rfl rfl, rfl, ?_⟩⟩ | refine ⟨_, _, frz_ok (fresh_nil _) rfl, ?_⟩ | refine ⟨_, strAdd (by have hlt2 := lt_of ‹decide ((a : Int) < _) = true›; have gv := qv.gs a hlt2; have := gv.name; have := itl gv.acc; have := itl gv.drift; have := itl gv.since; simp only [List.length_append, List.length_cons, List.length_nil]; omega), ?_⟩ | refine ⟨_, rfl, ?_⟩ | refine Br.mk (fun _ => ?_) (fun _ => ?_) | refine ⟨_, _, .inl ⟨rfl, ?_⟩⟩ | refine ⟨_, alenSl_av _ _, ?_⟩ | refine ⟨_, iad_av (f := G.row) (m := 4) (fun _ => rfl) _ _ _ (lt_of ‹_›), ?_⟩ | refine ⟨_, _, ⟨rfl, c56 (by omega) _ (by have gv := qv.gs a (lt_of ‹_›); have := gv.acc; have := gv.drift; have := gv.since; omega) (by have gv := qv.gs a (lt_of ‹_›); have := gv.acc; have := gv.drift; have := gv.since; omega) _⟩, ?_⟩ | fail)
  all_goals try (conv => whnf)
  all_goals first | (have hlt2 := lt_of ‹decide ((a : Int) < _) = true›) | (have hge2 := ge_of ‹decide ((a : Int) < _) = false›) | skip
  case refine_1 =>
    have gv := qv.gs a hlt2
    have := gv.name
    have := itl gv.acc
    have := itl gv.drift
    have := itl gv.since
    refine hk2 hlt2 _ _ _ ⟨_, _, _, rfl, rfl, rfl, w1 (by omega), by simp only [List.length_append, List.length_cons, List.length_nil]; omega, ?_⟩
    rw [flat_step hlt2, ht]
    simp [gLine, line, Lib.join, List.intercalate]
  rw [List.take_of_length_le hge2] at ht
  refine hk hlt _ _ _ ⟨_, _, _, rfl, rfl, rfl, w1 (by omega), by omega, ?_⟩
  rw [flat_step hlt, ht, hs, qText, List.append_assoc]
end Go.AM.Wc
