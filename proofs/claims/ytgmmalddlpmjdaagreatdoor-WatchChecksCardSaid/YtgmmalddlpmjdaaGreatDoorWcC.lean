/- The functions of watch and of its specification, one by one: numbers. The functions of watch: names, lists. slices.IndexFunc and ContainsFunc at the types of a plan. -/
import Derived.Test.YtgmmalddlpmjdaaGreatDoorWcS
set_option linter.unusedVariables false
set_option linter.unusedSimpArgs false
namespace Go.AM.Wc
open Go Go.AM
def within (n lo hi : Int) : Bool := decide (n ≥ lo) && decide (n ≤ hi)
theorem c28 {n : Nat} (hn : 1 ≤ n) (a b c : Int) (H : AHeap) : evalFn S n (.fn 28 []) [.int .i64 a, .int .i64 b, .int .i64 c] H = some (.ret (.bool (within a b c)), H) := by
  obtain ⟨n, rfl⟩ : ∃ m, n = m + 1 := ⟨n - 1, by omega⟩
  refine fn_ret (S := S) (sf := sf28) rfl (S_fn rfl) rfl ?_
  simp only [sf28, codeP, opsP, drawP]
  repeat' (conv => whnf
           first | refine ⟨_, rfl, ?_⟩ | refine Br.mk (fun _ => ?_) (fun _ => ?_) | refine ⟨_, _, .inl ⟨rfl, ?_⟩⟩ | fail)
  all_goals try (conv => whnf)
  all_goals try first | exact ⟨by simp_all [packR, within] <;> omega, rfl⟩ | (exfalso; simp_all; done) | (exfalso; simp_all; omega)
theorem c29 {n : Nat} (hn : 2 ≤ n) (a : Int) (H : AHeap) : evalFn S n (.fn 29 []) [.int .i64 a] H = some (.ret (.bool (within a (-1000000000) 1000000000)), H) := by
  obtain ⟨n, rfl⟩ : ∃ m, n = m + 1 := ⟨n - 1, by omega⟩
  refine fn_ret (S := S) (sf := sf29) rfl (S_fn rfl) rfl ?_
  simp only [sf29, codeP, opsP, drawP]
  repeat' (conv => whnf
           first | refine ⟨_, rfl, ?_⟩ | refine Br.mk (fun _ => ?_) (fun _ => ?_) | refine ⟨_, _, .inl ⟨rfl, ?_⟩⟩ | refine ⟨_, _, ⟨rfl, c28 (by omega) _ _ _ _⟩, ?_⟩ | fail)
  all_goals try (conv => whnf)
  all_goals try first | exact ⟨by simp_all [packR, within] <;> omega, rfl⟩ | (exfalso; simp_all; done) | (exfalso; simp_all; omega)
theorem c43 {n : Nat} (hn : 2 ≤ n) (a : Int) (H : AHeap) : evalFn S n (.fn 43 []) [.int .i64 a] H = some (.ret (.bool (within a 0 100000)), H) := by
  obtain ⟨n, rfl⟩ : ∃ m, n = m + 1 := ⟨n - 1, by omega⟩
  refine fn_ret (S := S) (sf := sf43) rfl (S_fn rfl) rfl ?_
  simp only [sf43, codeP, opsP, drawP]
  repeat' (conv => whnf
           first | refine ⟨_, rfl, ?_⟩ | refine Br.mk (fun _ => ?_) (fun _ => ?_) | refine ⟨_, _, .inl ⟨rfl, ?_⟩⟩ | refine ⟨_, _, ⟨rfl, c28 (by omega) _ _ _ _⟩, ?_⟩ | fail)
  all_goals try (conv => whnf)
  all_goals try first | exact ⟨by simp_all [packR, within] <;> omega, rfl⟩ | (exfalso; simp_all; done) | (exfalso; simp_all; omega)
def gaugeE (g : G) : Int := if within g.acc 0 1000000000 && within g.drift 0 1000000000 && within g.since 0 100000 then 0 else 1
theorem c42 {n : Nat} (hn : 3 ≤ n) (g : G) (H : AHeap) : evalFn S n (.fn 42 []) [.agg g.row] H = some (.ret (.int .i64 (gaugeE g)), H) := by
  obtain ⟨n, rfl⟩ : ∃ m, n = m + 1 := ⟨n - 1, by omega⟩
  refine fn_ret (S := S) (sf := sf42) rfl (S_fn rfl) rfl ?_
  simp only [sf42, codeP, opsP, drawP]
  repeat' (conv => whnf
           first | refine ⟨_, rfl, ?_⟩ | refine Br.mk (fun _ => ?_) (fun _ => ?_) | refine ⟨_, _, .inl ⟨rfl, ?_⟩⟩ | refine ⟨_, _, ⟨rfl, c28 (by omega) _ _ _ _⟩, ?_⟩ | refine ⟨_, _, ⟨rfl, c43 (by omega) _ _⟩, ?_⟩ | fail)
  all_goals try (conv => whnf)
  all_goals try first | exact ⟨by simp_all [packR, gaugeE] <;> omega, rfl⟩ | (exfalso; simp_all; done) | (exfalso; simp_all; omega)
def w64 (n : Int) : Int := IntKind.wrap .i64 n
def deviationS (g : G) (t : Int) : Int := if t ≤ g.since then g.acc else w64 (g.acc + w64 (w64 ((w64 (w64 (t - g.since) + 999)).tdiv 1000) * g.drift))
theorem c44 {n : Nat} (hn : 1 ≤ n) (g : G) (t : Int) (H : AHeap) : evalFn S n (.fn 44 []) [.agg g.row, .int .i64 t] H = some (.ret (.int .i64 (deviationS g t)), H) := by
  obtain ⟨n, rfl⟩ : ∃ m, n = m + 1 := ⟨n - 1, by omega⟩
  refine fn_ret (S := S) (sf := sf44) rfl (S_fn rfl) rfl ?_
  simp only [sf44, codeP, opsP, drawP]
  repeat' (conv => whnf
           first | refine ⟨_, rfl, ?_⟩ | refine Br.mk (fun _ => ?_) (fun _ => ?_) | refine ⟨_, _, .inl ⟨rfl, ?_⟩⟩ | fail)
  all_goals try (conv => whnf)
  all_goals try first | exact ⟨by simp_all [packR, deviationS, w64] <;> omega, rfl⟩ | (exfalso; simp_all; done) | (exfalso; simp_all; omega)
def errorS (g : G) (t : Int) : AV := if gaugeE g = 0 && within t 0 100000 then .tup [.int .i64 (deviationS g t), .int .i64 0] else .tup [.int .i64 0, .int .i64 1]
theorem c12 {n : Nat} (hn : 4 ≤ n) (g : G) (t : Int) (H : AHeap) : evalFn S n (.fn 12 []) [.agg g.row, .int .i64 t] H = some (.ret (errorS g t), H) := by
  obtain ⟨n, rfl⟩ : ∃ m, n = m + 1 := ⟨n - 1, by omega⟩
  refine fn_ret (S := S) (sf := sf12) rfl (S_fn rfl) rfl ?_
  simp only [sf12, codeP, opsP, drawP]
  repeat' (conv => whnf
           first | refine ⟨_, rfl, ?_⟩ | refine Br.mk (fun _ => ?_) (fun _ => ?_) | refine ⟨_, _, .inl ⟨rfl, ?_⟩⟩ | refine ⟨_, _, ⟨rfl, c42 (by omega) _ _⟩, ?_⟩ | refine ⟨_, _, ⟨rfl, c43 (by omega) _ _⟩, ?_⟩ | refine ⟨_, _, ⟨rfl, c44 (by omega) _ _ _⟩, ?_⟩ | fail)
  all_goals try (conv => whnf)
  all_goals try first | exact ⟨by simp_all [packR, errorS] <;> omega, rfl⟩ | (exfalso; simp_all; done) | (exfalso; simp_all; omega)
end Go.AM.Wc
set_option linter.unusedVariables false
set_option linter.unusedSimpArgs false
namespace Go.AM.Wc
open Go Go.AM
def okc (c : UInt8) : Bool := (decide (97 ≤ c.toNat) && decide (c.toNat ≤ 122)) || (decide (48 ≤ c.toNat) && decide (c.toNat ≤ 57)) || decide (c.toNat = 45)
def nameOK : List UInt8 → Bool
  | [] => false
  | c :: r => decide ((c :: r).length ≤ 16) && (decide (97 ≤ c.toNat) && decide (c.toNat ≤ 122)) && (c :: r).all okc
theorem okc_of {b : UInt8} (h : (97 ≤ (b.toNat : Int) ∧ (b.toNat : Int) ≤ 122) ∨ (48 ≤ (b.toNat : Int) ∧ (b.toNat : Int) ≤ 57) ∨ (b.toNat : Int) = 45) : okc b = true := by
  simp only [okc, Bool.or_eq_true, Bool.and_eq_true, decide_eq_true_eq]; omega
theorem okc_bad {b : UInt8} (h : ¬ ((97 ≤ (b.toNat : Int) ∧ (b.toNat : Int) ≤ 122) ∨ (48 ≤ (b.toNat : Int) ∧ (b.toNat : Int) ≤ 57) ∨ (b.toNat : Int) = 45)) : okc b = false := by
  simp only [okc, Bool.or_eq_false_iff, Bool.and_eq_false_iff, decide_eq_false_iff_not]; omega
theorem nameOK_bad {s : List UInt8} (h : s.all okc = false) : nameOK s = false := by
  cases s with
  | nil => rfl
  | cons c r => simp only [nameOK, h, Bool.and_false]
theorem nameOK_of {c : UInt8} {r : List UInt8} (h1 : (c :: r).length ≤ 16) (h2 : 97 ≤ (c.toNat : Int)) (h3 : (c.toNat : Int) ≤ 122) (h : (c :: r).all okc = true) : nameOK (c :: r) = true := by
  simp only [nameOK, h, Bool.and_true, Bool.and_eq_true, decide_eq_true_eq]; omega
theorem all_take {p : UInt8 → Bool} {s : List UInt8} {j : Nat} {b : UInt8} (hb : s[j]? = some b) (h : (s.take j).all p = true) (hp : p b = true) : (s.take (j + 1)).all p = true := by
  rw [List.take_add_one, List.all_append, h, hb]
  simp [hp]
theorem all_bad {p : UInt8 → Bool} {s : List UInt8} {j : Nat} {b : UInt8} (hb : s[j]? = some b) (hp : p b = false) : s.all p = false := by
  rw [List.all_eq_false]
  exact ⟨b, List.mem_of_getElem? hb, by simp [hp]⟩
set_option maxHeartbeats 1000000 in
theorem c57 {n : Nat} (hn : 20 ≤ n) (s : List UInt8) (H : AHeap) : evalFn S n (.fn 57 []) [.str s] H = some (.ret (.bool (nameOK s)), H) := by
  obtain ⟨n, rfl⟩ : ∃ m, n = m + 1 := ⟨n - 1, by omega⟩
  refine fn_ret (S := S) (sf := sf57) rfl (S_fn rfl) rfl ?_
  simp only [sf57, codeP, opsP, drawP]
  cases s with
  | nil =>
    repeat' (conv => whnf
             first | refine ⟨_, rfl, ?_⟩ | refine Br.mk (fun _ => ?_) (fun _ => ?_) | refine ⟨_, _, .inl ⟨rfl, ?_⟩⟩ | fail)
    all_goals try (conv => whnf)
    all_goals try first | exact ⟨by simp_all [packR, nameOK] <;> omega, rfl⟩ | (exfalso; simp_all; done) | (exfalso; simp_all; omega)
  | cons c r =>
    repeat' (conv => whnf
             first | refine ⟨_, rfl, ?_⟩ | refine Br.mk (fun _ => ?_) (fun _ => ?_) | refine ⟨_, _, .inl ⟨rfl, ?_⟩⟩ | fail)
    all_goals try (conv => whnf)
    all_goals try simp only [decide_eq_true_eq, decide_eq_false_iff_not, beq_iff_eq, beq_eq_false_iff_ne, Bool.not_eq_true', Bool.not_eq_false', Int.not_lt, Int.not_le, ge_iff_le, gt_iff_lt, ne_eq, bne_iff_ne, bne_eq_false_iff_eq, Sl.take_list, List.length_cons, reduceCtorEq] at *
    case cons.refine_2.refine_1 => exact ⟨by simp [packR, nameOK]; omega, rfl⟩
    case cons.refine_2.refine_2.refine_1 => exact ⟨by simp [packR, nameOK]; omega, rfl⟩
    case cons.refine_2.refine_2.refine_2.refine_1 => exact ⟨by simp [packR, nameOK]; omega, rfl⟩
    have hlen : (c :: r).length ≤ 16 := by simp only [List.length_cons]; omega
    refine loopP_inv (fun j fr H' df => ∃ i : Int, fr = [(0, .str (c :: r)), (23, .int .i64 ((c :: r).length : Nat)), (24, .int .i64 i)] ∧ H' = H ∧ df = [] ∧ i = (j : Int) ∧ ((c :: r).take j).all okc = true) (c :: r).length ?_ (c :: r).length (Nat.zero_add _) ⟨_, rfl, rfl, rfl, rfl, rfl⟩ (by omega)
    rintro j hj fr H' df ⟨i, rfl, rfl, rfl, rfl, hall⟩ kn hk
    try simp only [codeP, opsP, drawP]
    repeat' (conv => whnf
             first | refine ⟨_, rfl, ?_⟩ | refine Br.mk (fun _ => ?_) (fun _ => ?_) | refine ⟨_, _, .inl ⟨rfl, ?_⟩⟩ | refine ⟨_, ixs_at (List.getElem?_eq_getElem (lt_of ‹_›)), ?_⟩ | fail)
    all_goals try (conv => whnf)
    all_goals first | (have hlt := lt_of ‹decide ((j : Int) < _) = true›) | (have hge := ge_of ‹decide ((j : Int) < _) = false›) | skip
    all_goals try simp only [decide_eq_true_eq, decide_eq_false_iff_not, beq_iff_eq, beq_eq_false_iff_ne, Bool.not_eq_true', Bool.not_eq_false', Int.not_lt, Int.not_le, ge_iff_le, gt_iff_lt, ne_eq, bne_iff_ne, bne_eq_false_iff_eq, Sl.take_list, List.length_cons, reduceCtorEq] at *
    all_goals first
      | exact hk hlt _ _ _ ⟨_, rfl, rfl, rfl, w1 (by omega), all_take (List.getElem?_eq_getElem hlt) hall (okc_of (by omega))⟩
      | exact ⟨by rw [nameOK_bad (all_bad (List.getElem?_eq_getElem hlt) (okc_bad (by omega)))]; rfl, rfl⟩
      | exact ⟨by rw [List.take_of_length_le hge] at hall; rw [nameOK_of hlen (by omega) (by omega) hall]; rfl, rfl⟩
end Go.AM.Wc
set_option linter.unusedVariables false
set_option linter.unusedSimpArgs false
namespace Go.AM.Wc
open Go Go.AM
def idx {α : Type} (p : α → Bool) : List α → Int
  | [] => -1
  | x :: r => if p x then 0 else (if idx p r < 0 then -1 else idx p r + 1)
theorem idx_none {α : Type} {p : α → Bool} : ∀ {l : List α}, l.any p = false → idx p l = -1
  | [], _ => rfl
  | x :: r, h => by
    simp only [List.any_cons, Bool.or_eq_false_iff] at h
    simp [idx, h.1, idx_none h.2]
theorem idx_some {α : Type} {p : α → Bool} : ∀ {l : List α} {j : Nat} {x : α}, (l.take j).any p = false → l[j]? = some x → p x = true → idx p l = j
  | [], j, x, _, h, _ => by simp at h
  | y :: r, 0, x, _, h, hp => by
    simp only [List.getElem?_cons_zero, Option.some.injEq] at h
    subst h
    simp [idx, hp]
  | y :: r, j + 1, x, ht, h, hp => by
    simp only [List.take_succ_cons, List.any_cons, Bool.or_eq_false_iff] at ht
    simp only [List.getElem?_cons_succ] at h
    have := idx_some ht.2 h hp
    simp only [idx, ht.1, this]
    rw [if_neg (by simp), if_neg (by omega)]
    omega
theorem idx_any {α : Type} (p : α → Bool) : ∀ l : List α, decide (idx p l ≥ 0) = l.any p
  | [] => rfl
  | x :: r => by
    have := idx_any p r
    simp only [idx, List.any_cons]
    by_cases h : p x = true
    · simp [h]
    · simp only [h, Bool.false_eq_true, if_false, Bool.false_or, ← this]
      by_cases h2 : idx p r < 0
      · simp [h2]
      · simp only [h2, if_false]
        rw [decide_eq_decide]
        omega
theorem any_take {α : Type} {p : α → Bool} {s : List α} {j : Nat} {b : α} (hb : s[j]? = some b) (h : (s.take j).any p = false) (hp : p b = false) : (s.take (j + 1)).any p = false := by
  rw [List.take_add_one, List.any_append, h, hb]
  simp [hp]

theorem c64 {n : Nat} (hn : 200 ≤ n) (s : Sl A) (g : Nat) (caps : List AV) (p : A → Bool) (H : AHeap) (hlen : s.list.length ≤ 100) (hp : ∀ (m : Nat), 1 ≤ m → ∀ x, evalFn S m (.fn g caps) [.agg (A.row x)] H = some (.ret (.bool (p x)), H)) :
    evalFn S n (.fn 64 []) [s.av A.row, .fn g caps] H = some (.ret (.int .i64 (idx p s.list)), H) := by
  obtain ⟨n, rfl⟩ : ∃ m, n = m + 1 := ⟨n - 1, by omega⟩
  refine fn_ret (S := S) (sf := sf64) rfl (S_fn rfl) rfl ?_
  simp only [sf64, codeP, opsP, drawP]
  repeat' (conv => whnf
           first | refine ⟨_, rfl, ?_⟩ | refine Br.mk (fun _ => ?_) (fun _ => ?_) | refine ⟨_, _, .inl ⟨rfl, ?_⟩⟩ | refine ⟨_, alenSl_av _ _, ?_⟩ | fail)
  all_goals try (conv => whnf)
  refine loopP_inv (fun j fr H' df => ∃ i : Int, fr = [(0, s.av A.row), (1, .fn g caps), (7, .int .i64 (s.list.length : Nat)), (8, .int .i64 i)] ∧ H' = H ∧ df = [] ∧ i = (j : Int) ∧ (s.list.take j).any p = false) s.list.length ?_ s.list.length (Nat.zero_add _) ⟨_, rfl, rfl, rfl, rfl, rfl⟩ (by omega)
  rintro j hj fr H' df ⟨i, rfl, rfl, rfl, rfl, hall⟩ kn hk
  try simp only [codeP, opsP, drawP]
  repeat' (conv => whnf
           first | refine ⟨_, rfl, ?_⟩ | refine Br.mk (fun _ => ?_) (fun _ => ?_) | refine ⟨_, _, .inl ⟨rfl, ?_⟩⟩ | refine ⟨_, iad_av (f := A.row) (m := 4) (fun _ => rfl) _ _ _ (lt_of ‹_›), ?_⟩ | refine ⟨_, _, ⟨rfl, hp _ (by omega) _⟩, ?_⟩ | fail)
  all_goals try (conv => whnf)
  all_goals first | (have hlt := lt_of ‹decide ((j : Int) < _) = true›) | (have hge := ge_of ‹decide ((j : Int) < _) = false›) | skip
  all_goals first
    | exact hk hlt _ _ _ ⟨_, rfl, rfl, rfl, w1 (by omega), any_take (List.getElem?_eq_getElem hlt) hall ‹_›⟩
    | exact ⟨by rw [idx_some hall (List.getElem?_eq_getElem hlt) ‹_›]; rfl, rfl⟩
    | exact ⟨by rw [List.take_of_length_le hge] at hall; rw [idx_none hall]; rfl, rfl⟩
theorem c30 {n : Nat} (hn : 201 ≤ n) (s : Sl A) (g : Nat) (caps : List AV) (p : A → Bool) (H : AHeap) (hlen : s.list.length ≤ 100) (hp : ∀ (m : Nat), 1 ≤ m → ∀ x, evalFn S m (.fn g caps) [.agg (A.row x)] H = some (.ret (.bool (p x)), H)) :
    evalFn S n (.fn 30 []) [s.av A.row, .fn g caps] H = some (.ret (.bool (s.list.any p)), H) := by
  obtain ⟨n, rfl⟩ : ∃ m, n = m + 1 := ⟨n - 1, by omega⟩
  refine fn_ret (S := S) (sf := sf30) rfl (S_fn rfl) rfl ?_
  simp only [sf30, codeP, opsP, drawP]
  repeat' (conv => whnf
           first | refine ⟨_, rfl, ?_⟩ | refine Br.mk (fun _ => ?_) (fun _ => ?_) | refine ⟨_, _, .inl ⟨rfl, ?_⟩⟩ | refine ⟨_, _, ⟨rfl, c64 (by omega) s g caps p H hlen hp⟩, ?_⟩ | fail)
  all_goals try (conv => whnf)
  all_goals exact ⟨by rw [← idx_any]; simp_all [packR], rfl⟩

theorem c82 {n : Nat} (hn : 200 ≤ n) (s : Sl Q) (g : Nat) (caps : List AV) (p : Q → Bool) (H : AHeap) (hlen : s.list.length ≤ 100) (hp : ∀ (m : Nat), 1 ≤ m → ∀ x, evalFn S m (.fn g caps) [.agg (Q.row x)] H = some (.ret (.bool (p x)), H)) :
    evalFn S n (.fn 82 []) [s.av Q.row, .fn g caps] H = some (.ret (.int .i64 (idx p s.list)), H) := by
  obtain ⟨n, rfl⟩ : ∃ m, n = m + 1 := ⟨n - 1, by omega⟩
  refine fn_ret (S := S) (sf := sf82) rfl (S_fn rfl) rfl ?_
  simp only [sf82, codeP, opsP, drawP]
  repeat' (conv => whnf
           first | refine ⟨_, rfl, ?_⟩ | refine Br.mk (fun _ => ?_) (fun _ => ?_) | refine ⟨_, _, .inl ⟨rfl, ?_⟩⟩ | refine ⟨_, alenSl_av _ _, ?_⟩ | fail)
  all_goals try (conv => whnf)
  refine loopP_inv (fun j fr H' df => ∃ i : Int, fr = [(0, s.av Q.row), (1, .fn g caps), (7, .int .i64 (s.list.length : Nat)), (8, .int .i64 i)] ∧ H' = H ∧ df = [] ∧ i = (j : Int) ∧ (s.list.take j).any p = false) s.list.length ?_ s.list.length (Nat.zero_add _) ⟨_, rfl, rfl, rfl, rfl, rfl⟩ (by omega)
  rintro j hj fr H' df ⟨i, rfl, rfl, rfl, rfl, hall⟩ kn hk
  try simp only [codeP, opsP, drawP]
  repeat' (conv => whnf
           first | refine ⟨_, rfl, ?_⟩ | refine Br.mk (fun _ => ?_) (fun _ => ?_) | refine ⟨_, _, .inl ⟨rfl, ?_⟩⟩ | refine ⟨_, iad_av (f := Q.row) (m := 7) (fun _ => rfl) _ _ _ (lt_of ‹_›), ?_⟩ | refine ⟨_, _, ⟨rfl, hp _ (by omega) _⟩, ?_⟩ | fail)
  all_goals try (conv => whnf)
  all_goals first | (have hlt := lt_of ‹decide ((j : Int) < _) = true›) | (have hge := ge_of ‹decide ((j : Int) < _) = false›) | skip
  all_goals first
    | exact hk hlt _ _ _ ⟨_, rfl, rfl, rfl, w1 (by omega), any_take (List.getElem?_eq_getElem hlt) hall ‹_›⟩
    | exact ⟨by rw [idx_some hall (List.getElem?_eq_getElem hlt) ‹_›]; rfl, rfl⟩
    | exact ⟨by rw [List.take_of_length_le hge] at hall; rw [idx_none hall]; rfl, rfl⟩
theorem c58 {n : Nat} (hn : 201 ≤ n) (s : Sl Q) (g : Nat) (caps : List AV) (p : Q → Bool) (H : AHeap) (hlen : s.list.length ≤ 100) (hp : ∀ (m : Nat), 1 ≤ m → ∀ x, evalFn S m (.fn g caps) [.agg (Q.row x)] H = some (.ret (.bool (p x)), H)) :
    evalFn S n (.fn 58 []) [s.av Q.row, .fn g caps] H = some (.ret (.bool (s.list.any p)), H) := by
  obtain ⟨n, rfl⟩ : ∃ m, n = m + 1 := ⟨n - 1, by omega⟩
  refine fn_ret (S := S) (sf := sf58) rfl (S_fn rfl) rfl ?_
  simp only [sf58, codeP, opsP, drawP]
  repeat' (conv => whnf
           first | refine ⟨_, rfl, ?_⟩ | refine Br.mk (fun _ => ?_) (fun _ => ?_) | refine ⟨_, _, .inl ⟨rfl, ?_⟩⟩ | refine ⟨_, _, ⟨rfl, c82 (by omega) s g caps p H hlen hp⟩, ?_⟩ | fail)
  all_goals try (conv => whnf)
  all_goals exact ⟨by rw [← idx_any]; simp_all [packR], rfl⟩

theorem c85 {n : Nat} (hn : 200 ≤ n) (s : Sl M) (g : Nat) (caps : List AV) (p : M → Bool) (H : AHeap) (hlen : s.list.length ≤ 100) (hp : ∀ (m : Nat), 1 ≤ m → ∀ x, evalFn S m (.fn g caps) [.agg (M.row x)] H = some (.ret (.bool (p x)), H)) :
    evalFn S n (.fn 85 []) [s.av M.row, .fn g caps] H = some (.ret (.int .i64 (idx p s.list)), H) := by
  obtain ⟨n, rfl⟩ : ∃ m, n = m + 1 := ⟨n - 1, by omega⟩
  refine fn_ret (S := S) (sf := sf85) rfl (S_fn rfl) rfl ?_
  simp only [sf85, codeP, opsP, drawP]
  repeat' (conv => whnf
           first | refine ⟨_, rfl, ?_⟩ | refine Br.mk (fun _ => ?_) (fun _ => ?_) | refine ⟨_, _, .inl ⟨rfl, ?_⟩⟩ | refine ⟨_, alenSl_av _ _, ?_⟩ | fail)
  all_goals try (conv => whnf)
  refine loopP_inv (fun j fr H' df => ∃ i : Int, fr = [(0, s.av M.row), (1, .fn g caps), (7, .int .i64 (s.list.length : Nat)), (8, .int .i64 i)] ∧ H' = H ∧ df = [] ∧ i = (j : Int) ∧ (s.list.take j).any p = false) s.list.length ?_ s.list.length (Nat.zero_add _) ⟨_, rfl, rfl, rfl, rfl, rfl⟩ (by omega)
  rintro j hj fr H' df ⟨i, rfl, rfl, rfl, rfl, hall⟩ kn hk
  try simp only [codeP, opsP, drawP]
  repeat' (conv => whnf
           first | refine ⟨_, rfl, ?_⟩ | refine Br.mk (fun _ => ?_) (fun _ => ?_) | refine ⟨_, _, .inl ⟨rfl, ?_⟩⟩ | refine ⟨_, iad_av (f := M.row) (m := 5) (fun _ => rfl) _ _ _ (lt_of ‹_›), ?_⟩ | refine ⟨_, _, ⟨rfl, hp _ (by omega) _⟩, ?_⟩ | fail)
  all_goals try (conv => whnf)
  all_goals first | (have hlt := lt_of ‹decide ((j : Int) < _) = true›) | (have hge := ge_of ‹decide ((j : Int) < _) = false›) | skip
  all_goals first
    | exact hk hlt _ _ _ ⟨_, rfl, rfl, rfl, w1 (by omega), any_take (List.getElem?_eq_getElem hlt) hall ‹_›⟩
    | exact ⟨by rw [idx_some hall (List.getElem?_eq_getElem hlt) ‹_›]; rfl, rfl⟩
    | exact ⟨by rw [List.take_of_length_le hge] at hall; rw [idx_none hall]; rfl, rfl⟩
theorem c61 {n : Nat} (hn : 201 ≤ n) (s : Sl M) (g : Nat) (caps : List AV) (p : M → Bool) (H : AHeap) (hlen : s.list.length ≤ 100) (hp : ∀ (m : Nat), 1 ≤ m → ∀ x, evalFn S m (.fn g caps) [.agg (M.row x)] H = some (.ret (.bool (p x)), H)) :
    evalFn S n (.fn 61 []) [s.av M.row, .fn g caps] H = some (.ret (.bool (s.list.any p)), H) := by
  obtain ⟨n, rfl⟩ : ∃ m, n = m + 1 := ⟨n - 1, by omega⟩
  refine fn_ret (S := S) (sf := sf61) rfl (S_fn rfl) rfl ?_
  simp only [sf61, codeP, opsP, drawP]
  repeat' (conv => whnf
           first | refine ⟨_, rfl, ?_⟩ | refine Br.mk (fun _ => ?_) (fun _ => ?_) | refine ⟨_, _, .inl ⟨rfl, ?_⟩⟩ | refine ⟨_, _, ⟨rfl, c85 (by omega) s g caps p H hlen hp⟩, ?_⟩ | fail)
  all_goals try (conv => whnf)
  all_goals exact ⟨by rw [← idx_any]; simp_all [packR], rfl⟩

theorem c97 {n : Nat} (hn : 200 ≤ n) (s : Sl G) (g : Nat) (caps : List AV) (p : G → Bool) (H : AHeap) (hlen : s.list.length ≤ 100) (hp : ∀ (m : Nat), 1 ≤ m → ∀ x, evalFn S m (.fn g caps) [.agg (G.row x)] H = some (.ret (.bool (p x)), H)) :
    evalFn S n (.fn 97 []) [s.av G.row, .fn g caps] H = some (.ret (.int .i64 (idx p s.list)), H) := by
  obtain ⟨n, rfl⟩ : ∃ m, n = m + 1 := ⟨n - 1, by omega⟩
  refine fn_ret (S := S) (sf := sf97) rfl (S_fn rfl) rfl ?_
  simp only [sf97, codeP, opsP, drawP]
  repeat' (conv => whnf
           first | refine ⟨_, rfl, ?_⟩ | refine Br.mk (fun _ => ?_) (fun _ => ?_) | refine ⟨_, _, .inl ⟨rfl, ?_⟩⟩ | refine ⟨_, alenSl_av _ _, ?_⟩ | fail)
  all_goals try (conv => whnf)
  refine loopP_inv (fun j fr H' df => ∃ i : Int, fr = [(0, s.av G.row), (1, .fn g caps), (7, .int .i64 (s.list.length : Nat)), (8, .int .i64 i)] ∧ H' = H ∧ df = [] ∧ i = (j : Int) ∧ (s.list.take j).any p = false) s.list.length ?_ s.list.length (Nat.zero_add _) ⟨_, rfl, rfl, rfl, rfl, rfl⟩ (by omega)
  rintro j hj fr H' df ⟨i, rfl, rfl, rfl, rfl, hall⟩ kn hk
  try simp only [codeP, opsP, drawP]
  repeat' (conv => whnf
           first | refine ⟨_, rfl, ?_⟩ | refine Br.mk (fun _ => ?_) (fun _ => ?_) | refine ⟨_, _, .inl ⟨rfl, ?_⟩⟩ | refine ⟨_, iad_av (f := G.row) (m := 4) (fun _ => rfl) _ _ _ (lt_of ‹_›), ?_⟩ | refine ⟨_, _, ⟨rfl, hp _ (by omega) _⟩, ?_⟩ | fail)
  all_goals try (conv => whnf)
  all_goals first | (have hlt := lt_of ‹decide ((j : Int) < _) = true›) | (have hge := ge_of ‹decide ((j : Int) < _) = false›) | skip
  all_goals first
    | exact hk hlt _ _ _ ⟨_, rfl, rfl, rfl, w1 (by omega), any_take (List.getElem?_eq_getElem hlt) hall ‹_›⟩
    | exact ⟨by rw [idx_some hall (List.getElem?_eq_getElem hlt) ‹_›]; rfl, rfl⟩
    | exact ⟨by rw [List.take_of_length_le hge] at hall; rw [idx_none hall]; rfl, rfl⟩
theorem c83 {n : Nat} (hn : 201 ≤ n) (s : Sl G) (g : Nat) (caps : List AV) (p : G → Bool) (H : AHeap) (hlen : s.list.length ≤ 100) (hp : ∀ (m : Nat), 1 ≤ m → ∀ x, evalFn S m (.fn g caps) [.agg (G.row x)] H = some (.ret (.bool (p x)), H)) :
    evalFn S n (.fn 83 []) [s.av G.row, .fn g caps] H = some (.ret (.bool (s.list.any p)), H) := by
  obtain ⟨n, rfl⟩ : ∃ m, n = m + 1 := ⟨n - 1, by omega⟩
  refine fn_ret (S := S) (sf := sf83) rfl (S_fn rfl) rfl ?_
  simp only [sf83, codeP, opsP, drawP]
  repeat' (conv => whnf
           first | refine ⟨_, rfl, ?_⟩ | refine Br.mk (fun _ => ?_) (fun _ => ?_) | refine ⟨_, _, .inl ⟨rfl, ?_⟩⟩ | refine ⟨_, _, ⟨rfl, c97 (by omega) s g caps p H hlen hp⟩, ?_⟩ | fail)
  all_goals try (conv => whnf)
  all_goals exact ⟨by rw [← idx_any]; simp_all [packR], rfl⟩

theorem c31 {n : Nat} (hn : 1 ≤ n) (g x : A) (H : AHeap) : evalFn S n (.fn 31 [.imm (A.row g) 0]) [.agg (A.row x)] H = some (.ret (.bool (decide (x.ms = g.ms))), H) := by
  obtain ⟨n, rfl⟩ : ∃ m, n = m + 1 := ⟨n - 1, by omega⟩
  refine fn_ret (S := S) (sf := sf31) rfl (S_fn rfl) rfl ?_
  simp only [sf31, codeP, opsP, drawP]
  repeat' (conv => whnf
           first | refine ⟨_, rfl, ?_⟩ | refine Br.mk (fun _ => ?_) (fun _ => ?_) | refine ⟨_, _, .inl ⟨rfl, ?_⟩⟩ | fail)
  all_goals try (conv => whnf)
  all_goals try first | exact ⟨by simp_all [packR] <;> omega, rfl⟩ | (exfalso; simp_all; done) | (exfalso; simp_all; omega)

theorem c59 {n : Nat} (hn : 1 ≤ n) (g x : Q) (H : AHeap) : evalFn S n (.fn 59 [.imm (Q.row g) 0]) [.agg (Q.row x)] H = some (.ret (.bool (x.name == g.name)), H) := by
  obtain ⟨n, rfl⟩ : ∃ m, n = m + 1 := ⟨n - 1, by omega⟩
  refine fn_ret (S := S) (sf := sf59) rfl (S_fn rfl) rfl ?_
  simp only [sf59, codeP, opsP, drawP]
  repeat' (conv => whnf
           first | refine ⟨_, rfl, ?_⟩ | refine Br.mk (fun _ => ?_) (fun _ => ?_) | refine ⟨_, _, .inl ⟨rfl, ?_⟩⟩ | fail)
  all_goals try (conv => whnf)
  all_goals try first | exact ⟨by simp_all [packR] <;> omega, rfl⟩ | (exfalso; simp_all; done) | (exfalso; simp_all; omega)

theorem c62 {n : Nat} (hn : 1 ≤ n) (g x : M) (H : AHeap) : evalFn S n (.fn 62 [.imm (M.row g) 0]) [.agg (M.row x)] H = some (.ret (.bool (x.name == g.name)), H) := by
  obtain ⟨n, rfl⟩ : ∃ m, n = m + 1 := ⟨n - 1, by omega⟩
  refine fn_ret (S := S) (sf := sf62) rfl (S_fn rfl) rfl ?_
  simp only [sf62, codeP, opsP, drawP]
  repeat' (conv => whnf
           first | refine ⟨_, rfl, ?_⟩ | refine Br.mk (fun _ => ?_) (fun _ => ?_) | refine ⟨_, _, .inl ⟨rfl, ?_⟩⟩ | fail)
  all_goals try (conv => whnf)
  all_goals try first | exact ⟨by simp_all [packR] <;> omega, rfl⟩ | (exfalso; simp_all; done) | (exfalso; simp_all; omega)

theorem c63 {n : Nat} (hn : 1 ≤ n) (g x : M) (H : AHeap) : evalFn S n (.fn 63 [.imm (M.row g) 0]) [.agg (M.row x)] H = some (.ret (.bool (x.crew == g.crew && decide (x.rank = g.rank))), H) := by
  obtain ⟨n, rfl⟩ : ∃ m, n = m + 1 := ⟨n - 1, by omega⟩
  refine fn_ret (S := S) (sf := sf63) rfl (S_fn rfl) rfl ?_
  simp only [sf63, codeP, opsP, drawP]
  repeat' (conv => whnf
           first | refine ⟨_, rfl, ?_⟩ | refine Br.mk (fun _ => ?_) (fun _ => ?_) | refine ⟨_, _, .inl ⟨rfl, ?_⟩⟩ | fail)
  all_goals try (conv => whnf)
  all_goals try first | exact ⟨by simp_all [packR] <;> omega, rfl⟩ | (exfalso; simp_all; done) | (exfalso; simp_all; omega)

theorem c84 {n : Nat} (hn : 1 ≤ n) (g x : G) (H : AHeap) : evalFn S n (.fn 84 [.imm (G.row g) 0]) [.agg (G.row x)] H = some (.ret (.bool (x.name == g.name)), H) := by
  obtain ⟨n, rfl⟩ : ∃ m, n = m + 1 := ⟨n - 1, by omega⟩
  refine fn_ret (S := S) (sf := sf84) rfl (S_fn rfl) rfl ?_
  simp only [sf84, codeP, opsP, drawP]
  repeat' (conv => whnf
           first | refine ⟨_, rfl, ?_⟩ | refine Br.mk (fun _ => ?_) (fun _ => ?_) | refine ⟨_, _, .inl ⟨rfl, ?_⟩⟩ | fail)
  all_goals try (conv => whnf)
  all_goals try first | exact ⟨by simp_all [packR] <;> omega, rfl⟩ | (exfalso; simp_all; done) | (exfalso; simp_all; omega)
end Go.AM.Wc
