/- The specification's Decimal: the decimal numeral. -/
import Derived.Test.YtgmmalddlpmjdaaGreatDoorWcJ
import Derived.Lib.ItoaLen
set_option linter.unusedVariables false
set_option linter.unusedSimpArgs false
namespace Go.AM.Wc
open Go Go.AM
theorem strAdd {isC gd : Bool} {q : Option EqT} {x y : List UInt8} (h : x.length + y.length ≤ 9223372036854775807) : abinS isC gd q .add (.str x) (.str y) = some (.str (x ++ y)) := by
  simp only [abinS, strBin, if_pos h]
theorem dig_len (u : Nat) (h : u ≤ 4000000000000000000) : (Lib.decDigits u).length ≤ 21 := by
  have := Lib.itoa_length_le (u : Int) (by omega) (by omega)
  rwa [Lib.itoa_nonneg] at this
theorem dig_one {m : Nat} (hm : m ≤ 4000000000000000000) : UInt8.ofNat (IntKind.wrap .u8 (IntKind.wrap .i64 (48 + (m : Int).tmod 10))).toNat = UInt8.ofNat (48 + m % 10) := by
  have e : (m : Int).tmod 10 = ((m % 10 : Nat) : Int) := by rw [Int.tmod_eq_emod_of_nonneg (by omega)]; omega
  rw [e, IntWalk.i64_in _ (by omega), IntWalk.u8_in _ (by omega)]
  congr 1
set_option maxHeartbeats 4000000 in
set_option maxRecDepth 100000 in
theorem c56p (H : AHeap) : ∀ (d m : Nat), m < 10 ^ (d + 1) → m ≤ 4000000000000000000 → ∀ {n : Nat}, d + 2 ≤ n → evalFn S n (.fn 56 []) [.int .i64 m] H = some (.ret (.str (Lib.decDigits m)), H) := by
  intro d
  induction d with
  | zero =>
    intro m hm h18 n hn
    obtain ⟨n, rfl⟩ : ∃ m, n = m + 1 := ⟨n - 1, by omega⟩
    refine fn_ret (S := S) (sf := sf56) rfl (S_fn rfl) rfl ?_
    simp only [sf56, codeP, opsP, drawP]
    repeat' (conv => whnf
             first | refine ⟨_, rfl, ?_⟩ | refine Br.mk (fun _ => ?_) (fun _ => ?_) | refine ⟨_, _, .inl ⟨rfl, ?_⟩⟩ | fail)
    all_goals try (conv => whnf)
    all_goals try simp only [decide_eq_true_eq, decide_eq_false_iff_not, beq_iff_eq, beq_eq_false_iff_ne, Bool.not_eq_true', Bool.not_eq_false', Int.not_lt, Int.not_le, ge_iff_le, gt_iff_lt, ne_eq, bne_iff_ne, bne_eq_false_iff_eq, Sl.take_list, List.length_cons, reduceCtorEq] at *
    all_goals first
      | (exfalso; omega)
      | (refine ⟨congrArg (fun x => FR.ret (.str x)) ?_, rfl⟩
         rw [Lib.decDigits_one (by omega)]
         show [UInt8.ofNat _] = _
         rw [dig_one h18]
         congr 2; omega)
  | succ d ih =>
    intro m hm h18 n hn
    have hrec : ∀ {k : Nat}, d + 2 ≤ k → evalFn S k (.fn 56 []) [.int .i64 (IntKind.wrap .i64 ((m : Int).tdiv 10))] H = some (.ret (.str (Lib.decDigits (m / 10))), H) := by
      intro k hk
      have e : IntKind.wrap .i64 ((m : Int).tdiv 10) = ((m / 10 : Nat) : Int) := by
        rw [Int.tdiv_eq_ediv_of_nonneg (by omega), IntWalk.i64_in _ (by omega)]; omega
      rw [e]
      exact ih _ (by rw [Nat.pow_succ] at hm; omega) (by omega) hk
    have hl := dig_len (m / 10) (by omega)
    obtain ⟨n, rfl⟩ : ∃ m, n = m + 1 := ⟨n - 1, by omega⟩
    refine fn_ret (S := S) (sf := sf56) rfl (S_fn rfl) rfl ?_
    simp only [sf56, codeP, opsP, drawP]
    repeat' (conv => whnf
             first | refine ⟨_, strAdd (by simp only [List.length_append, List.length_cons, List.length_nil]; omega), ?_⟩ | refine ⟨_, rfl, ?_⟩ | refine Br.mk (fun _ => ?_) (fun _ => ?_) | refine ⟨_, _, .inl ⟨rfl, ?_⟩⟩ | refine ⟨_, _, ⟨rfl, hrec (by omega)⟩, ?_⟩ | fail)
    all_goals try (conv => whnf)
    all_goals try simp only [decide_eq_true_eq, decide_eq_false_iff_not, beq_iff_eq, beq_eq_false_iff_ne, Bool.not_eq_true', Bool.not_eq_false', Int.not_lt, Int.not_le, ge_iff_le, gt_iff_lt, ne_eq, bne_iff_ne, bne_eq_false_iff_eq, Sl.take_list, List.length_cons, reduceCtorEq] at *
    all_goals first
      | (exfalso; omega)
      | (refine ⟨congrArg (fun x => FR.ret (.str x)) ?_, rfl⟩
         rw [Lib.decDigits_one (by omega)]
         show [UInt8.ofNat _] = _
         rw [dig_one h18]
         congr 2; omega)
      | (refine ⟨congrArg (fun x => FR.ret (.str x)) ?_, rfl⟩
         rw [Lib.decDigits.eq_def m, dif_neg (by omega)]
         show _ ++ [UInt8.ofNat _] = _
         rw [dig_one h18])
set_option maxHeartbeats 4000000 in
set_option maxRecDepth 100000 in
theorem c56n (H : AHeap) : ∀ (d u : Nat), 1 ≤ u → u < 10 ^ (d + 1) → u ≤ 4000000000000000000 → ∀ {n : Nat}, d + 3 ≤ n → evalFn S n (.fn 56 []) [.int .i64 (-(u : Int))] H = some (.ret (.str (45 :: Lib.decDigits u)), H) := by
  intro d
  induction d with
  | zero =>
    intro u h1 hu h18 n hn
    have hrec : ∀ {k : Nat}, 2 ≤ k → evalFn S k (.fn 56 []) [.int .i64 (IntKind.wrap .i64 (0 - (-(u : Int))))] H = some (.ret (.str (Lib.decDigits u)), H) := by
      intro k hk
      have e : IntKind.wrap .i64 (0 - (-(u : Int))) = (u : Int) := by rw [IntWalk.i64_in _ (by omega)]; omega
      rw [e]
      exact c56p H 0 u hu h18 hk
    have hl := dig_len u (by omega)
    obtain ⟨n, rfl⟩ : ∃ m, n = m + 1 := ⟨n - 1, by omega⟩
    refine fn_ret (S := S) (sf := sf56) rfl (S_fn rfl) rfl ?_
    simp only [sf56, codeP, opsP, drawP]
    repeat' (conv => whnf
             first | refine ⟨_, strAdd (by simp only [List.length_append, List.length_cons, List.length_nil]; omega), ?_⟩ | refine ⟨_, rfl, ?_⟩ | refine Br.mk (fun _ => ?_) (fun _ => ?_) | refine ⟨_, _, .inl ⟨rfl, ?_⟩⟩ | refine ⟨_, _, ⟨rfl, hrec (by omega)⟩, ?_⟩ | fail)
    all_goals try (conv => whnf)
    all_goals try simp only [decide_eq_true_eq, decide_eq_false_iff_not, beq_iff_eq, beq_eq_false_iff_ne, Bool.not_eq_true', Bool.not_eq_false', Int.not_lt, Int.not_le, ge_iff_le, gt_iff_lt, ne_eq, bne_iff_ne, bne_eq_false_iff_eq, Sl.take_list, List.length_cons, reduceCtorEq] at *
    all_goals first
      | (exfalso; omega)
      | exact ⟨rfl, rfl⟩
  | succ d ih =>
    intro u h1 hu h18 n hn
    have hrec : ∀ {k : Nat}, 2 ≤ k → u < 10 → evalFn S k (.fn 56 []) [.int .i64 (IntKind.wrap .i64 (0 - (-(u : Int))))] H = some (.ret (.str (Lib.decDigits u)), H) := by
      intro k hk h10
      have e : IntKind.wrap .i64 (0 - (-(u : Int))) = (u : Int) := by rw [IntWalk.i64_in _ (by omega)]; omega
      rw [e]
      exact c56p H 0 u (by omega) h18 hk
    have hr1 : ∀ {k : Nat}, d + 3 ≤ k → ¬ u < 10 → evalFn S k (.fn 56 []) [.int .i64 (IntKind.wrap .i64 ((-(u : Int)).tdiv 10))] H = some (.ret (.str (45 :: Lib.decDigits (u / 10))), H) := by
      intro k hk h10
      have e : IntKind.wrap .i64 ((-(u : Int)).tdiv 10) = -((u / 10 : Nat) : Int) := by
        rw [Int.neg_tdiv, Int.tdiv_eq_ediv_of_nonneg (by omega), IntWalk.i64_in _ (by omega)]; omega
      rw [e]
      exact ih _ (by omega) (by rw [Nat.pow_succ] at hu; omega) (by omega) hk
    have hr2 : ∀ {k : Nat}, 2 ≤ k → evalFn S k (.fn 56 []) [.int .i64 (IntKind.wrap .i64 (0 - (-(u : Int)).tmod 10))] H = some (.ret (.str (Lib.decDigits (u % 10))), H) := by
      intro k hk
      have e : IntKind.wrap .i64 (0 - (-(u : Int)).tmod 10) = ((u % 10 : Nat) : Int) := by
        rw [Int.neg_tmod, Int.tmod_eq_emod_of_nonneg (by omega), IntWalk.i64_in _ (by omega)]; omega
      rw [e]
      exact c56p H 0 _ (by omega) (by omega) hk
    have hl := dig_len u (by omega)
    have hl1 := dig_len (u / 10) (by omega)
    have hl2 := dig_len (u % 10) (by omega)
    obtain ⟨n, rfl⟩ : ∃ m, n = m + 1 := ⟨n - 1, by omega⟩
    refine fn_ret (S := S) (sf := sf56) rfl (S_fn rfl) rfl ?_
    simp only [sf56, codeP, opsP, drawP]
    repeat' (conv => whnf
             first | refine ⟨_, strAdd (by simp only [List.length_append, List.length_cons, List.length_nil]; omega), ?_⟩ | refine ⟨_, rfl, ?_⟩ | refine Br.mk (fun _ => ?_) (fun _ => ?_) | refine ⟨_, _, .inl ⟨rfl, ?_⟩⟩ | refine ⟨_, _, ⟨rfl, hrec (by omega) (by have := of_decide_eq_false ‹decide (-(u : Int) < -9) = false›; omega)⟩, ?_⟩ | refine ⟨_, _, ⟨rfl, hr1 (by omega) (by have := of_decide_eq_true ‹decide (-(u : Int) < -9) = true›; omega)⟩, ?_⟩ | refine ⟨_, _, ⟨rfl, hr2 (by omega)⟩, ?_⟩ | fail)
    all_goals try (conv => whnf)
    all_goals try simp only [decide_eq_true_eq, decide_eq_false_iff_not, beq_iff_eq, beq_eq_false_iff_ne, Bool.not_eq_true', Bool.not_eq_false', Int.not_lt, Int.not_le, ge_iff_le, gt_iff_lt, ne_eq, bne_iff_ne, bne_eq_false_iff_eq, Sl.take_list, List.length_cons, reduceCtorEq] at *
    all_goals first
      | (exfalso; omega)
      | exact ⟨rfl, rfl⟩
      | (refine ⟨congrArg (fun x => FR.ret (.str x)) ?_, rfl⟩
         rw [Lib.decDigits.eq_def u, dif_neg (by omega), Lib.decDigits_one (i := u % 10) (by omega)]
         rfl)
theorem c56 {n : Nat} (hn : 30 ≤ n) (z : Int) (h1 : -1000000000 ≤ z) (h2 : z ≤ 1000000000) (H : AHeap) : evalFn S n (.fn 56 []) [.int .i64 z] H = some (.ret (.str (Lib.itoa z)), H) := by
  by_cases hz : z < 0
  · obtain ⟨u, rfl⟩ : ∃ u : Nat, z = -(u : Int) := ⟨z.natAbs, by omega⟩
    rw [Lib.itoa_neg u (by omega)]
    exact c56n H 10 u (by omega) (by omega) (by omega) (by omega)
  · obtain ⟨u, rfl⟩ : ∃ u : Nat, z = (u : Int) := ⟨z.toNat, by omega⟩
    rw [Lib.itoa_nonneg]
    exact c56p H 10 u (by omega) (by omega) (by omega)
end Go.AM.Wc
