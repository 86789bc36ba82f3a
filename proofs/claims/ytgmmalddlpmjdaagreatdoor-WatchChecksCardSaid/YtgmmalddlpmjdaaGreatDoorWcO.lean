/- WatchChecks answers true. -/
import Derived.Test.YtgmmalddlpmjdaaGreatDoorWcN
import Derived.Test.YtgmmalddlpmjdaaGreatDoorWcWakes
import Derived.Test.YtgmmalddlpmjdaaGreatDoorWcEnv
set_option linter.unusedVariables false
set_option linter.unusedSimpArgs false
namespace Go.AM.Wc
open Go Go.AM
theorem KS : KOK K S := ⟨rfl, fun g kf h => BT.All.get kfT_all h⟩
theorem c5 {n : Nat} (hn : 1000 ≤ n) : evalFn S n (.fn 5 []) [] ⟨0, []⟩ = some (.ret (.bool true), ⟨0, []⟩) := by
  obtain ⟨⟨r, H⟩, h1, h2⟩ := callB_ok KS 1000 _ _ _ _ wakes_true
  have h3 : r = .ret (.bool true) ∧ H = ⟨0, []⟩ := by
    simp only [isT] at h2
    split at h2
    · split at h2
      · rename_i hb
        refine ⟨rfl, ?_⟩
        obtain ⟨nx, bs⟩ := H
        simp only at hb h2
        subst hb
        rw [Nat.eq_of_beq_eq_true h2]
      · cases h2
    · cases h2
  obtain ⟨rfl, rfl⟩ := h3
  exact evalFn_mono hn h1
theorem vq_ge : ∀ (l : List Q) (n : Int), n ≤ vq l n
  | [], n => by rw [vq]; omega
  | q :: r, n => by
    rw [vq]
    split
    · have h1 := vq_ge r (n + q.gs.list.length + (q.name.length : Int).tdiv 10)
      have h2 := tdiv_le (a := q.name.length)
      omega
    · omega
theorem vq_all : ∀ (l : List Q) (n : Int), 0 ≤ n → vq l n ≤ 60 → ∀ (i : Nat) (h : i < l.length), (l[i]).gs.list.length ≤ 60
  | [], n, _, _, i, h => by simp at h
  | q :: r, n, h0, hv, i, h => by
    rw [vq] at hv
    split at hv
    · have h1 := vq_ge r (n + q.gs.list.length + (q.name.length : Int).tdiv 10)
      have h2 := tdiv_le (a := q.name.length)
      cases i with
      | zero => show q.gs.list.length ≤ 60; omega
      | succ i => exact vq_all r _ (by omega) hv i (by simpa using h)
    · omega
theorem vm_ge : ∀ (l : List M) (n : Int), n ≤ vm l n
  | [], n => by rw [vm]; omega
  | m :: r, n => by
    rw [vm]
    split
    · have h1 := vm_ge r (n + ((m.name.length : Int) + m.crew.length).tdiv 10)
      have h2 := tdiv_le (a := m.name.length + m.crew.length)
      rw [Int.natCast_add] at h2
      omega
    · omega
theorem small_of {p : P} (h : vastS p = false) : p.small := by
  have h := of_decide_eq_false h
  have h1 := vm_ge p.ms.list (vq p.qs.list (p.qs.list.length + p.ms.list.length + p.as.list.length))
  have h2 := vq_ge p.qs.list (p.qs.list.length + p.ms.list.length + p.as.list.length)
  have h3 := vq_all p.qs.list (p.qs.list.length + p.ms.list.length + p.as.list.length) (by omega) (by omega)
  exact ⟨by omega, by omega, by omega, fun i hi => by have := h3 i hi; omega⟩
theorem printS_tup (p : P) : ∃ s z, printS p = .tup [.str s, .int .i64 z] := by
  unfold printS
  split
  · split
    · exact ⟨_, _, rfl⟩
    · exact ⟨_, _, rfl⟩
  · exact ⟨_, _, rfl⟩
theorem errorS_tup (g : G) (t : Int) : ∃ a z, errorS g t = .tup [.int .i64 a, .int .i64 z] := by
  unfold errorS
  split
  · exact ⟨_, _, rfl⟩
  · exact ⟨_, _, rfl⟩
theorem sameL_refl {α : Type} {f : α → α → Bool} (h : ∀ x, f x x = true) : ∀ l : List α, sameL f l l = true
  | [] => rfl
  | x :: r => by rw [sameL, h, sameL_refl h r]; rfl
theorem sameP_refl (p : P) : sameP p p = true := by
  have hg : ∀ x, sameG x x = true := fun x => by simp [sameG]
  have hq : ∀ x, sameQ x x = true := fun x => by simp [sameQ, sameL_refl hg]
  have hm : ∀ x, sameM x x = true := fun x => by simp [sameM]
  have ha : ∀ x, sameA x x = true := fun x => by simp [sameA]
  simp [sameP, sameL_refl hq, sameL_refl hm, sameL_refl ha]
set_option maxHeartbeats 16000000 in
set_option maxRecDepth 100000 in
theorem c3 {n : Nat} (hn : 1001 ≤ n) (p o : P) (g : G) (t : Int) (hp : p.fits) (ho : o.fits) : evalFn S n (.fn 3 []) [.agg p.row, .agg o.row, .agg g.row, .int .i64 t] ⟨0, []⟩ = some (.ret (.bool true), ⟨0, []⟩) := by
  obtain ⟨n, rfl⟩ : ∃ m, n = m + 1 := ⟨n - 1, by omega⟩
  refine fn_ret (S := S) (sf := sf3) rfl (S_fn rfl) rfl ?_
  simp only [sf3, codeP, opsP, drawP]
  by_cases hv : vastS p = true ∨ vastS o = true
  · skip
    repeat' (conv => whnf
             first | refine ⟨_, rfl, ?_⟩ | refine Br.mk (fun _ => ?_) (fun _ => ?_) | refine ⟨_, _, .inl ⟨rfl, ?_⟩⟩ | refine ⟨_, _, ⟨rfl, c4 (by omega) _ hp _⟩, ?_⟩ | refine ⟨_, _, ⟨rfl, c4 (by omega) _ ho _⟩, ?_⟩ | refine ⟨_, _, ⟨rfl, c5 (by omega)⟩, ?_⟩ | fail)
    all_goals try (conv => whnf)
    all_goals first
      | exact ⟨rfl, rfl⟩
      | (exfalso; simp_all; done)
  have hvp : vastS p = false := by simpa using fun h => hv (.inl h)
  have hvo : vastS o = false := by simpa using fun h => hv (.inr h)
  have sp := small_of hvp
  obtain ⟨s, z, hs⟩ := printS_tup p
  obtain ⟨a, y, he⟩ := errorS_tup g t
  have h6 := c6 (n := n) (by omega) p 0
  have h7 := c7 (n := n) (by omega) p 0
  rw [hs] at h6 h7
  have h12 := c12 (n := n) (by omega) g t ⟨0, []⟩
  have h13 := c13 (n := n) (by omega) g t ⟨0, []⟩
  rw [he] at h12 h13
  repeat' (conv => whnf
           first | refine ⟨_, rfl, ?_⟩ | refine Br.mk (fun _ => ?_) (fun _ => ?_) | refine ⟨_, _, .inl ⟨rfl, ?_⟩⟩ | refine ⟨_, _, ⟨rfl, c4 (by omega) _ hp _⟩, ?_⟩ | refine ⟨_, _, ⟨rfl, c4 (by omega) _ ho _⟩, ?_⟩ | refine ⟨_, _, ⟨rfl, h6⟩, ?_⟩ | refine ⟨_, _, ⟨rfl, h7⟩, ?_⟩ | refine ⟨_, _, ⟨rfl, c8 (by omega) _ _⟩, ?_⟩ | refine ⟨_, _, ⟨rfl, c9 (by omega) _ _⟩, ?_⟩ | refine ⟨_, _, ⟨rfl, c10 (by omega) _ _ sp _⟩, ?_⟩ | refine ⟨_, _, ⟨rfl, c11 (by omega) _ _ sp _⟩, ?_⟩ | refine ⟨_, _, ⟨rfl, h12⟩, ?_⟩ | refine ⟨_, _, ⟨rfl, h13⟩, ?_⟩ | refine ⟨_, _, ⟨rfl, c5 (by omega)⟩, ?_⟩ | fail)
  all_goals try (conv => whnf)
  all_goals first
    | exact ⟨rfl, rfl⟩
    | (exfalso; simp_all [sameP_refl]; done)
end Go.AM.Wc
