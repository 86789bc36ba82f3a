/- AM: append and copy are sound. AM: copy; freezing; every operation together. AM: an operation of the model does what AM says. AM: regions in the order of the text, code without ranges over functions, function bodies are sound. -/
import Derived.Test.YtgmmalddlpmjdaaGreatDoorAmOpB
import Derived.RangeFuncIn
import Derived.RangeFuncLeaves
import Derived.RangeFuncRecord
import Derived.OrdersIn
import Derived.LoopNIn
set_option linter.unusedVariables false
set_option linter.unusedSimpArgs false
namespace Go.AM
open Go Go.RowKit

section
variable {E : Env} {w0 : World} {c : Ctx} {H : AHeap} {w w' : World}

theorem VRelss.append : ∀ {r1 r2 : List (List AV)} {u1 u2 : List Value}, VRels c w r1.flatten u1 → VRelss c w r2 u2 → VRelss c w (r1 ++ r2) (u1 ++ u2)
  | [], r2, u1, u2, h, k => by
    simp only [List.flatten_nil, VRels] at h
    subst h
    exact k
  | r :: rs, r2, u1, u2, h, k => by
    simp only [List.flatten_cons] at h
    obtain ⟨h1, h2⟩ := h.split
    have hl := h.length
    simp only [List.length_append] at hl
    simp only [List.cons_append, VRelss]
    refine ⟨by rw [List.take_append_of_le_length (by omega)]; exact h1, ?_⟩
    rw [List.drop_append_of_le_length (by omega)]
    exact VRelss.append h2 k
/-- Rows written over rows. -/
theorem VRelss.over {rows xs : List (List AV)} {us vs : List Value} {sz p : Nat} (h : VRelss c w rows us) (hs : ∀ row, row ∈ rows → row.length = sz) (hx : VRels c w xs.flatten vs) (hxs : ∀ row, row ∈ xs → row.length = sz) (hp : p ≤ rows.length) :
    VRelss c w (rows.take p ++ xs ++ rows.drop (p + xs.length)) (us.take (p * sz) ++ vs ++ us.drop (p * sz + vs.length)) := by
  have hvl := hx.length
  rw [flatten_len hxs] at hvl
  have h1 := (h.take p).flat
  rw [flatten_len (sz := sz) (fun row hm => hs row (List.mem_of_mem_take hm)), List.length_take, Nat.min_eq_left hp] at h1
  have h2 := h.drop hs (p + xs.length)
  rw [List.append_assoc, List.append_assoc]
  refine VRelss.append h1 (VRelss.append hx ?_)
  rw [hvl, ← Nat.add_mul]
  exact h2

/-- The block of a slice given up is another slice's block. -/
theorem Rel.reuse (R : Rel E w0 c H w) {id sz : Nat} {rows : List (List AV)} {l l' : Loc} {cs cs' : Array Value} {t : TypeId} {blk : ABlk} (hg : H.get id = some (.cells sz rows)) (hl : c.rho id = some l) (hll : l'.blk = l.blk)
    (hh : w.heap[l.blk]? = some (.cells cs t (0, 0))) (hB : ∀ c' W, (∀ id x, c.rho id = some x → c'.rho id = some x) → (∀ b, c.I b → c'.I b) → (∀ b, c.I b → W.heap[b]? = w.heap[b]?) → W.heap[l.blk]? = some (.cells cs' t (0, 0)) → BRel E c' W l' blk) :
    Ext c H w (c.addR H.next l') ((H.free id).add blk) (w.setRow l.blk cs') ∧ Rel E w0 (c.addR H.next l') ((H.free id).add blk) (w.setRow l.blk cs') := by
  obtain ⟨l0, h1, h2, h3, h4⟩ := R.live id _ hg
  rw [hl] at h1
  cases h1
  have hkeep : ∀ b, c.I b → (w.setRow l.blk cs').heap[b]? = w.heap[b]? := fun b h => setRow_other w _ _ _ (fun e => h2 (e ▸ h))
  have hrho := addR_old R l'
  have hnx : (H.free id).next = H.next := rfl
  have hget : ∀ i, (((H.free id).add blk).get i).isSome = true → i = H.next ∨ ((H.get i).isSome = true ∧ i ≠ id) := by
    intro i h
    rw [AHeap.get_add, AHeap.get_free] at h
    by_cases hi : i = id
    · rw [if_pos hi] at h
      simp only [hnx] at h
      split at h
      · rename_i e; exact .inl e
      · cases h
    · rw [if_neg hi] at h
      cases hgi : H.get i with
      | none =>
        rw [hgi] at h
        simp only [hnx] at h
        split at h
        · rename_i e; exact .inl e
        · cases h
      | some x => exact .inr ⟨rfl, hi⟩
  have hnew : (c.addR H.next l').rho H.next = some l' := by simp [Ctx.addR]
  have hold : ∀ i x, (H.get i).isSome = true → (c.addR H.next l').rho i = some x → c.rho i = some x := by
    intro i x hg h
    have := R.hdom i hg
    simp only [Ctx.addR] at h
    rwa [if_neg (by omega)] at h
  have hsize : (w.setRow l.blk cs').heap.size = w.heap.size := size_setRow _ _ _
  refine ⟨⟨hrho, fun b h => h, fun b h => .inl h, Nat.le_succ _, by rw [hsize]; exact Nat.le_refl _, hkeep, fun b hb hn => setRow_other w _ _ _ (fun e => hn id l (by rw [hg]; rfl) hl e.symm), fun i x h5 h6 => ?_⟩,
    ⟨fun i x h => ?_, fun i h => ?_, fun i b h => ?_, fun i i' x x' h5 h6 hne h7 h8 => ?_, fun b h => by rw [hsize]; exact R.ilt b h, R.old, ?_,
      fun g row h => VRel.mono (c := c) (w := w) hrho (fun b h => h) hkeep _ _ (R.glob g row h)⟩⟩
  · rcases hget i h5 with rfl | ⟨hgi, _⟩
    · rw [hnew] at h6; cases h6; exact .inr ⟨id, l, by rw [hg]; rfl, hl, hll.symm⟩
    · exact .inr ⟨i, x, hgi, hold i x hgi h6, rfl⟩
  · simp only [Ctx.addR] at h
    show i < H.next + 1
    split at h
    · rename_i e; omega
    · have := R.dom i x h; omega
  · show i < H.next + 1
    rcases hget i h with rfl | ⟨hgi, _⟩
    · omega
    · have := R.hdom i hgi; omega
  · by_cases hi : i = H.next
    · subst hi
      have hb : b = blk := by
        rw [AHeap.get_add, AHeap.get_free] at h
        have hnone := R.get_next
        by_cases e : H.next = id
        · rw [if_pos e] at h; simp only [hnx, if_true] at h; cases h; rfl
        · rw [if_neg e, hnone] at h; simp only [hnx, if_true] at h; cases h; rfl
      subst hb
      refine ⟨l', hnew, fun hI => ?_, by rw [hsize, hll]; exact h3, hB _ _ hrho (fun b h => h) hkeep (setRow_heap w _ _ _ _ _ hh)⟩
      rw [hll] at hI
      exact h2 hI
    · have hgi : H.get i = some b ∧ i ≠ id := by
        rw [AHeap.get_add, AHeap.get_free] at h
        by_cases e : i = id
        · rw [if_pos e] at h; simp only [hnx] at h; rw [if_neg hi] at h; cases h
        · rw [if_neg e] at h
          refine ⟨?_, e⟩
          cases hgi : H.get i with
          | none => rw [hgi] at h; simp only [hnx] at h; rw [if_neg hi] at h; cases h
          | some y => rw [hgi] at h; exact h
      obtain ⟨l2, h5, h6, h7, h8⟩ := R.live i _ hgi.1
      refine ⟨l2, hrho _ _ h5, h6, by rw [hsize]; exact h7, BRel.mono (c := c) hrho (fun b h => h) hkeep (setRow_other w _ _ _ ?_) h8⟩
      exact R.inj i id l2 l (by rw [hgi.1]; rfl) (by rw [hg]; rfl) hgi.2 h5 hl
  · rcases hget i h5 with rfl | ⟨hgi, hi⟩ <;> rcases hget i' h6 with rfl | ⟨hgi', hi'⟩
    · exact absurd rfl hne
    · rw [hnew] at h7
      cases h7
      rw [hll]
      exact fun e => R.inj i' id x' l hgi' (by rw [hg]; rfl) hi' (hold i' x' hgi' h8) hl e.symm
    · rw [hnew] at h8
      cases h8
      rw [hll]
      exact R.inj i id x l hgi (by rw [hg]; rfl) hi (hold i x hgi h7) hl
    · exact R.inj i i' x x' hgi hgi' hne (hold i x hgi h7) (hold i' x' hgi' h8)
  · have hge : w0.heap.size ≤ l.blk := by
      rcases Nat.lt_or_ge l.blk w0.heap.size with h | h
      · exact absurd (R.old _ h) h2
      · exact h
    exact R.below.trans ⟨rfl, rfl, rfl, by rw [hsize]; exact Nat.le_refl _, fun k hk => setRow_other w _ _ _ (by omega)⟩

/-! ### The model's append, by its two ways -/
def notInt (P : Program) (t : Nat) : Prop := (∃ e, P.underlying t = some (.slice e)) ∨ P.underlying t = some .string
theorem run_app_fits {P : Program} {t tx ty e n sLen sCap m : Nat} {base : Option Addr} {x : Value} {news : List Value} (ht : P.underlying t = some (.slice e)) (hx : notInt P tx) (hn : szT P e = some n) (hl : (Builtin.lenOf x).run P w = .ok m w)
    (hf : (Builtin.firstCells n m x).run P w = .ok news.toArray w) (hroom : sLen + m ≤ sCap) :
    (Builtin.append_ #[t, tx] ty #[.slice base sLen sCap, x]).run P w = match base with
      | none => .ok (.slice none (sLen + m) sCap) w
      | some a => ((storeCells (a.add (sLen * n)) news).run P w).andThen fun _ w' => .ok (.slice (some a) (sLen + m) sCap) w' := by
  rcases hx with ⟨e', hd⟩ | hd
  · cases base with
    | none => simp [Builtin.append_, run_underlying ht, run_underlying hd, run_szT hn, hl, hroom, hf]
    | some a => simp [Builtin.append_, run_underlying ht, run_underlying hd, run_szT hn, hl, hroom, hf]
  · cases base with
    | none => simp [Builtin.append_, run_underlying ht, run_underlying hd, run_szT hn, hl, hroom, hf]
    | some a => simp [Builtin.append_, run_underlying ht, run_underlying hd, run_szT hn, hl, hroom, hf]
theorem run_app_grows {P : Program} {t tx ty e n sLen sCap m bytes : Nat} {base : Option Addr} {x z : Value} {olds news : List Value} {i : TypeInfo} (ht : P.underlying t = some (.slice e)) (hx : notInt P tx) (hi : P.info? e = some i) (hin : i.size = n) (hib : i.bytes = bytes) (hz : i.zero = some z) (hl : (Builtin.lenOf x).run P w = .ok m w)
    (ho : (Builtin.firstCells n sLen (.slice base sLen sCap)).run P w.drew = .ok olds.toArray w.drew) (hf : (Builtin.firstCells n m x).run P w.drew = .ok news.toArray w.drew) (hg : sCap < sLen + m) (h63 : sLen + m ≤ 9223372036854775807) (hb : (sLen + m) * bytes ≤ 140737488355328) :
    (Builtin.append_ #[t, tx] ty #[.slice base sLen sCap, x]).run P w =
      .ok (.slice (some ⟨w.heap.size, 0, none⟩) (sLen + m) (grownCap w (sLen + m) sCap e)) (w.drew.alloc (.cells (olds ++ news ++ (Builtin.zeroCells z.cells (grownCap w (sLen + m) sCap e - (sLen + m))).toList).toArray e)) := by
  subst hin; subst hib
  have hn : ¬ (sLen + m ≤ sCap) := by omega
  have h63' : ¬ (9223372036854775807 < ((sLen : Int) + (m : Int))) := by omega
  have h48' : ¬ (281474976710656 < Builtin.nextslicecap (sLen + m) sCap * i.bytes) := by have := growslice_fits hg hb; omega
  rcases hx with ⟨e', hd⟩ | hd <;> simp [Builtin.append_, run_underlying ht, run_underlying hd, sizeOf, typeInfo, zeroValue, hi, hz, hl, hn, h63', h48', Question.forced, hf, ho, newRow, grownCap] <;> (congr 2; apply Array.ext'; simp)

theorem all_len {xs : List (List AV)} {n : Nat} (h : xs.all (fun r => r.length == n && r.all AV.cell) = true) : (∀ row, row ∈ xs → row.length = n) ∧ xs.flatten.all AV.cell = true := by
  simp only [List.all_eq_true, Bool.and_eq_true, beq_iff_eq] at h
  refine ⟨fun row hr => (h row hr).1, ?_⟩
  simp only [List.all_eq_true, List.mem_flatten]
  rintro x ⟨row, hr, hx⟩
  exact (h row hr).2 x hx
theorem all_len' {xs : List (List AV)} {n : Nat} (h : xs.all (fun r => r.length == n) = true) : ∀ row, row ∈ xs → row.length = n := by
  simp only [List.all_eq_true, beq_iff_eq] at h
  exact h
/-- A grown row: a new mutable block. -/
theorem grown_rel (R : Rel E w0 c H w) {n len m cap : Nat} {rows xs : List (List AV)} {olds news : List Value} {z : Array Value} {e : TypeId} (hn : ∀ row, row ∈ rows → row.length = n) (hxs : ∀ row, row ∈ xs → row.length = n) (hz : z.size = n)
    (ho : VRels c w rows.flatten olds) (hw : VRels c w xs.flatten news) (hl : rows.length = len) (hm : xs.length = m) (hcap : len + m ≤ cap) :
    Ext c H w (c.addR H.next ⟨w.heap.size, 0, n, cap * n⟩) (H.add (.cells n (rows ++ xs))) (w.drew.alloc (.cells (olds ++ news ++ (Builtin.zeroCells z (cap - (len + m))).toList).toArray e)) ∧
    Rel E w0 (c.addR H.next ⟨w.heap.size, 0, n, cap * n⟩) (H.add (.cells n (rows ++ xs))) (w.drew.alloc (.cells (olds ++ news ++ (Builtin.zeroCells z (cap - (len + m))).toList).toArray e)) ∧
    VRel (c.addR H.next ⟨w.heap.size, 0, n, cap * n⟩) (w.drew.alloc (.cells (olds ++ news ++ (Builtin.zeroCells z (cap - (len + m))).toList).toArray e)) (.msl H.next 0 (len + m) none) (.slice (some ⟨w.heap.size, 0, none⟩) (len + m) cap) := by
  have hol := ho.length
  have hnl := hw.length
  rw [flatten_len hn, hl] at hol
  rw [flatten_len hxs, hm] at hnl
  have hbel : Below w.heap.size w (w.drew.alloc (.cells (olds ++ news ++ (Builtin.zeroCells z (cap - (len + m))).toList).toArray e)) := ((Below.refl _ w).drew).alloc (by simp) _
  have htot : (olds ++ news ++ (Builtin.zeroCells z (cap - (len + m))).toList).toArray.size = cap * n := by
    simp only [List.size_toArray, List.length_append, Array.length_toList, size_zeroCells, hz, hol, hnl]
    rw [← Nat.add_mul, ← Nat.add_mul]
    congr 1; omega
  have hnew : (w.drew.alloc (.cells (olds ++ news ++ (Builtin.zeroCells z (cap - (len + m))).toList).toArray e)).heap[w.heap.size]? = some (.cells (olds ++ news ++ (Builtin.zeroCells z (cap - (len + m))).toList).toArray e) := heap_alloc_new w.drew _
  generalize (w.drew.alloc (.cells (olds ++ news ++ (Builtin.zeroCells z (cap - (len + m))).toList).toArray e)) = W at hbel hnew ⊢
  have hWs : w.heap.size < W.heap.size := (Array.getElem?_eq_some_iff.1 hnew).1
  obtain ⟨h1, h2⟩ := R.add hbel (l := ⟨w.heap.size, 0, n, cap * n⟩) (blk := .cells n (rows ++ xs)) (Nat.le_refl _) hWs (fun c' k1 k2 k3 => by
    refine ⟨rfl, fun row hr => ?_, _, _, hnew, htot, ?_, ?_⟩
    · rcases List.mem_append.1 hr with hr | hr
      · exact hn row hr
      · exact hxs row hr
    · simp only [List.length_append, hl, hm, Nat.zero_add]
      exact Nat.mul_le_mul_right _ hcap
    · simp only [List.drop_zero, List.toList_toArray]
      rw [List.append_assoc]
      refine VRelss.append (VRels.mono k1 k2 k3 _ _ ho) ?_
      rw [show xs = xs ++ [] from (List.append_nil xs).symm]
      exact VRelss.append (VRels.mono k1 k2 k3 _ _ hw) (by simp [VRelss]))
  refine ⟨h1, h2, ?_⟩
  simp only [VRel]
  refine ⟨⟨w.heap.size, 0, n, cap * n⟩, _, cap, by simp [Ctx.addR], rfl, fun q e => (by cases e), hcap, .inr ⟨by simp, by simp⟩⟩

theorem aappend_rel (R : Rel E w0 c H w) {t tx ty : Nat} {s x v : AV} {u z : Value} {H' : AHeap} (htx : notInt E.P tx) (hs : VRel c w s u) (hx : VRel c w x z) (h : aappend E.P H t s x = some (v, H')) :
    ∃ y c' w', (Builtin.append_ #[t, tx] ty #[u, z]).run E.P w = .ok y w' ∧ Ext c H w c' H' w' ∧ Rel E w0 c' H' w' ∧ VRel c' w' v y := by
  unfold aappend at h
  split at h
  · rename_i e ht
    simp only [Option.bind_eq_some_iff] at h
    obtain ⟨n, hn, by_, hby, zz, hzz, xs, hxs, h⟩ := h
    obtain ⟨zv, hzv, hzr, i, hi, hiz⟩ := run_zeroT (w := w) (c := c) hzz
    have hzj : isJunk zz = false := by
      simp only [zeroT, Option.bind_eq_some_iff] at hzz
      obtain ⟨_, _, _, _, hz⟩ := hzz
      exact ofConst_plain hz
    have hzc := (rowOf_rel hzr hzj).length
    simp only [Array.length_toList] at hzc
    have hin : i.size = n := by simp only [szT, hi, Option.map_some, Option.some.injEq] at hn; exact hn
    have hib : i.bytes = by_ := by simp only [byT, hi, Option.map_some, Option.some.injEq] at hby; exact hby
    split at h
    · rename_i hc
      obtain ⟨hn0, hzl, hall⟩ := hc
      obtain ⟨hxl, hxc⟩ := all_len hall
      obtain ⟨hlen, hfirst⟩ := newRows_rel R hx hxs hxl
      obtain ⟨news, hf0, hnr, hnl⟩ := hfirst xs.length (Nat.le_refl _) w (fun _ _ => rfl)
      obtain ⟨news', hf1, hnr1, hnl1⟩ := hfirst xs.length (Nat.le_refl _) w.drew (fun _ _ => rfl)
      rw [List.take_length] at hnr hnr1
      have hzs : zv.cells.size = n := by omega
      split at h
      · simp only [VRel] at hs
        subst hs
        split at h
        · rename_i hemp
          cases h
          have : xs = [] := by simpa using hemp
          subst this
          refine ⟨.slice none 0 0, c, w, ?_, Ext.refl _ _ _, R, by simp [VRel]⟩
          have := run_app_fits (ty := ty) (base := none) (sLen := 0) (sCap := 0) ht htx hn hlen hf0 (by simp)
          simpa using this
        · rename_i hemp
          split at h
          · rename_i hb
            cases h
            have hpos : 0 < xs.length := by
              cases xs with
              | nil => simp at hemp
              | cons a b => simp
            have hrun := run_app_grows (ty := ty) (base := none) (sLen := 0) (sCap := 0) (olds := []) ht htx hi hin hib hiz hlen (by simp [Builtin.firstCells]) hf1 (by omega) (by omega) (by simpa using hb.1)
            have hcap := grownCap_ge w (0 + xs.length) 0 e
            obtain ⟨h1, h2, h3⟩ := grown_rel R (rows := []) (olds := []) (e := e) (by simp) hxl hzs (by simp [VRels]) hnr1 rfl rfl hcap
            simp only [List.nil_append, Nat.zero_add, List.length_nil] at h1 h2 h3 hrun ⊢
            exact ⟨_, _, _, hrun, h1, h2, h3⟩
          · cases h
      · rename_i rows k
        have hs0 := hs
        simp only [VRel] at hs
        obtain ⟨a, k', rfl, hk, hrk, _⟩ := hs
        have := hk k rfl
        subst this
        split at h
        · rename_i hfit
          split at h
          · rename_i hemp
            cases h
            have : xs = [] := by simpa using hemp
            subst this
            refine ⟨_, c, w, ?_, Ext.refl _ _ _, R, hs0⟩
            have hne : news = [] := List.eq_nil_of_length_eq_zero (by simpa using hnl)
            subst hne
            have := run_app_fits (ty := ty) (base := some a) (sLen := rows.length) (sCap := k') ht htx hn hlen hf0 (by simpa using hrk)
            simpa [storeCells] using this
          · cases h
        · rename_i hgrow
          split at h
          · rename_i hb
            cases h
            obtain ⟨hb1, hb2, hb3⟩ := hb
            have hrl := all_len' hb3
            obtain ⟨hlen2, hfirst2⟩ := newRows_rel R (x := .isl rows (some k')) (rows := rows) hs0 rfl hrl
            obtain ⟨olds, ho, hor, hol⟩ := hfirst2 rows.length (Nat.le_refl _) w.drew (fun _ _ => rfl)
            rw [List.take_length] at hor
            have hrun := run_app_grows (ty := ty) (base := some a) (sLen := rows.length) (sCap := k') ht htx hi hin hib hiz hlen ho hf1 (by omega) (by omega) hb1
            have hcap := grownCap_ge w (rows.length + xs.length) k' e
            obtain ⟨h1, h2, h3⟩ := grown_rel R (e := e) hrl hxl hzs hor hnr1 rfl rfl hcap
            exact ⟨_, _, _, hrun, h1, h2, h3⟩
          · cases h
      · rename_i id lo len cap
        simp only [Option.bind_eq_some_iff] at h
        obtain ⟨⟨sz, brows⟩, hbr, h⟩ := h
        split at h
        · rename_i hc
          obtain ⟨hszn, hlo, hb1, hb2⟩ := hc
          simp only at hszn hlo h
          subst hszn
          obtain ⟨l, cs, tb, hl, hg, hI, hlt, hsz, hsize, hh, htot, hfitb, hrel⟩ := rows_rel R hbr
          have hs0 := hs
          simp only [VRel] at hs
          obtain ⟨l', a, k, hl', rfl, hk, hlk, hck⟩ := hs
          rw [hl] at hl'
          cases hl'
          have hsl : sliceRows H (.msl id lo len cap) = some ((brows.drop lo).take len) := by
            simp only [sliceRows, hbr, Option.bind_some]
            rw [if_pos hlo]
          have hrl : ∀ row, row ∈ (brows.drop lo).take len → row.length = sz := fun row hr => by rw [hsz]; exact hsize row (List.mem_of_mem_drop (List.mem_of_mem_take hr))
          have hrlen : ((brows.drop lo).take len).length = len := by simp; omega
          obtain ⟨hlen2, hfirst2⟩ := newRows_rel R (x := .msl id lo len cap) hs0 hsl hrl
          obtain ⟨olds, ho, hor, hol⟩ := hfirst2 len (by rw [hrlen]; exact Nat.le_refl _) w.drew (fun _ _ => rfl)
          rw [List.take_of_length_le (by rw [hrlen]; exact Nat.le_refl _)] at hor
          have hgrows : k < len + xs.length → ∃ y w', (Builtin.append_ #[t, tx] ty #[.slice (some a) len k, z]).run E.P w = .ok y w' ∧
              Ext c H w (c.addR H.next ⟨w.heap.size, 0, sz, grownCap w (len + xs.length) k e * sz⟩) (H.add (.cells sz ((brows.drop lo).take len ++ xs))) w' ∧
              Rel E w0 (c.addR H.next ⟨w.heap.size, 0, sz, grownCap w (len + xs.length) k e * sz⟩) (H.add (.cells sz ((brows.drop lo).take len ++ xs))) w' ∧
              VRel (c.addR H.next ⟨w.heap.size, 0, sz, grownCap w (len + xs.length) k e * sz⟩) w' (.msl H.next 0 (len + xs.length) none) y := by
            intro hgr
            have hrun := run_app_grows (ty := ty) (base := some a) (sLen := len) (sCap := k) ht htx hi hin hib hiz hlen ho hf1 hgr (by omega) hb1
            have hcap := grownCap_ge w (len + xs.length) k e
            obtain ⟨h1, h2, h3⟩ := grown_rel R (e := e) hrl hxl hzs hor hnr1 hrlen rfl hcap
            exact ⟨_, _, hrun, h1, h2, h3⟩
          have hstore : len + xs.length ≤ k → k ≠ 0 → ∃ cs' : Array Value, (Builtin.append_ #[t, tx] ty #[.slice (some a) len k, z]).run E.P w = .ok (.slice (some a) (len + xs.length) k) (w.setRow l.blk cs') ∧
              cs' = (cs.toList.take (l.base + lo * l.sz + len * sz) ++ news ++ cs.toList.drop (l.base + lo * l.sz + len * sz + news.length)).toArray ∧ a = ⟨l.blk, l.base + lo * l.sz, none⟩ ∧ l.base + (lo + k) * l.sz ≤ l.tot ∧ l.base + lo * l.sz + len * sz + news.length ≤ cs.size := by
            intro hroom hk0
            rcases hck with hck | ⟨ha, hcap⟩
            · exact absurd hck hk0
            · subst ha
              have hrun := run_app_fits (ty := ty) (base := some ⟨l.blk, l.base + lo * l.sz, none⟩) (sLen := len) (sCap := k) ht htx hn hlen hf0 hroom
              simp only [addr_add] at hrun
              have hfit : l.base + lo * l.sz + len * sz + news.length ≤ cs.size := by
                rw [htot, hnl]
                have h1 : (lo + (len + xs.length)) * sz ≤ (lo + k) * sz := Nat.mul_le_mul_right _ (by omega)
                rw [Nat.add_mul, Nat.add_mul] at h1
                rw [hsz] at h1 ⊢
                omega
              have hst := run_storeCells_at E.P l.blk (l.base + lo * l.sz + len * sz) tb news 0 cs w hh (by omega) (cells_one hnr hxc)
              simp only [Nat.add_zero] at hst
              rw [hst] at hrun
              simp only [Result.andThen_ok] at hrun
              exact ⟨_, hrun, rfl, rfl, hcap, hfit⟩
          split at h
          · rename_i k'
            have := hk k' rfl
            subst this
            split at h
            · rename_i hroom
              split at h
              · rename_i hin2
                cases h
                by_cases hk0 : k = 0
                · have hx0 : xs = [] := List.eq_nil_of_length_eq_zero (by omega)
                  subst hx0
                  have hl0 : len = 0 := by omega
                  subst hl0
                  have hne : news = [] := List.eq_nil_of_length_eq_zero (by simpa using hnl)
                  subst hne
                  have hrun := run_app_fits (ty := ty) (base := some a) (sLen := 0) (sCap := k) ht htx hn hlen hf0 hroom
                  simp only [storeCells, Sem.run_pure, Result.andThen_ok] at hrun
                  have e1 : brows.take (lo + 0) ++ [] ++ brows.drop (lo + 0 + ([] : List (List AV)).length) = brows := by simp
                  rw [e1]
                  have e2 : w.setRow l.blk cs = w := setRow_self w _ _ _ _ hh
                  obtain ⟨h1, h2⟩ := R.store (rows' := brows) (cs' := cs) hg hl hh rfl hsz hsize htot hfitb hrel
                  rw [e2] at h1 h2
                  exact ⟨_, _, _, hrun, h1, h2, hs0⟩
                · obtain ⟨cs', hrun, hcs', ha, hcap, hfit⟩ := hstore hroom hk0
                  have hover := hrel.over hsize hnr (by rw [← hsz]; exact hxl) (p := lo + len) hlo
                  have hcsl : cs.toList.length = cs.size := Array.length_toList
                  have hmul : (lo + len) * l.sz = lo * l.sz + len * l.sz := Nat.add_mul ..
                  have hmul2 : (lo + len + xs.length) * l.sz = lo * l.sz + len * l.sz + xs.length * l.sz := by rw [Nat.add_mul, Nat.add_mul]
                  have hmul3 : (lo + len + xs.length) * l.sz ≤ brows.length * l.sz := Nat.mul_le_mul_right _ (by omega)
                  have hrowlen : (brows.take (lo + len) ++ xs ++ brows.drop (lo + len + xs.length)).length = brows.length := by simp; omega
                  obtain ⟨h1, h2⟩ := R.store (rows' := brows.take (lo + len) ++ xs ++ brows.drop (lo + len + xs.length)) (cs' := cs') hg hl hh (by
                      rw [hcs']
                      simp only [List.size_toArray, List.length_append, List.length_take, List.length_drop, hcsl]
                      omega) hsz (fun row hr => by
                      rcases List.mem_append.1 hr with hr | hr
                      · rcases List.mem_append.1 hr with hr | hr
                        · exact hsize row (List.mem_of_mem_take hr)
                        · rw [← hsz]; exact hxl row hr
                      · exact hsize row (List.mem_of_mem_drop hr)) htot (by rw [hrowlen]; exact hfitb) (by
                      rw [hcs']
                      have e1 : (cs.toList.take (l.base + lo * l.sz + len * sz) ++ news ++ cs.toList.drop (l.base + lo * l.sz + len * sz + news.length)).drop l.base =
                          (cs.toList.drop l.base).take ((lo + len) * l.sz) ++ news ++ (cs.toList.drop l.base).drop ((lo + len) * l.sz + news.length) := by
                        rw [List.append_assoc, List.drop_append_of_le_length (by rw [List.length_take]; omega), List.drop_take, List.drop_drop, List.append_assoc]
                        rw [hsz, hmul]
                        congr 2
                        · congr 1; omega
                        · congr 1; omega
                      simp only [List.toList_toArray]
                      rw [e1]
                      exact hover)
                  refine ⟨_, _, _, hrun, h1, h2, ?_⟩
                  simp only [VRel]
                  exact ⟨l, a, k, hl, rfl, fun m e => by cases e; rfl, hroom, .inr ⟨ha, hcap⟩⟩
              · cases h
            · rename_i hroom
              cases h
              obtain ⟨y, w', h1, h2, h3, h4⟩ := hgrows (by omega)
              exact ⟨y, _, w', h1, h2, h3, h4⟩
          · cases h
            by_cases hroom : len + xs.length ≤ k
            · by_cases hk0 : k = 0
              · have hx0 : xs = [] := List.eq_nil_of_length_eq_zero (by omega)
                subst hx0
                have hl0 : len = 0 := by omega
                subst hl0
                have hne : news = [] := List.eq_nil_of_length_eq_zero (by simpa using hnl)
                subst hne
                have hrun := run_app_fits (ty := ty) (base := some a) (sLen := 0) (sCap := k) ht htx hn hlen hf0 hroom
                simp only [storeCells, Sem.run_pure, Result.andThen_ok] at hrun
                have e2 : w.setRow l.blk cs = w := setRow_self w _ _ _ _ hh
                obtain ⟨h1, h2⟩ := R.reuse (l' := l) (cs' := cs) (blk := .cells sz ((brows.drop lo).take 0 ++ [])) hg hl rfl hh (fun c' W k1 k2 k3 k4 => by
                  refine ⟨hsz, by simp, cs, tb, k4, htot, by simp; omega, by simp [VRelss]⟩)
                rw [e2] at h1 h2
                refine ⟨_, _, _, hrun, h1, h2, ?_⟩
                simp only [VRel]
                exact ⟨l, a, k, by simp [Ctx.addR], rfl, fun m e => (by cases e), hroom, .inl hk0⟩
              · obtain ⟨cs', hrun, hcs', ha, hcap, hfit⟩ := hstore hroom hk0
                have hcsl : cs.toList.length = cs.size := Array.length_toList
                have hmulk : (lo + k) * l.sz = lo * l.sz + k * l.sz := Nat.add_mul ..
                have hmull : (len + xs.length) * l.sz = len * l.sz + xs.length * l.sz := Nat.add_mul ..
                have hmulr : (len + xs.length) * l.sz ≤ k * l.sz := Nat.mul_le_mul_right _ hroom
                obtain ⟨h1, h2⟩ := R.reuse (l' := ⟨l.blk, l.base + lo * l.sz, sz, l.tot⟩) (cs' := cs') (blk := .cells sz ((brows.drop lo).take len ++ xs)) hg hl rfl hh (fun c' W k1 k2 k3 k4 => by
                  refine ⟨rfl, fun row hr => ?_, cs', tb, k4, ?_, ?_, ?_⟩
                  · rcases List.mem_append.1 hr with hr | hr
                    · exact hrl row hr
                    · exact hxl row hr
                  · show cs'.size = l.tot
                    rw [hcs']
                    simp only [List.size_toArray, List.length_append, List.length_take, List.length_drop, hcsl]
                    omega
                  · simp only [List.length_append, hrlen]
                    rw [hsz]
                    omega
                  · have hold := ((hrel.drop hsize lo).take len).flat
                    have hflen : ((brows.drop lo).take len).flatten.length = len * l.sz := by rw [flatten_len hrl, hrlen, hsz]
                    rw [hflen, List.drop_drop] at hold
                    have e1 : cs'.toList.drop (l.base + lo * l.sz) = (cs.toList.drop (l.base + lo * l.sz)).take (len * l.sz) ++ (news ++ cs.toList.drop (l.base + lo * l.sz + len * sz + news.length)) := by
                      rw [hcs']
                      simp only [List.toList_toArray]
                      rw [List.append_assoc, List.drop_append_of_le_length (by rw [List.length_take]; rw [hsz] at hfit ⊢; omega), List.drop_take, hsz]
                      congr 2
                      omega
                    show VRelss c' W ((brows.drop lo).take len ++ xs) (cs'.toList.drop (l.base + lo * l.sz))
                    rw [e1]
                    refine VRelss.append (VRels.mono k1 k2 k3 _ _ hold) ?_
                    rw [show xs = xs ++ [] from (List.append_nil xs).symm]
                    exact VRelss.append (VRels.mono k1 k2 k3 _ _ hnr) (by simp [VRelss]))
                refine ⟨_, _, _, hrun, h1, h2, ?_⟩
                simp only [VRel]
                refine ⟨⟨l.blk, l.base + lo * l.sz, sz, l.tot⟩, a, k, by simp [Ctx.addR], rfl, fun m e => (by cases e), hroom, .inr ⟨?_, ?_⟩⟩
                · rw [ha]; simp
                · rw [hsz]
                  simp only [Nat.zero_add]
                  omega
            · obtain ⟨y, w', h1, h2, h3, h4⟩ := hgrows (by omega)
              obtain ⟨g1, g2⟩ := R.free id
              have hgr2 : k < len + xs.length := by omega
              have hrun := run_app_grows (ty := ty) (base := some a) (sLen := len) (sCap := k) ht htx hi hin hib hiz hlen ho hf1 hgr2 (by omega) hb1
              have hcap := grownCap_ge w (len + xs.length) k e
              obtain ⟨m1, m2, m3⟩ := grown_rel g2 (e := e) hrl hxl hzs hor hnr1 hrlen rfl hcap
              exact ⟨_, _, _, hrun, g1.trans R m1, m2, m3⟩
        · cases h
      · cases h
    · cases h
  · cases h
end
end Go.AM
set_option linter.unusedVariables false
set_option linter.unusedSimpArgs false
namespace Go.AM
open Go Go.RowKit

section
variable {E : Env} {w0 : World} {c : Ctx} {H : AHeap} {w w' : World}

theorem VRels.front {rows : List (List AV)} {us : List Value} {sz k : Nat} (h : VRels c w rows.flatten us) (hs : ∀ row, row ∈ rows → row.length = sz) (hk : k ≤ rows.length) : VRels c w (rows.take k).flatten (us.take (k * sz)) := by
  have h1 := h.take (k * sz)
  have e : rows.flatten.take (k * sz) = (rows.take k).flatten := by
    have h2 : rows = rows.take k ++ rows.drop k := (List.take_append_drop k rows).symm
    have h3 : (rows.take k).flatten.length = k * sz := by rw [flatten_len (sz := sz) (fun row hr => hs row (List.mem_of_mem_take hr)), List.length_take, Nat.min_eq_left hk]
    conv => lhs; rw [h2, List.flatten_append]
    rw [List.take_left' h3]
  rwa [e] at h1
theorem acopy_rel (R : Rel E w0 c H w) {t tx ty : Nat} {d s v : AV} {u z : Value} {H' : AHeap} (hd : VRel c w d u) (hs : VRel c w s z) (h : acopy E.P H t d s = some (v, H')) :
    ∃ y w', (Builtin.copy_ #[t, tx] ty #[u, z]).run E.P w = .ok y w' ∧ Ext c H w c H' w' ∧ Rel E w0 c H' w' ∧ VRel c w' v y := by
  unfold acopy at h
  split at h
  · rename_i e id lo len cap ht
    simp only [Option.bind_eq_some_iff] at h
    obtain ⟨n, hn, xs, hxs, ⟨sz, brows⟩, hbr, h⟩ := h
    split at h
    · rename_i hc
      obtain ⟨hszn, hlo, hall⟩ := hc
      simp only at hszn hlo h
      subst hszn
      cases h
      obtain ⟨hxl, hxc⟩ := all_len hall
      obtain ⟨hlen, hfirst⟩ := newRows_rel R hs hxs hxl
      obtain ⟨news, hf0, hnr, hnl⟩ := hfirst (min xs.length len) (Nat.min_le_left _ _) w (fun _ _ => rfl)
      obtain ⟨l, cs, tb, hl, hg, hI, hlt, hsz, hsize, hh, htot, hfitb, hrel⟩ := rows_rel R hbr
      simp only [VRel] at hd
      obtain ⟨l', a, k, hl', rfl, hk, hlk, hck⟩ := hd
      rw [hl] at hl'
      cases hl'
      have htk : xs.take (min xs.length len) = xs.take len := by
        rcases Nat.le_total xs.length len with h | h
        · rw [Nat.min_eq_left h, List.take_length, List.take_of_length_le h]
        · rw [Nat.min_eq_right h]
      rw [htk] at hnr
      have htkl : (xs.take len).length = min xs.length len := by rw [List.length_take, Nat.min_comm]
      have hxtl : ∀ row, row ∈ xs.take len → row.length = l.sz := fun row hr => by rw [← hsz]; exact hxl row (List.mem_of_mem_take hr)
      have hover := hrel.over hsize hnr hxtl (p := lo) (by omega)
      have hcell : (xs.take len).flatten.all AV.cell = true := by
        rw [List.all_eq_true] at hxc ⊢
        intro x hx
        obtain ⟨row, hr, hx⟩ := List.mem_flatten.1 hx
        exact hxc x (List.mem_flatten.2 ⟨row, List.mem_of_mem_take hr, hx⟩)
      have hcsl : cs.toList.length = cs.size := Array.length_toList
      have hmul : (lo + min xs.length len) * l.sz = lo * l.sz + (min xs.length len) * l.sz := Nat.add_mul ..
      have hmul3 : (lo + min xs.length len) * l.sz ≤ brows.length * l.sz := Nat.mul_le_mul_right _ (by omega)
      rw [hsz] at hnl
      have hrowlen : (brows.take lo ++ xs.take len ++ brows.drop (lo + min xs.length len)).length = brows.length := by
        simp only [List.length_append, List.length_take, List.length_drop]; omega
      rw [htkl] at hover
      obtain ⟨h1, h2⟩ := R.store (rows' := brows.take lo ++ xs.take len ++ brows.drop (lo + min xs.length len)) (cs' := (cs.toList.take (l.base + lo * l.sz) ++ news ++ cs.toList.drop (l.base + lo * l.sz + news.length)).toArray) hg hl hh (by
          simp only [List.size_toArray, List.length_append, List.length_take, List.length_drop, hcsl]
          omega) hsz (fun row hr => by
          rcases List.mem_append.1 hr with hr | hr
          · rcases List.mem_append.1 hr with hr | hr
            · exact hsize row (List.mem_of_mem_take hr)
            · exact hxtl row hr
          · exact hsize row (List.mem_of_mem_drop hr)) htot (by rw [hrowlen]; exact hfitb) (by
          have e1 : (cs.toList.take (l.base + lo * l.sz) ++ news ++ cs.toList.drop (l.base + lo * l.sz + news.length)).drop l.base =
              (cs.toList.drop l.base).take (lo * l.sz) ++ news ++ (cs.toList.drop l.base).drop (lo * l.sz + news.length) := by
            rw [List.append_assoc, List.drop_append_of_le_length (by rw [List.length_take]; omega), List.drop_take, List.drop_drop, List.append_assoc]
            congr 2
            · congr 1; omega
            · congr 1; omega
          simp only [List.toList_toArray]
          rw [e1]
          exact hover)
      refine ⟨.int .i64 (min xs.length len : Nat), _, ?_, h1, h2, by simp [VRel]⟩
      have hmin : Nat.min xs.length len = min xs.length len := rfl
      have hst : (storeCells a news).run E.P w = .ok () (w.setRow l.blk (cs.toList.take (l.base + lo * l.sz) ++ news ++ cs.toList.drop (l.base + lo * l.sz + news.length)).toArray) := by
        rcases hck with hck | ⟨rfl, hcap⟩
        · have h0 : len = 0 := by omega
          have hm0 : min xs.length len = 0 := by omega
          have hne : news = [] := List.eq_nil_of_length_eq_zero (by rw [hnl, hm0, Nat.zero_mul])
          subst hne
          simp only [storeCells, Sem.run_pure, List.append_nil, List.length_nil, Nat.add_zero, List.take_append_drop, Array.toArray_toList]
          rw [setRow_self w _ _ _ _ hh]
        · have := run_storeCells_at E.P l.blk (l.base + lo * l.sz) tb news 0 cs w hh (by omega) (cells_one hnr hcell)
          simpa only [Nat.add_zero] using this
      have hf0' : (Builtin.firstCells sz (Nat.min xs.length len) z).run E.P w = .ok news.toArray w := hf0
      simp only [Builtin.copy_, List.getElem?_toArray, List.getElem?_cons_zero, List.getElem?_cons_succ, Sem.run_bind, run_underlying ht, Result.andThen_ok, hlen, run_szT hn, hf0', hst, Sem.run_pure]
      rfl
    · cases h
  · cases h

/-! ### Freezing -/
theorem freezeV_rel (R : Rel E w0 c H w) {x : AV} {v : Value} (hv : VRel c w x v) :
    ∃ c', Ext c H w c' (freezeV H x).2 w ∧ Rel E w0 c' (freezeV H x).2 w ∧ VRel c' w (freezeV H x).1 v := by
  unfold freezeV
  split
  · rename_i id
    split
    · rename_i sz row hr
      obtain ⟨l, cs, t, hl, hg, hI, hlt, hsz, hsize, hh, htot, hfit, hrel⟩ := rows_rel R hr
      obtain ⟨h1, h2⟩ := R.freeze hg hl
      refine ⟨_, h1, h2, ?_⟩
      simp only [VRel] at hv ⊢
      obtain ⟨l', hl', rfl⟩ := hv
      rw [hl] at hl'
      cases hl'
      simp only [VRelss] at hrel
      refine ⟨l.blk, l.base, cs, t, (0, 0), by simp, .inr rfl, hh, ?_⟩
      exact h1.vrels hrel.1
    · exact ⟨c, Ext.refl _ _ _, R, hv⟩
  · rename_i id lo len cap
    split
    · rename_i sz rows hr
      split
      · rename_i hle
        obtain ⟨l, cs, t, hl, hg, hI, hlt, hsz, hsize, hh, htot, hfit, hrel⟩ := rows_rel R hr
        obtain ⟨h1, h2⟩ := R.freeze hg hl
        refine ⟨_, h1, h2, ?_⟩
        simp only [VRel] at hv ⊢
        obtain ⟨l', a, k, hl', rfl, hk, hlk, hck⟩ := hv
        rw [hl] at hl'
        cases hl'
        have hlen : ((rows.drop lo).take len).length = len := by simp; omega
        refine ⟨a, k, by rw [hlen], hk, by rw [hlen]; exact hlk, ?_⟩
        rcases hck with h0 | ⟨rfl, _⟩
        · left
          have : len = 0 := by omega
          subst this
          simp
        · right
          refine ⟨cs, t, (0, 0), l.sz, rfl, .inr rfl, hh, fun row hm => hsize row (List.mem_of_mem_drop (List.mem_of_mem_take hm)), ?_⟩
          have := (hrel.drop hsize lo).take len
          rw [List.drop_drop] at this
          exact VRelss.mono h1.rho h1.imm h1.keep _ _ this
      · exact ⟨c, Ext.refl _ _ _, R, hv⟩
    · exact ⟨c, Ext.refl _ _ _, R, hv⟩
  · exact ⟨c, Ext.refl _ _ _, R, hv⟩
theorem FrRel.freeze {nt : Nat} {fr : Fr} {a : Act} {t : Nat} {x : AV} (hf : FrRel c w nt fr a) (ht : t < nt) (hv : VRel c w x (a.tmps.getD t undef)) : FrRel c w nt (fr.put t x) a := by
  refine ⟨hf.size, fun s v e => ?_⟩
  rw [Fr.get_put] at e
  split at e
  · rename_i h; subst h; cases e; exact ⟨ht, hv⟩
  · exact hf.val s v e
theorem freezeFr_rel : ∀ (l : List Nat) {c : Ctx} {H : AHeap} {nt : Nat} {fr : Fr} {a : Act} (R : Rel E w0 c H w) (hf : FrRel c w nt fr a),
    ∃ c', Ext c H w c' (freezeFr l fr H).2 w ∧ Rel E w0 c' (freezeFr l fr H).2 w ∧ FrRel c' w nt (freezeFr l fr H).1 a
  | [], c, H, nt, fr, a, R, hf => ⟨c, Ext.refl _ _ _, R, hf⟩
  | t :: l, c, H, nt, fr, a, R, hf => by
    simp only [freezeFr, List.foldl_cons]
    cases hg : fr.get t with
    | none => exact freezeFr_rel l R hf
    | some v =>
      obtain ⟨ht, hv⟩ := hf.val t v hg
      obtain ⟨c1, h1, h2, h3⟩ := freezeV_rel R hv
      obtain ⟨c2, k1, k2, k3⟩ := freezeFr_rel l h2 ((hf.ext h1).freeze ht h3)
      exact ⟨c2, h1.trans R k1, k2, k3⟩
theorem Fr.get_drop : ∀ {fr : Fr} {l : List Nat} {s : Nat} {v : AV}, (fr.drop l).get s = some v → l.elem s = false → fr.get s = some v := by
  intro fr l s v h hl
  induction fr with
  | nil => simp [Fr.drop, Fr.get] at h
  | cons p r ih =>
    obtain ⟨k, u⟩ := p
    simp only [Fr.drop] at h
    simp only [Fr.get]
    split at h
    · rename_i hk
      split
      · rename_i e; subst e; rw [hl] at hk; cases hk
      · exact ih h
    · simp only [Fr.get] at h
      split at h
      · rename_i e; rw [if_pos e]; exact h
      · rename_i e; rw [if_neg e]; exact ih h
theorem Fr.get_drop_mem : ∀ {fr : Fr} {l : List Nat} {s : Nat} {v : AV}, (fr.drop l).get s = some v → l.elem s = false := by
  intro fr l s v h
  induction fr with
  | nil => simp [Fr.drop, Fr.get] at h
  | cons p r ih =>
    obtain ⟨k, u⟩ := p
    simp only [Fr.drop] at h
    split at h
    · exact ih h
    · rename_i hk
      simp only [Fr.get] at h
      split at h
      · rename_i e; subst e; simpa using hk
      · exact ih h
theorem FrRel.drop {nt : Nat} {fr : Fr} {a : Act} (hf : FrRel c w nt fr a) (l : List Nat) : FrRel c w nt (fr.drop l) a :=
  ⟨hf.size, fun t v e => hf.val t v (Fr.get_drop e (Fr.get_drop_mem e))⟩
theorem finish_rel {nt : Nat} {fr : Fr} {a : Act} {ra : RAnn} (R : Rel E w0 c H w) (hf : FrRel c w nt fr a) :
    ∃ c', Ext c H w c' (finish ra fr H).2 w ∧ Rel E w0 c' (finish ra fr H).2 w ∧ FrRel c' w nt (finish ra fr H).1 a := by
  obtain ⟨c', h1, h2, h3⟩ := freezeFr_rel ra.freeze R hf
  exact ⟨c', h1, h2, h3.drop _⟩
end
end Go.AM
set_option linter.unusedVariables false
set_option linter.unusedSimpArgs false
namespace Go.AM
open Go Go.RowKit

/-- What is asked of the program once: the functions that AM calls have a body; the parts that it runs. -/
structure EnvOK (E : Env) : Prop where
  fns : ∀ g, E.fns g = true → ∃ fn, E.P.funcs[g]? = some fn ∧ fn.body.isSome = true ∧ (fn.name == "runtime.NumGoroutine") = false
  mixed : E.P.follows .mixedOrders = true

section
variable {E : Env} {w0 : World} {c : Ctx} {H : AHeap} {w w' : World}

def ExecOK (E : Env) (w0 : World) (c : Ctx) (H : AHeap) (w : World) (a : Act) (o : Oper) : OpR → Prop
  | .val v H' => ∃ u c' w', (execOp a.eval o).run E.P w = .ok (.value u) w' ∧ Ext c H w c' H' w' ∧ Rel E w0 c' H' w' ∧ VRel c' w' v u
  | .skip H' => ∃ c' w', (execOp a.eval o).run E.P w = .ok .skip w' ∧ Ext c H w c' H' w' ∧ Rel E w0 c' H' w'
  | .call (.fn g caps) args => E.fns g = true → ∃ us : Array Value, (execOp a.eval o).run E.P w = .ok (.enter g us) w ∧ VRels c w (args ++ caps) us.toList
  | .call (.yld l) args => ∃ (lc : Loc) (us : Array Value), c.rho l = some lc ∧ (execOp a.eval o).run E.P w = (Instr.yield lc.blk us).run E.P w ∧ VRels c w args us.toList
  | .call _ _ => False
  | .pan v => ∃ u, (execOp a.eval o).run E.P w = .halt (.panic u) w ∧ VRel c w v u
  | .dfr _ _ => True

theorem ok_val (R : Rel E w0 c H w) {a : Act} {o : Oper} {x : Option AV} {r : OpR} (h : ofVal H x = some r) (hx : ∀ v, x = some v → ∃ u, (execOp a.eval o).run E.P w = .ok (.value u) w ∧ VRel c w v u) : ExecOK E w0 c H w a o r := by
  simp only [ofVal, Option.map_eq_some_iff] at h
  obtain ⟨v, hv, rfl⟩ := h
  obtain ⟨u, h1, h2⟩ := hx v hv
  exact ⟨u, c, w, h1, Ext.refl _ _ _, R, h2⟩
theorem ok_valH {a : Act} {o : Oper} {x : Option (AV × AHeap)} {r : OpR} (h : ofValH x = some r) (hx : ∀ v H', x = some (v, H') → ∃ u c' w', (execOp a.eval o).run E.P w = .ok (.value u) w' ∧ Ext c H w c' H' w' ∧ Rel E w0 c' H' w' ∧ VRel c' w' v u) : ExecOK E w0 c H w a o r := by
  simp only [ofValH, Option.map_eq_some_iff] at h
  obtain ⟨⟨v, H'⟩, hv, rfl⟩ := h
  exact hx v H' hv

theorem list1 {α : Type} {x : Array α} {a : α} (h : x.toList = [a]) : x = #[a] := by
  have := congrArg List.toArray h; simpa using this
theorem list2 {α : Type} {x : Array α} {a b : α} (h : x.toList = [a, b]) : x = #[a, b] := by
  have := congrArg List.toArray h; simpa using this

theorem exec_rel (OK : EnvOK E) (R : Rel E w0 c H w) {nt i : Nat} {fr : Fr} {a : Act} {ra : RAnn} {o : Oper} {r : OpR} (hf : FrRel c w nt fr a) (h : exec E ra i fr H o = some r) : ExecOK E w0 c H w a o r := by
  unfold exec at h
  split at h
  · rename_i x ho
    exact ok_val R h fun v hv => ⟨_, by simp [execOp, ho], ev_rel R hf hv⟩
  · rename_i x ho
    exact ok_val R h fun v hv => ⟨_, by simp [execOp, ho], ev_rel R hf hv⟩
  · rename_i cc x y ho
    simp only [Option.bind_eq_some_iff] at h
    obtain ⟨cv, hc, h⟩ := h
    have hcr := ev_rel R hf hc
    split at h
    · rename_i b
      simp only [VRel] at hcr
      refine ok_val R h fun v hv => ⟨if b then a.eval x else a.eval y, by simp [execOp, ho, hcr, asBool], ?_⟩
      cases b
      · exact ev_rel R hf hv
      · exact ev_rel R hf hv
    · cases h
  · rename_i t ho
    simp only [Option.bind_eq_some_iff] at h
    obtain ⟨z, hz, row, hrow, h⟩ := h
    refine ok_valH h fun v H' hv => ?_
    obtain ⟨c', w', h1, h2, h3, h4⟩ := exec_alloc_rel R hz hrow
    have he : newS H row = (v, H') := by injection hv
    rw [he] at h2 h3 h4
    exact ⟨_, c', w', by simp [execOp, ho, h1], h2, h3, h4⟩
  · rename_i t x ho
    simp only [Option.bind_eq_some_iff] at h
    obtain ⟨v, hv, h⟩ := h
    split at h
    · cases h
    · rename_i hj
      refine ok_valH h fun v' H' hv' => ?_
      obtain ⟨c', w', h1, h2, h3, h4⟩ := exec_box_rel R (b := ra.imm.elem i) (t := t) (ev_rel R hf hv) (by simpa using hj)
      have he : box (ra.imm.elem i) H (rowOf v) = (v', H') := by injection hv'
      rw [he] at h2 h3 h4
      exact ⟨_, c', w', by simp [execOp, ho, h1], h2, h3, h4⟩
  · rename_i t ps ho
    simp only [Option.bind_eq_some_iff] at h
    obtain ⟨vs, hvs, h⟩ := h
    refine ok_val R h fun v hv => ?_
    have hp := evP_rel R hf hvs
    obtain ⟨u, h1, h2⟩ := abuild_rel (P := E.P) (us := ps.map fun (i, x) => (i, a.eval x)) (by simpa using hp) hv
    exact ⟨u, by simp only [execOp, ho, Sem.run_bind, h1, Result.andThen_ok, Sem.run_pure], h2⟩
  · rename_i t n ps ho
    simp only [Option.bind_eq_some_iff] at h
    obtain ⟨vs, hvs, h⟩ := h
    refine ok_valH h fun v H' hv => ?_
    have hp := evP_rel R hf hvs
    obtain ⟨u, c', w', h1, h2, h3, h4⟩ := abuildSlice_rel R (us := ps.map fun (i, x) => (i, a.eval x)) (by simpa using hp) hv
    exact ⟨u, c', w', by simp only [execOp, ho, Sem.run_bind, h1, Result.andThen_ok, Sem.run_pure], h2, h3, h4⟩
  · rename_i t x ho
    simp only [Option.bind_eq_some_iff] at h
    obtain ⟨av, hav, h⟩ := h
    refine ok_val R h fun v hv => ?_
    obtain ⟨u, h1, h2⟩ := aload_rel R (ev_rel R hf hav) hv
    exact ⟨u, by simp only [execOp, ho, Sem.run_bind, h1, Result.andThen_ok, Sem.run_pure], h2⟩
  · rename_i t x y ho
    simp only [Option.bind_eq_some_iff, Option.map_eq_some_iff] at h
    obtain ⟨av, hav, xv, hxv, H', hs, rfl⟩ := h
    obtain ⟨w', h1, h2, h3⟩ := astore_rel R (ev_rel R hf hav) (ev_rel R hf hxv) hs
    exact ⟨c, w', by simp only [execOp, ho, Sem.run_bind, h1, Result.andThen_ok, Sem.run_pure], h2, h3⟩
  · rename_i x ho
    simp only [Option.bind_eq_some_iff] at h
    obtain ⟨v, hv, h⟩ := h
    have hr := ev_rel R hf hv
    split at h
    · refine ok_val R h fun v' hv' => ?_
      cases hv'
      refine ⟨a.eval x, ?_, hr⟩
      simp only [VRel] at hr
      obtain ⟨b, o', cs, t, fr', he, _⟩ := hr
      simp [execOp, ho, he]
    · refine ok_val R h fun v' hv' => ?_
      cases hv'
      refine ⟨a.eval x, ?_, hr⟩
      simp only [VRel] at hr
      obtain ⟨l, _, he⟩ := hr
      simp [execOp, ho, he]
    · refine ok_val R h fun v' hv' => ?_
      cases hv'
      refine ⟨a.eval x, ?_, hr⟩
      simp only [VRel] at hr
      obtain ⟨us, he, _⟩ := hr
      simp [execOp, ho, he]
    · refine ok_val R h fun v' hv' => ?_
      cases hv'
      refine ⟨a.eval x, ?_, hr⟩
      simp only [VRel] at hr
      obtain ⟨l, _, he⟩ := hr
      simp [execOp, ho, he]
    · refine ok_val R h fun v' hv' => ?_
      cases hv'
      refine ⟨a.eval x, ?_, hr⟩
      simp only [VRel] at hr
      obtain ⟨u, he, _⟩ := hr
      simp [execOp, ho, he]
    · cases h
  · rename_i op t x y rt ho
    simp only [Option.bind_eq_some_iff] at h
    obtain ⟨u, hu, v, hv, h⟩ := h
    refine ok_val R h fun z hz => ?_
    obtain ⟨q, h1, h2⟩ := abin_rel (P := E.P) (ev_rel R hf hu) (ev_rel R hf hv) hz
    refine ⟨q, ?_, h2⟩
    simp only [execOp, ho]
    rw [Sem.run_bind, h1]
    rfl
  · rename_i op t x ho
    simp only [Option.bind_eq_some_iff] at h
    obtain ⟨u, hu, h⟩ := h
    refine ok_val R h fun z hz => ?_
    obtain ⟨q, h1, h2⟩ := aun_rel (P := E.P) (ev_rel R hf hu) hz
    exact ⟨q, by simp only [execOp, ho, Sem.run_bind, h1, Result.andThen_ok, Sem.run_pure], h2⟩
  · rename_i s d x ho
    simp only [Option.bind_eq_some_iff] at h
    obtain ⟨u, hu, h⟩ := h
    simp only [ofVal, Option.map_eq_some_iff] at h
    obtain ⟨v, hv, rfl⟩ := h
    obtain ⟨q, c', w', h1, h2, h3, h4⟩ := aconvert_rel R (ev_rel R hf hu) hv
    exact ⟨q, c', w', by simp only [execOp, ho, Sem.run_bind, h1, Result.andThen_ok, Sem.run_pure], h2, h3, h4⟩
  · rename_i t x ho
    simp only [Option.bind_eq_some_iff] at h
    obtain ⟨u, hu, h⟩ := h
    split at h
    · cases h
    · rename_i d hd1 hd
      refine ok_val R h fun z hz => ?_
      cases hz
      refine ⟨.iface t (a.eval x), ?_, by simp only [VRel]; exact ⟨_, rfl, ev_rel R hf hu⟩⟩
      have hcon : E.P.concrete t = true := by
        unfold Program.concrete
        rw [hd]
        split <;> simp_all
      simp only [execOp, ho, Sem.run_bind, run_makeInterface w t _ hcon, Result.andThen_ok, Sem.run_pure]
    · cases h
  · rename_i f first caps ho
    split at h
    · rename_i hemp
      simp only [Option.bind_eq_some_iff] at h
      obtain ⟨cs, hcs, h⟩ := h
      refine ok_val R h fun z hz => ?_
      cases hz
      have hfe : first = #[] := by simpa using hemp
      subst hfe
      refine ⟨.func (.func f) #[] (caps.map a.eval), by simp [execOp, ho, Instr.makeFunc], ?_⟩
      simp only [VRel]
      exact ⟨_, rfl, by simpa using evs_rel R hf hcs⟩
    · cases h
  · rename_i t l k ho
    simp only [Option.bind_eq_some_iff] at h
    obtain ⟨lv, hl, kv, hk, h⟩ := h
    refine ok_valH h fun v H' hv => ?_
    obtain ⟨u, c', w', h1, h2, h3, h4⟩ := amakeSlice_rel R (ev_rel R hf hl) (ev_rel R hf hk) hv
    exact ⟨u, c', w', by simp only [execOp, ho, Sem.run_bind, h1, Result.andThen_ok, Sem.run_pure], h2, h3, h4⟩
  · rename_i t x lo hi mx ho
    simp only [Option.bind_eq_some_iff] at h
    obtain ⟨xv, hx, lov, hlo, hiv, hhi, mxv, hmx, h⟩ := h
    refine ok_val R h fun z hz => ?_
    obtain ⟨q, h1, h2⟩ := aslice_rel R (ev_rel R hf hx) (evO_rel R hf hlo) (evO_rel R hf hhi) (evO_rel R hf hmx) hz
    exact ⟨q, by simp only [execOp, ho, Sem.run_bind, h1, Result.andThen_ok, Sem.run_pure], h2⟩
  · rename_i s x f ho
    simp only [Option.bind_eq_some_iff] at h
    obtain ⟨xv, hx, h⟩ := h
    refine ok_val R h fun z hz => ?_
    obtain ⟨q, h1, h2⟩ := afieldAddr_rel (P := E.P) (ev_rel R hf hx) hz
    exact ⟨q, by simp only [execOp, ho, Sem.run_bind, h1, Result.andThen_ok, Sem.run_pure], h2⟩
  · rename_i s x f ho
    simp only [Option.bind_eq_some_iff] at h
    obtain ⟨xv, hx, h⟩ := h
    refine ok_val R h fun z hz => ?_
    obtain ⟨q, h1, h2⟩ := afield_rel (P := E.P) (ev_rel R hf hx) hz
    exact ⟨q, by simp only [execOp, ho, Sem.run_bind, h1, Result.andThen_ok, Sem.run_pure], h2⟩
  · rename_i t x ix ho
    simp only [Option.bind_eq_some_iff] at h
    obtain ⟨xv, hx, iv, hi, h⟩ := h
    refine ok_val R h fun z hz => ?_
    obtain ⟨q, h1, h2⟩ := aindexAddr_rel R (ev_rel R hf hx) (ev_rel R hf hi) hz
    exact ⟨q, by simp only [execOp, ho, Sem.run_bind, h1, Result.andThen_ok, Sem.run_pure], h2⟩
  · rename_i t x ix ho
    simp only [Option.bind_eq_some_iff] at h
    obtain ⟨xv, hx, iv, hi, h⟩ := h
    refine ok_val R h fun z hz => ?_
    obtain ⟨q, h1, h2⟩ := aindex_rel (P := E.P) (ev_rel R hf hx) (ev_rel R hf hi) hz
    exact ⟨q, by simp only [execOp, ho, Sem.run_bind, h1, Result.andThen_ok, Sem.run_pure], h2⟩
  · rename_i t ix ho
    simp only [Option.bind_eq_some_iff] at h
    obtain ⟨v, hv, h⟩ := h
    have hr := ev_rel R hf hv
    split at h
    · simp only [VRel] at hr
      obtain ⟨us, he, hus⟩ := hr
      refine ok_val R h fun z hz => ?_
      obtain ⟨u, hu, hvu⟩ := hus.get hz
      have hu' : us[ix]? = some u := by simpa using hu
      exact ⟨u, by simp [execOp, ho, he, Instr.extract, hu'], hvu⟩
    · cases h
  · rename_i x ho
    simp only [Option.bind_eq_some_iff] at h
    obtain ⟨v, hv, h⟩ := h
    have hr := ev_rel R hf hv
    split at h
    · cases h
      have hr2 := hr
      simp only [VRel] at hr2
      obtain ⟨u, he, hvu⟩ := hr2
      exact ⟨a.eval x, by simp [execOp, ho, he, Instr.panic], hr⟩
    · cases h
  · rename_i cl ho
    simp only [Option.bind_eq_some_iff] at h
    obtain ⟨args, hargs, h⟩ := h
    have har := evs_rel R hf hargs
    split at h
    · rename_i f hcal
      simp only [Option.bind_eq_some_iff] at h
      obtain ⟨fv, hfv, h⟩ := h
      have hfr := ev_rel R hf hfv
      split at h
      · rename_i g caps
        cases h
        intro hg
        obtain ⟨fn, hfn, hbody, hname⟩ := OK.fns g hg
        simp only [VRel] at hfr
        obtain ⟨us, he, hus⟩ := hfr
        have hbn : fn.body.isNone = false := by
          cases hb : fn.body with
          | none => rw [hb] at hbody; cases hbody
          | some b => rfl
        refine ⟨cl.args.map a.eval ++ us, ?_, by simpa using har.append hus⟩
        simp only [execOp, ho, Sem.run_bind, resolve, hcal, he, Deferred.ofValue, Sem.run_pure, Result.andThen_ok, invoke, callFunc, run_program, hfn]
        simp [hname, hbn]
      · cases h
        simp only [VRel] at hfr
        obtain ⟨lc, hlc, he⟩ := hfr
        refine ⟨lc, cl.args.map a.eval, hlc, ?_, by simpa using har⟩
        simp only [execOp, ho, Sem.run_bind, resolve, hcal, he, Deferred.ofValue, Sem.run_pure, Result.andThen_ok, invoke]
        simp
      · cases h
    · rename_i b hcal
      have hcal' : cl = { callee := .builtin b, args := cl.args, argTypes := cl.argTypes } := by cases cl; simp_all
      have hbase : ∀ (q : Sem Value) (S : Sem Next), S = (do pure (.value (← q))) → True := fun _ _ _ => trivial
      unfold abuiltin at h
      split at h
      · rename_i t tx s x hts
        have hts' := list2 hts
        simp only [VRels] at har
        obtain ⟨u, r1, he1, hu, z, r2, he2, hz, he3⟩ := har
        subst he3; subst he2
        have hargs' : cl.args.map a.eval = #[u, z] := list2 (by simpa using he1)
        have go : notInt E.P tx → ofValH (aappend E.P H t s x) = some r → ExecOK E w0 c H w a o r := fun hni h => by
          refine ok_valH h fun v H' hv => ?_
          obtain ⟨y, c', w', h1, h2, h3, h4⟩ := aappend_rel (ty := o.type) R hni hu hz hv
          refine ⟨y, c', w', ?_, h2, h3, h4⟩
          simp only [execOp, ho, Sem.run_bind, resolve, hcal, hargs', hts', Sem.run_pure, Result.andThen_ok, invoke, builtin, h1]
        split at h
        · rename_i e htx; exact go (.inl ⟨e, htx⟩) h
        · rename_i htx; exact go (.inr htx) h
        · cases h
      · rename_i t x hts
        have hts' := list1 hts
        simp only [VRels] at har
        obtain ⟨u, r1, he1, hu, he3⟩ := har
        subst he3
        have hargs' : cl.args.map a.eval = #[u] := list1 (by simpa using he1)
        refine ok_val R h fun v hv => ?_
        obtain ⟨y, h1, h2⟩ := alen_rel (ty := o.type) R hu hv
        refine ⟨y, ?_, h2⟩
        simp only [execOp, ho, Sem.run_bind, resolve, hcal, hargs', hts', Sem.run_pure, Result.andThen_ok, invoke, builtin, h1]
      · rename_i t x hts
        have hts' := list1 hts
        simp only [VRels] at har
        obtain ⟨u, r1, he1, hu, he3⟩ := har
        subst he3
        have hargs' : cl.args.map a.eval = #[u] := list1 (by simpa using he1)
        refine ok_val R h fun v hv => ?_
        obtain ⟨y, h1, h2⟩ := acap_rel (P := E.P) (ty := o.type) hu hv
        refine ⟨y, ?_, h2⟩
        simp only [execOp, ho, Sem.run_bind, resolve, hcal, hargs', hts', Sem.run_pure, Result.andThen_ok, invoke, builtin, h1]
      · rename_i t tx d s hts
        have hts' := list2 hts
        simp only [VRels] at har
        obtain ⟨u, r1, he1, hu, z, r2, he2, hz, he3⟩ := har
        subst he3; subst he2
        have hargs' : cl.args.map a.eval = #[u, z] := list2 (by simpa using he1)
        refine ok_valH h fun v H' hv => ?_
        obtain ⟨y, w', h1, h2, h3, h4⟩ := acopy_rel (tx := tx) (ty := o.type) R hu hz hv
        refine ⟨y, c, w', ?_, h2, h3, h4⟩
        simp only [execOp, ho, Sem.run_bind, resolve, hcal, hargs', hts', Sem.run_pure, Result.andThen_ok, invoke, builtin, h1]
      · rename_i x xs
        simp only [VRels] at har
        obtain ⟨u, r1, he1, hu, hr⟩ := har
        refine ok_val R h fun v hv => ?_
        obtain ⟨y, h1, h2⟩ := aminmax_rel (P := E.P) (b := false) hu hr hv
        refine ⟨y, ?_, h2⟩
        simp only [Bool.false_eq_true, if_false] at h1
        have he : (cl.args.map a.eval).toList = u :: r1 := by simpa using he1
        simp only [execOp, ho, Sem.run_bind, resolve, hcal, Sem.run_pure, Result.andThen_ok, invoke, builtin, Builtin.min_, he, h1]
      · rename_i x xs
        simp only [VRels] at har
        obtain ⟨u, r1, he1, hu, hr⟩ := har
        refine ok_val R h fun v hv => ?_
        obtain ⟨y, h1, h2⟩ := aminmax_rel (P := E.P) (b := true) hu hr hv
        refine ⟨y, ?_, h2⟩
        simp only [if_true] at h1
        have he : (cl.args.map a.eval).toList = u :: r1 := by simpa using he1
        simp only [execOp, ho, Sem.run_bind, resolve, hcal, Sem.run_pure, Result.andThen_ok, invoke, builtin, Builtin.max_, he, h1]
      · rename_i t v
        cases h
        simp only [VRels] at har
        obtain ⟨u, r1, he1, hu, he3⟩ := har
        subst he3
        have hargs' : cl.args.map a.eval = #[u] := list1 (by simpa using he1)
        have hu2 := hu
        simp only [VRel] at hu2
        obtain ⟨q, rfl, hq⟩ := hu2
        refine ⟨_, ?_, hu⟩
        simp [execOp, ho, resolve, hcal, hargs', invoke, builtin, Instr.panic]
      · cases h
    · cases h
  · cases h
end
end Go.AM
set_option linter.unusedVariables false
set_option linter.unusedSimpArgs false
namespace Go.AM
open Go Go.RowKit

/-- The fence: everything is let in; a round's frame, or not. -/
def FW (ro : Option Nat) : Fence := { Fence.wide with round := ro }
theorem fw_calls {ro : Option Nat} {n : Nat} {P : Program} {f : FuncId} {args : Array Value} {w : World} {R : Ending → World → Prop} (h : CallsIn Fence.wide n P f args w R) : CallsIn (FW ro) n P f args w R := h

section
variable {E : Env} {w0 : World} {c : Ctx} {H : AHeap} {w w' : World}

def ERel (c : Ctx) (w : World) : FR → Ending → Prop
  | .ret v, e => ∃ u, e = .returned u ∧ VRel c w v u
  | .pan v, e => ∃ u, e = .panicked [{ v := u, recovered := false }] ∧ VRel c w v u
/-- What a call comes to. -/
def CPost (E : Env) (w0 : World) (c : Ctx) (H : AHeap) (w : World) (r : FR × AHeap) (e : Ending) (w' : World) : Prop :=
  ∃ c', Ext c H w c' r.2 w' ∧ Rel E w0 c' r.2 w' ∧ ERel c' w' r.1 e
/-- AM's calls are sound. -/
structure CallOK (E : Env) (w0 : World) (cf : CallF) : Prop where
  known : ∀ {g : Nat} {caps args : List AV} {H : AHeap} {r : FR × AHeap}, cf (.fn g caps) args H = some r → E.fns g = true
  fn : ∀ {c : Ctx} {H : AHeap} {w : World} {g : Nat} {caps args : List AV} {us : Array Value} {r : FR × AHeap}, Rel E w0 c H w → VRels c w (args ++ caps) us.toList → cf (.fn g caps) args H = some r →
    ∀ n, CallsIn Fence.wide n E.P g us w (CPost E w0 c H w r)
  yld : ∀ {c : Ctx} {H : AHeap} {w : World} {l : Nat} {args : List AV} {us : Array Value} {r : FR × AHeap} {lc : Loc}, Rel E w0 c H w → c.rho l = some lc → VRels c w args us.toList → cf (.yld l) args H = some r →
    ∃ f tmps asg body, (Instr.yield lc.blk us).run E.P w = .ok (.round lc.blk f tmps asg body) w ∧ ∀ n, RoundIn Fence.wide n E.P lc.blk f tmps asg body w (CPost E w0 c H w r)

def DRel (c : Ctx) (w : World) : List DI → List Deferred → Prop
  | [], ds => ds = []
  | .call g caps args :: r, ds => ∃ us vs rs, ds = { target := .fn (.func g) us, args := vs } :: rs ∧ VRels c w caps us.toList ∧ VRels c w args vs.toList ∧ DRel c w r rs
  | .mark id :: r, ds => ∃ l rs, c.rho id = some l ∧ ds = { target := .collected l.blk, args := #[] } :: rs ∧ DRel c w r rs
theorem DRel.ext {c c' : Ctx} {H H' : AHeap} {w w' : World} (h : Ext c H w c' H' w') : ∀ {l : List DI} {ds : List Deferred}, DRel c w l ds → DRel c' w' l ds
  | [], ds, k => k
  | .call g caps args :: r, ds, k => by
    obtain ⟨us, vs, rs, h1, h2, h3, h4⟩ := k
    exact ⟨us, vs, rs, h1, h.vrels h2, h.vrels h3, h4.ext h⟩
  | .mark id :: r, ds, k => by
    obtain ⟨l, rs, h1, h2, h3⟩ := k
    exact ⟨l, rs, h.rho _ _ h1, h2, h3.ext h⟩

theorem sem_at {ro : Option Nat} {ρ : Operand → Value} {o : Oper} (h : ∀ c, o.op ≠ .defer c) : o.semAt ro ρ = execOp ρ o := by
  unfold Oper.semAt
  split
  · rename_i l cl he; exact absurd he (h cl)
  · rfl
theorem wanted_rel {nt : Nat} {fr : Fr} {a : Act} {ops : Array Oper} {o : Oper} {b : Bool} (hf : FrRel c w nt fr a) (h : wantedA ops.toList fr o = some b) : Region.wanted o (yielded ops a.tmps) = b := by
  unfold wantedA at h
  unfold Region.wanted
  split at h
  · rename_i hg; rw [hg]; cases h; rfl
  · rename_i j want hg
    rw [hg]
    simp only
    have hops : ops.toList[j]? = ops[j]? := by simp
    rw [hops] at h
    split at h
    · rename_i hd
      cases h
      have : yielded ops a.tmps j = none := by unfold yielded; rw [hd]; rfl
      rw [this]; rfl
    · rename_i d hd
      split at h
      · rename_i bb hgt
        cases h
        obtain ⟨hlt, hv⟩ := hf.val d _ hgt
        simp only [VRel] at hv
        have h1 : a.tmps[d]? = some (.bool bb) := by
          rw [Array.getD_eq_getD_getElem?] at hv
          have : d < a.tmps.size := by rw [hf.size]; exact hlt
          rw [Array.getElem?_eq_getElem this] at hv ⊢
          simpa using hv
        have : yielded ops a.tmps j = some bb := by unfold yielded; rw [hd]; simp [h1]
        rw [this]
        cases bb <;> cases want <;> rfl
      · rename_i xs hgt
        cases h
        obtain ⟨hlt, hv⟩ := hf.val d _ hgt
        simp only [VRel] at hv
        obtain ⟨us, hv, _⟩ := hv
        have h1 : a.tmps[d]? = some (.tuple us) := by
          rw [Array.getD_eq_getD_getElem?] at hv
          have : d < a.tmps.size := by rw [hf.size]; exact hlt
          rw [Array.getElem?_eq_getElem this] at hv ⊢
          simpa using hv
        have : yielded ops a.tmps j = none := by unfold yielded; rw [hd]; simp [h1]
        rw [this]; rfl
      · cases h
theorem exec_not_defer {ra : RAnn} {i : Nat} {fr : Fr} {o : Oper} {r : OpR} (h : exec E ra i fr H o = some r) : ∀ cl, o.op ≠ .defer cl := by
  intro cl he
  simp [exec, he] at h
theorem undef_rel : VRel c w (.tup []) undef := by simp only [VRel, VRels]; exact ⟨#[], rfl, rfl⟩

/-- One operation. -/
theorem stepOp_wp (OK : EnvOK E) {cf : CallF} (CO : CallOK E w0 cf) (R : Rel E w0 c H w) {ro : Option Nat} {n nt i j : Nat} {fr fr' : Fr} {H' : AHeap} {a : Act} {ra : RAnn} {ops : Array Oper} {o : Oper} {p : Option AV} {K : Act → World → Prop} {Q : Exit → Act → World → Prop}
    (hf : FrRel c w nt fr a) (ho : ops[i]? = some o) (h : stepOp E cf nt ra ops.toList j o fr H = some (p, fr', H'))
    (hK : p = none → ∀ c' a' w', Ext c H w c' H' w' → Rel E w0 c' H' w' → FrRel c' w' nt fr' a' → a'.defers = a.defers → K a' w')
    (hQ : ∀ v, p = some v → ∀ c' w' u, Ext c H w c' H' w' → Rel E w0 c' H' w' → FrRel c' w' nt fr' a → VRel c' w' v u → Q (.panic [{ v := u, recovered := false }]) a w') :
    wpOpIn (FW ro) n E.P ops Q i K a w := by
  unfold stepOp at h
  simp only [Option.bind_eq_some_iff] at h
  obtain ⟨b, hb, h⟩ := h
  have hw := wanted_rel hf hb
  unfold wpOpIn
  simp only [ho]
  split at h
  · rename_i hd
    have hput : ∀ (c' : Ctx) (w' : World) (v : AV) (u : Value), FrRel c' w' nt fr a → VRel c' w' v u → FrRel c' w' nt (fr.putO o.dst v) (a.put o.dst u) := fun c' w' v u k1 k2 => k1.putO hd k2
    have hdef : ∀ u, (a.put o.dst u).defers = a.defers := by intro u; cases o.dst <;> rfl
    split at h
    · rename_i hbt
      rw [hbt] at hw
      rw [if_pos hw]
      refine ⟨fun _ _ => trivial, ?_⟩
      simp only [Option.bind_eq_some_iff] at h
      obtain ⟨r, hr, h⟩ := h
      have hex := exec_rel OK R hf hr
      rw [sem_at (exec_not_defer hr)]
      split at h
      · rename_i v H1
        obtain ⟨u, c', w', h1, h2, h3, h4⟩ := hex
        cases h
        rw [h1]
        exact hK rfl c' _ w' h2 h3 (hput c' w' v u (hf.ext h2) h4) (hdef u)
      · rename_i H1
        obtain ⟨c', w', h1, h2, h3⟩ := hex
        cases h
        rw [h1]
        exact hK rfl c' _ w' h2 h3 (hput c' w' _ _ (hf.ext h2) undef_rel) (hdef _)
      · rename_i f args
        simp only [Option.bind_eq_some_iff] at h
        obtain ⟨q, hq, h⟩ := h
        have fin : ∀ e w2, CPost E w0 c H w q e w2 → (match e, w2 with
            | .returned v, w'' => K (a.put o.dst v) w''
            | .panicked chain, w'' => Q (.panic chain) a w''
            | .outgrown, _ => LetsOut Q) := by
          intro e w2 hp
          obtain ⟨c', k1, k2, k3⟩ := hp
          split at h
          · rename_i v hq1
            cases h
            rw [hq1] at k3
            obtain ⟨u, rfl, hv⟩ := k3
            exact hK rfl c' _ w2 k1 k2 (hput c' w2 v u (hf.ext k1) hv) (hdef u)
          · rename_i v hq1
            cases h
            rw [hq1] at k3
            obtain ⟨u, rfl, hv⟩ := k3
            exact hQ v rfl c' w2 u k1 k2 (hf.ext k1) hv
        cases f
        case fn g caps =>
          obtain ⟨us, h1, h2⟩ := hex (CO.known hq)
          rw [h1]
          exact ⟨fun hd => by simp [FW, Fence.wide] at hd, (fw_calls (CO.fn R h2 hq _)).mono fin⟩
        case yld l =>
          obtain ⟨lc, us, hlc, h1, h2⟩ := hex
          obtain ⟨f, tmps, asg, body, h3, h4⟩ := CO.yld R hlc h2 hq
          rw [h1, h3]
          exact ⟨fun hd => by simp [FW, Fence.wide] at hd, (show RoundIn (FW ro) _ _ _ _ _ _ _ _ _ from h4 _).mono fin⟩
        all_goals exact hex.elim
      · rename_i v
        obtain ⟨u, h1, h2⟩ := hex
        cases h
        rw [h1]
        exact hQ v rfl c w u (Ext.refl _ _ _) R hf h2
      · cases h
    · rename_i hbf
      have hbf' : b = false := by simpa using hbf
      rw [hbf'] at hw
      rw [if_neg (by rw [hw]; simp)]
      cases h
      exact ⟨fun _ _ => trivial, hK rfl c _ w (Ext.refl _ _ _) R (hput c w _ _ hf undef_rel) (hdef _)⟩
  · cases h
end
end Go.AM
