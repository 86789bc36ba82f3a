/- The library functions come to what is said of them. -/
import Derived.Test.YtgmmalddlpmjdaaGreatDoorWcWr
import Derived.Test.YtgmmalddlpmjdaaGreatDoorWcTab
import Derived.Test.YtgmmalddlpmjdaaGreatDoorWcS
import Derived.Test.YtgmmalddlpmjdaaGreatDoorAmFun
import Derived.Test.YtgmmalddlpmjdaaGreatDoorAmExt
import Derived.Lib.LaidTab
set_option linter.unusedVariables false
set_option linter.unusedSimpArgs false
namespace Go.AM.Wc
open Go Go.AM Go.Proofs Go.RowKit Go.Sort
section
variable {w0 : World} {c : Ctx} {H : AHeap} {w w' : World}
theorem grow_below (w : World) (k : Nat) (os : Array Obj) : Below w.heap.size w (grow (w.drewN k) os) :=
  ⟨rfl, rfl, rfl, by show w.heap.size ≤ (w.heap ++ os).size; rw [Array.size_append]; omega, fun j hj => by show (w.heap ++ os)[j]? = w.heap[j]?; rw [Array.getElem?_append_left hj]⟩
theorem grown_post (R : Rel E w0 c H w) (hb : Below w.heap.size w w') {v : AV} {u : Value} (hv : VRel (c.addI fun _ => False) w' v u) : CPost E w0 c H w (.ret v, H) (.returned u) w' := by
  obtain ⟨h1, h2⟩ := R.grow hb (fun _ => False) (fun b h => h.elim)
  exact ⟨_, h1, h2, u, rfl, hv⟩
theorem tab_at (R : Rel E w0 c H w) (h : Lib.TabIs Tryz.prog w0 "internal/strconv.uint64pow10" .u64 Lib.pow10Tab) : Lib.TabIs Tryz.prog w "internal/strconv.uint64pow10" .u64 Lib.pow10Tab := by
  unfold Lib.TabIs World.var? at h ⊢
  simp only [Option.bind_eq_some_iff] at h ⊢
  obtain ⟨g, hg, h⟩ := h
  refine ⟨g, hg, ?_⟩
  have hlt : g < w0.heap.size := by
    rcases Nat.lt_or_ge g w0.heap.size with h' | h'
    · exact h'
    · rw [Array.getElem?_eq_none h'] at h
      cases h
  rw [R.below.block g hlt]
  exact h
theorem str_rel (c : Ctx) (w : World) {s : List UInt8} {u : Value} (h : VRel c w (.str s) u) : u = .string ⟨s.toArray⟩ := h
theorem vrels1 {x : AV} {us : Array Value} (h : VRels c w [x] us.toList) : ∃ u, us = #[u] ∧ VRel c w x u := by
  simp only [VRels] at h
  obtain ⟨u, r, e, h1, rfl⟩ := h
  exact ⟨u, Array.toList_inj.1 e, h1⟩
theorem vrels2 {x y : AV} {us : Array Value} (h : VRels c w [x, y] us.toList) : ∃ u v, us = #[u, v] ∧ VRel c w x u ∧ VRel c w y v := by
  simp only [VRels] at h
  obtain ⟨u, r, e, h1, v, r2, rfl, h2, rfl⟩ := h
  exact ⟨u, v, Array.toList_inj.1 e, h1, h2⟩
theorem ext20 (h0 : Lib.TabIs Tryz.prog w0 "internal/strconv.uint64pow10" .u64 Lib.pow10Tab) {args : List AV} {us : Array Value} {r : FR × AHeap} (R : Rel E w0 c H w) (hv : VRels c w args us.toList) (he : eItoa args H = some r) :
    Calls Tryz.prog 20 us w (CPost E w0 c H w r) := by
  unfold eItoa at he
  split at he
  · rename_i n
    split at he
    · rename_i hr
      cases he
      obtain ⟨u, rfl, hu⟩ := vrels1 hv
      obtain rfl : u = .int .i64 n := hu
      refine (Tryz.strconv_Itoa n hr.1 hr.2 w (tab_at R h0)).mono ?_
      rintro e w' ⟨rfl, k, os, rfl⟩
      exact grown_post R (grow_below _ _ _) (by simp [VRel])
    · cases he
  · cases he
theorem strRows_cells : ∀ {rows : List (List AV)} {xs : List (List UInt8)} {us : List Value}, strRows rows = some xs → VRelss c w rows us → ∀ (j : Nat) (s : List UInt8), xs[j]? = some s → us[j]? = some (.string ⟨s.toArray⟩)
  | [], xs, us, h, _, j, s, hs => by
    simp only [strRows, Option.some.injEq] at h
    subst h
    simp at hs
  | [.str t] :: r, xs, us, h, hv, j, s, hs => by
    simp only [strRows, Option.map_eq_some_iff] at h
    obtain ⟨ys, hy, rfl⟩ := h
    simp only [VRelss, VRels, VRel, List.length_singleton] at hv
    obtain ⟨⟨u, q, e, rfl, rfl⟩, h2⟩ := hv
    cases j with
    | zero =>
      simp only [List.getElem?_cons_zero, Option.some.injEq] at hs
      subst hs
      cases us with
      | nil => simp at e
      | cons a b =>
        simp only [List.take_succ_cons, List.take_zero, List.cons.injEq, and_true] at e
        subst e
        rfl
    | succ j =>
      simp only [List.getElem?_cons_succ] at hs
      have := strRows_cells hy h2 j s hs
      rw [List.getElem?_drop] at this
      rw [← this]
      congr 1; omega
theorem strRows_len : ∀ {rows : List (List AV)} {xs : List (List UInt8)}, strRows rows = some xs → rows.length = xs.length ∧ ∀ row, row ∈ rows → row.length = 1
  | [], xs, h => by
    simp only [strRows, Option.some.injEq] at h
    subst h
    exact ⟨rfl, fun row h => by simp at h⟩
  | [.str t] :: r, xs, h => by
    simp only [strRows, Option.map_eq_some_iff] at h
    obtain ⟨ys, hy, rfl⟩ := h
    obtain ⟨h1, h2⟩ := strRows_len hy
    refine ⟨by simp [h1], fun row hr => ?_⟩
    rcases List.mem_cons.1 hr with rfl | hr
    · rfl
    · exact h2 row hr
theorem slice_cap {x : AV} {base : Option Addr} {n k : Nat} (h : VRel c w x (.slice base n k)) (hx : ∃ rows, sliceRows H x = some rows) : n ≤ k := by
  obtain ⟨rows, hx⟩ := hx
  unfold sliceRows at hx
  split at hx
  · simp only [VRel] at h
    injection h with h1 h2 h3
    omega
  · simp only [VRel] at h
    obtain ⟨a, k', h1, _, h2, _⟩ := h
    injection h1 with e1 e2 e3
    omega
  · simp only [VRel] at h
    obtain ⟨l, a, k', _, h1, _, h2, _⟩ := h
    injection h1 with e1 e2 e3
    omega
  · cases hx
theorem ext22 {args : List AV} {us : Array Value} {r : FR × AHeap} (R : Rel E w0 c H w) (hv : VRels c w args us.toList) (he : eJoin args H = some r) : Calls Tryz.prog 22 us w (CPost E w0 c H w r) := by
  unfold eJoin at he
  split at he
  · rename_i x sep
    simp only [Option.bind_eq_some_iff] at he
    obtain ⟨rows, hr, xs, hx, he⟩ := he
    split at he
    · rename_i hc
      cases he
      obtain ⟨u, v, rfl, hu, hs⟩ := vrels2 hv
      obtain rfl : v = .string ⟨sep.toArray⟩ := hs
      obtain ⟨hl, h1⟩ := strRows_len hx
      obtain ⟨base, k, rfl, h2⟩ := sliceRows_rel R hu hr h1
      have hk := slice_cap hu ⟨rows, hr⟩
      rcases h2 with rfl | ⟨b, o, cs, t, fr, rfl, hh, hss⟩
      · simp at hl; omega
      have hcell := strRows_cells hx hss
      have hmap : (xs.map fun s => (⟨s.toArray⟩ : ByteArray)).map (fun x => x.data.toList) = xs := by
        rw [List.map_map]
        exact List.map_id'' (fun s => by simp) xs
      have key := Tryz.strings_Join b o k (xs.map fun s => ⟨s.toArray⟩) ⟨sep.toArray⟩ w (fun j x hj => by
        rw [List.getElem?_map, Option.map_eq_some_iff] at hj
        obtain ⟨s, hs, rfl⟩ := hj
        have := hcell j s hs
        rw [List.getElem?_drop] at this
        simp only [World.cell?, hh]
        simpa using this) (Array.getElem?_eq_some_iff.1 hh).1 (by simpa using hc.2.1) (by simp; omega) (by rw [hmap]; simpa using hc.2.2)
      rw [hmap] at key
      rw [List.length_map, ← hl] at key
      refine key.mono ?_
      rintro e w' ⟨rfl, hb⟩
      exact grown_post R hb (by simp [VRel])
    · cases he
  · cases he
theorem L166 : Lays.n166 Tryz.prog Tryz.lays156_ren := { Tryz.lays156 with }
theorem bld_nil (R : Rel E w0 c H w) {id : Nat} {u : Value} (hg : H.get id = some (.obj 0 [])) (hu : VRel c w (.ptr id 0 0) u) :
    ∃ l p, c.rho id = some l ∧ u = .pointer (some ⟨l.blk, 0, none⟩) ∧ (p = .pointer none ∨ p = .pointer (some ⟨l.blk, 0, none⟩)) ∧ l.base = 0 ∧ w.heap[l.blk]? = some (.cells #[p, .slice none 0 0] 61 (0, 0)) := by
  obtain ⟨l, h1, _, _, h2⟩ := R.live id _ hg
  obtain ⟨p, hp, h0, hh⟩ := h2
  simp only [VRel] at hu
  obtain ⟨l2, h3, rfl⟩ := hu
  rw [h1] at h3
  cases h3
  exact ⟨l, p, h1, by simp [h0], hp, h0, hh⟩
theorem bld_row (R : Rel E w0 c H w) {id bid z n : Nat} {bs : List UInt8} {u : Value} (hg : H.get id = some (.obj 0 [.ptr bid z n])) (hb : H.get bid = some (.obj 1 [.str bs])) (hu : VRel c w (.ptr id 0 0) u) :
    ∃ l p lb cs fz, c.rho id = some l ∧ u = .pointer (some ⟨l.blk, 0, none⟩) ∧ (p = .pointer none ∨ p = .pointer (some ⟨l.blk, 0, none⟩)) ∧ l.base = 0 ∧ w.heap[l.blk]? = some (.cells #[p, .slice (some ⟨lb.blk, 0, none⟩) n lb.tot] 61 (0, 0)) ∧
      c.rho bid = some lb ∧ w.heap[lb.blk]? = some (.cells cs 5 fz) ∧ fz.2 ≤ bs.length ∧ bs.length ≤ cs.size ∧ cs.size ≤ maxLen ∧ cs.size = lb.tot ∧ cs.toList.take bs.length = byteVals bs ∧ lb.blk ≠ l.blk ∧ id ≠ bid := by
  obtain ⟨l, h1, _, _, h2⟩ := R.live id _ hg
  obtain ⟨p, lb, hp, h0, hr, hh⟩ := h2
  obtain ⟨lb2, k1, _, _, k2⟩ := R.live bid _ hb
  rw [hr] at k1
  cases k1
  obtain ⟨cs, fz, k3, k4, k5, k6, k7, k8⟩ := k2
  simp only [VRel] at hu
  obtain ⟨l2, h3, rfl⟩ := hu
  rw [h1] at h3
  cases h3
  have hne : id ≠ bid := by
    intro e
    subst e
    rw [hg] at hb
    cases hb
  exact ⟨l, p, lb, cs, fz, h1, by simp [h0], hp, h0, hh, hr, k3, k4, k5, k6, k7, k8, fun e => R.inj id bid l lb (by rw [hg]; rfl) (by rw [hb]; rfl) hne h1 hr e.symm, hne⟩
theorem isB_nil {b : Nat} {p : Value} (hp : p = .pointer none ∨ p = .pointer (some ⟨b, 0, none⟩)) (hh : w.heap[b]? = some (.cells #[p, .slice none 0 0] 61 (0, 0))) : Lib.IsBuilderF 61 5 0 b [] w := by
  have h : Lib.BuilderAtF 61 5 0 b p [] w := ⟨Nat.zero_le _, _, hh, ⟨by simp, .inl ⟨rfl, rfl⟩⟩, by simp [Value.ownBlock]⟩
  rcases hp with rfl | rfl
  · exact .inl h
  · exact .inr h
theorem own_row {n g cap : Nat} {bs : List UInt8} {cs : Array Value} {fz : Nat × Nat} (hn : n = bs.length) (h1 : w.heap[g]? = some (.cells cs 5 fz)) (h2 : fz.2 ≤ bs.length) (h3 : bs.length ≤ cs.size) (h4 : cs.size ≤ maxLen) (h5 : cs.size = cap) (h6 : cs.toList.take bs.length = byteVals bs) :
    w.ownsRowF 0 5 1 (.slice (some ⟨g, 0, none⟩) n cap) n (byteVals bs) :=
  ⟨by simp [byteVals, hn], .inr ⟨g, cap, cs, fz, rfl, Nat.zero_le _, h1, by omega, by omega, by omega, by omega, by rw [Nat.mul_one, hn]; exact h6⟩⟩
theorem isB_row {b n g cap : Nat} {p : Value} {bs : List UInt8} (hp : p = .pointer none ∨ p = .pointer (some ⟨b, 0, none⟩)) (hh : w.heap[b]? = some (.cells #[p, .slice (some ⟨g, 0, none⟩) n cap] 61 (0, 0))) (hn : n = bs.length)
    (ho : w.ownsRowF 0 5 1 (.slice (some ⟨g, 0, none⟩) n cap) n (byteVals bs)) (hg : g ≠ b) : Lib.IsBuilderF 61 5 0 b (byteVals bs) w := by
  have hl : (byteVals bs).length = n := by simp [byteVals, hn]
  have h : Lib.BuilderAtF 61 5 0 b p (byteVals bs) w := ⟨Nat.zero_le _, _, hh, by rw [hl]; exact ho, by simp [Value.ownBlock]; exact hg⟩
  rcases hp with rfl | rfl
  · exact .inl h
  · exact .inr h
theorem same_post (R : Rel E w0 c H w) {v : AV} {u : Value} (hv : VRel c w v u) : CPost E w0 c H w (.ret v, H) (.returned u) w := ⟨c, Ext.refl _ _ _, R, u, rfl, hv⟩
theorem ext23 {args : List AV} {us : Array Value} {r : FR × AHeap} (R : Rel E w0 c H w) (hv : VRels c w args us.toList) (he : eLen args H = some r) : Calls Tryz.prog 23 us w (CPost E w0 c H w r) := by
  unfold eLen at he
  split at he
  · rename_i id
    obtain ⟨u, rfl, hu⟩ := vrels1 hv
    split at he
    · rename_i hg
      cases he
      obtain ⟨l, p, h1, rfl, hp, h0, hh⟩ := bld_nil R hg hu
      have key : Calls Tryz.prog 23 #[.pointer (some ⟨l.blk, 0, none⟩)] w _ := Any.Builder_Len_f Tryz.lays170 0 l.blk [] w (isB_nil hp hh)
      refine key.mono ?_
      rintro e w' ⟨rfl, rfl⟩
      exact same_post R (by simp [VRel])
    · rename_i bid z n hg
      split at he
      · rename_i bs hb
        split at he
        · rename_i hn
          cases he
          obtain ⟨l, p, lb, cs, fz, h1, rfl, hp, h0, hh, hr, k1, k2, k3, k4, k5, k6, k7, k8⟩ := bld_row R hg hb hu
          have key : Calls Tryz.prog 23 #[.pointer (some ⟨l.blk, 0, none⟩)] w _ := Any.Builder_Len_f Tryz.lays170 0 l.blk (byteVals bs) w (isB_row hp hh hn (own_row hn k1 k2 k3 k4 k5 k6) k7)
          refine key.mono ?_
          rintro e w' ⟨rfl, rfl⟩
          exact same_post R (by simp [VRel, byteVals, hn])
        · cases he
      · cases he
    · cases he
  · cases he
theorem bytes_eq (l : List UInt8) : Lib.byteCells l = byteVals l := rfl
theorem ext24 {args : List AV} {us : Array Value} {r : FR × AHeap} (R : Rel E w0 c H w) (hv : VRels c w args us.toList) (he : eStr args H = some r) : Calls Tryz.prog 24 us w (CPost E w0 c H w r) := by
  unfold eStr at he
  split at he
  · rename_i id
    obtain ⟨u, rfl, hu⟩ := vrels1 hv
    split at he
    · rename_i hg
      cases he
      obtain ⟨l, p, h1, rfl, hp, h0, hh⟩ := bld_nil R hg hu
      have key : Calls Tryz.prog 24 #[.pointer (some ⟨l.blk, 0, none⟩)] w _ := string_nil Tryz.lays169 Tryz.Builder_Extra_169 l.blk p w hh
      refine key.mono ?_
      rintro e w' ⟨rfl, q1, q2, q3, q4⟩
      obtain ⟨a1, a2⟩ := R.touch (w' := w') hg h1 q2 q3 q4 (by rw [q1]; exact Nat.le_refl _) (fun k _ _ => by rw [q1]) (by
        obtain ⟨p', b1, b2, b3⟩ := (R.live id _ hg).elim fun l2 hl2 => by
          have := hl2.1
          rw [h1] at this
          cases this
          exact hl2.2.2.2
        exact ⟨p', b1, b2, by rw [q1]; exact b3⟩)
      exact ⟨c, a1, a2, _, rfl, by simp [VRel]⟩
    · rename_i bid z n hg
      split at he
      · rename_i bs hb
        split at he
        · rename_i hn
          cases he
          obtain ⟨l, p, lb, cs, fz, h1, rfl, hp, h0, hh, hr, k1, k2, k3, k4, k5, k6, k7, k8⟩ := bld_row R hg hb hu
          have hb0 : bs ≠ [] := by
            intro e
            subst e
            simp only [List.length_nil] at hn
            omega
          have hh' := hh
          rw [hn.1] at hh'
          have key : Calls Tryz.prog 24 #[.pointer (some ⟨l.blk, 0, none⟩)] w _ := string_row Tryz.lays169 Tryz.Builder_Extra_169 l.blk lb.blk lb.tot p cs fz bs w hb0 hh' k1 (by omega) (by omega) k5 k6
          refine key.mono ?_
          rintro e w' ⟨rfl, rfl⟩
          have hf : ∃ fz', (w.drew.freeze ⟨lb.blk, 0, none⟩ bs.length).heap[lb.blk]? = some (.cells cs 5 fz') ∧ fz'.2 ≤ bs.length := by
            have hd : w.drew.heap[lb.blk]? = some (.cells cs 5 fz) := k1
            unfold World.freeze
            split
            · exact ⟨fz, hd, k2⟩
            · simp only [Array.getElem?_modify, if_true, hd, Option.map_some]
              refine ⟨_, rfl, ?_⟩
              show (if _ then _ else _ : Nat × Nat).2 ≤ _
              split
              · show 0 + bs.length ≤ _; omega
              · show max fz.2 (0 + bs.length) ≤ _; omega
          obtain ⟨fz', f1, f2⟩ := hf
          have hlt : lb.blk < w.heap.size := (Array.getElem?_eq_some_iff.1 k1).1
          obtain ⟨a1, a2⟩ := R.touch (w' := w.drew.freeze ⟨lb.blk, 0, none⟩ bs.length) hb hr (by unfold World.freeze; split <;> rfl) (by unfold World.freeze; split <;> rfl) (by unfold World.freeze; split <;> rfl) (by unfold World.freeze; split; exact Nat.le_refl _; simp only [Array.size_modify]; exact Nat.le_refl _) (fun k _ hk => (freeze_other w.drew _ _ k hk).trans rfl) ⟨cs, fz', f1, f2, k3, k4, k5, k6⟩
          exact ⟨c, a1, a2, _, rfl, by simp [VRel]⟩
        · cases he
      · cases he
    · cases he
  · cases he
theorem str_cells (s : List UInt8) : Lib.strCells ⟨s.toArray⟩ = byteVals s := rfl
theorem bytes_app (a b : List UInt8) : byteVals a ++ byteVals b = byteVals (a ++ b) := by simp [byteVals]
theorem get_fresh_set {H : AHeap} {id i : Nat} {blk : ABlk} (hid : id < H.next) (hn : H.get H.next = none) (hg : (H.get id).isSome = true) {B0 B1 : ABlk} : ((H.set id B0).add B1).get i = if i = H.next then some B1 else if i = id then some B0 else H.get i := by
  have e : (H.set id B0).next = H.next := rfl
  rw [AHeap.get_add, AHeap.get_set, e]
  by_cases h1 : i = H.next
  · subst h1
    rw [if_neg (by omega), hn]
    simp
  · rw [if_neg h1]
    by_cases h2 : i = id
    · rw [if_pos h2, if_pos h2]
      cases h3 : H.get id with
      | none => rw [h3] at hg; cases hg
      | some x => simp [h1]
    · rw [if_neg h2, if_neg h2]
      cases H.get i <;> simp [h1]
theorem write_y (b : Nat) (p v : Value) (n : Nat) (bs : List Value) (s : List UInt8) (w : World) (hp : p = .pointer none ∨ p = .pointer (some ⟨b, 0, none⟩))
    (hbk : w.heap[b]? = some (.cells #[p, v] 61 (0, 0))) (hown : w.ownsRowF 0 5 1 v n bs) (hne : v.ownBlock ≠ some b) (hlen : n + s.length ≤ 140737488355328) :
    Calls Tryz.prog 21 #[.pointer (some ⟨b, 0, none⟩), .string ⟨s.toArray⟩] w fun e w' => e = .returned (.tuple #[.int .i64 s.length, .nilIface]) ∧
      ∃ v', w'.heap[b]? = some (.cells #[.pointer (some ⟨b, 0, none⟩), v'] 61 (0, 0)) ∧ w'.ownsRowF 0 5 1 v' (n + s.length) (bs ++ byteVals s) ∧ v'.ownBlock ≠ some b ∧ (v' = .slice none 0 0 ↔ v = .slice none 0 0 ∧ s.length = 0) ∧
        (∀ g, v'.ownBlock = some g → v.ownBlock = some g ∨ w.heap.size ≤ g) ∧ w'.os = w.os ∧ w'.tape = w.tape ∧ w'.output = w.output ∧ w.heap.size ≤ w'.heap.size ∧ ∀ k, k < w.heap.size → k ≠ b → v.ownBlock ≠ some k → w'.heap[k]? = w.heap[k]? := by
  have hss : (⟨s.toArray⟩ : ByteArray).size = s.length := by show s.toArray.size = _; simp
  have h := write_x L166 Tryz.Builder_Extra_156 b p v n bs ⟨s.toArray⟩ w hp hbk hown hne (by rw [hss]; exact hlen)
  rw [hss] at h
  exact h
/-- What WriteString comes to, where bytes are written. -/
theorem write_post (R : Rel E w0 c H w) {id bid : Nat} {l : Loc} {v v' : Value} {bs s : List UInt8} {H' : AHeap} {blk0 : ABlk} (hg : H.get id = some blk0) (h1 : c.rho id = some l) (h0 : l.base = 0) (hne : id ≠ bid)
    (hget : ∀ i, H'.get i = if i = H.next then some (.obj 1 [.str (bs ++ s)]) else if i = id then some (.obj 0 [.ptr H.next 0 (bs.length + s.length)]) else if i = bid then none else H.get i) (hnext : H'.next = H.next + 1)
    (hs : 0 < s.length)
    (f1 : w'.heap[l.blk]? = some (.cells #[.pointer (some ⟨l.blk, 0, none⟩), v'] 61 (0, 0))) (f2 : w'.ownsRowF 0 5 1 v' (bs.length + s.length) (byteVals (bs ++ s))) (f3 : v'.ownBlock ≠ some l.blk)
    (f4 : v' = .slice none 0 0 ↔ v = .slice none 0 0 ∧ s.length = 0) (f5 : ∀ g, v'.ownBlock = some g → v.ownBlock = some g ∨ w.heap.size ≤ g)
    (f6 : ∀ g, v.ownBlock = some g → ∃ lb, (H.get bid).isSome = true ∧ c.rho bid = some lb ∧ lb.blk = g)
    (ho : w'.os = w.os) (htp : w'.tape = w.tape) (hout : w'.output = w.output) (hsz : w.heap.size ≤ w'.heap.size) (hk : ∀ k, k < w.heap.size → k ≠ l.blk → v.ownBlock ≠ some k → w'.heap[k]? = w.heap[k]?) :
    CPost E w0 c H w (.ret (.tup [.int .i64 s.length, .nilifc]), H') (.returned (.tuple #[.int .i64 s.length, .nilIface])) w' := by
  rcases f2.2 with ⟨e, _⟩ | ⟨g, cap, cur, fz, e, _, q1, q2, q3, q4, q5, q6⟩
  · have := (f4.1 e).2; omega
  subst e
  have hgo : (Value.slice (some ⟨g, 0, none⟩) (bs.length + s.length) cap).ownBlock = some g := rfl
  obtain ⟨a1, a2⟩ := R.remake (l' := ⟨g, 0, 1, cap⟩) (bid := bid) hg h1 hne hget hnext ho htp hout hsz (fun k k1 k2 k3 => hk k k1 k2 (fun e => by
      obtain ⟨lb, m1, m2, m3⟩ := f6 k e
      exact k3 lb m1 m2 m3.symm)) (by
      rcases f5 g hgo with h | h
      · obtain ⟨lb, m1, m2, m3⟩ := f6 g h
        exact .inr ⟨lb, m1, m2, m3⟩
      · exact .inl h) (Array.getElem?_eq_some_iff.1 q1).1 (fun e => f3 (by rw [hgo]; exact congrArg some e)) (fun c' k1 k2 => ⟨⟨_, ⟨g, 0, 1, cap⟩, .inr rfl, h0, k2, f1⟩, ⟨cur, fz, q1, by simp; omega, by simp; omega, by omega, by simp; omega, by rw [← q6]; congr 1; simp⟩⟩)
  exact ⟨_, a1, a2, _, rfl, by simp [VRel, VRels]⟩
theorem ext21 {args : List AV} {us : Array Value} {r : FR × AHeap} (R : Rel E w0 c H w) (hv : VRels c w args us.toList) (he : eWrite args H = some r) : Calls Tryz.prog 21 us w (CPost E w0 c H w r) := by
  unfold eWrite at he
  split at he
  · rename_i id s
    obtain ⟨u, sv, rfl, hu, hs⟩ := vrels2 hv
    obtain rfl : sv = .string ⟨s.toArray⟩ := hs
    split at he
    · rename_i hg
      split at he
      · rename_i hl
        obtain ⟨l, p, h1, rfl, hp, h0, hh⟩ := bld_nil R hg hu
        have key : Calls Tryz.prog 21 #[.pointer (some ⟨l.blk, 0, none⟩), .string ⟨s.toArray⟩] w _ := write_y l.blk p (.slice none 0 0) 0 [] s w hp hh ⟨by simp, .inl ⟨rfl, rfl⟩⟩ (by simp [Value.ownBlock]) (by omega)
        split at he
        · rename_i hz
          cases he
          refine key.mono ?_
          rintro e w' ⟨rfl, v', f1, f2, f3, f4, f5, ho, htp, hout, hsz, hk⟩
          obtain rfl := f4.2 ⟨rfl, hz⟩
          obtain ⟨a1, a2⟩ := R.touch (w' := w') hg h1 ho htp hout hsz (fun k k1 k2 => hk k k1 k2 (by simp [Value.ownBlock])) ⟨_, .inr rfl, h0, f1⟩
          exact ⟨c, a1, a2, _, rfl, by simp [VRel, VRels, hz]⟩
        · rename_i hz
          cases he
          refine key.mono ?_
          rintro e w' ⟨rfl, v', f1, f2, f3, f4, f5, ho, htp, hout, hsz, hk⟩
          have hid := R.dom id l h1
          have hn := R.get_next
          have := write_post (w' := w') (bid := H.next) (bs := []) (s := s) (v := .slice none 0 0) R hg h1 h0 (by omega) (H' := (H.set id (.obj 0 [.ptr H.next 0 s.length])).add (.obj 1 [.str s])) (fun i => by
            rw [get_fresh_set (blk := .dfr) hid hn (by rw [hg]; rfl)]
            simp only [List.nil_append, List.length_nil, Nat.zero_add]
            split
            · rfl
            · rename_i e1
              split
              · rfl
              · simp [e1]) rfl (by omega) f1 (by simpa [str_cells] using f2) f3 (by simpa using f4) f5 (fun g hg => by simp [Value.ownBlock] at hg) ho htp hout hsz hk
          simpa using this
      · cases he
    · rename_i bid z n hg
      split at he
      · rename_i bs hb
        split at he
        · rename_i hn
          obtain ⟨hn, hl, hne, hz⟩ := hn
          cases he
          obtain ⟨l, p, lb, cs, fz, h1, rfl, hp, h0, hh, hr, k1, k2, k3, k4, k5, k6, k7, k8⟩ := bld_row R hg hb hu
          have ho := own_row hn k1 k2 k3 k4 k5 k6
          have key : Calls Tryz.prog 21 #[.pointer (some ⟨l.blk, 0, none⟩), .string ⟨s.toArray⟩] w _ := write_y l.blk p (.slice (some ⟨lb.blk, 0, none⟩) n lb.tot) n (byteVals bs) s w hp hh ho (by simp only [Value.ownBlock]; exact fun e => k7 (Option.some.inj e)) (by omega)
          refine key.mono ?_
          rintro e w' ⟨rfl, v', f1, f2, f3, f4, f5, ho, htp, hout, hsz, hk⟩
          have hid := R.dom id l h1
          have hn2 := R.get_next
          have hbid := R.dom bid lb hr
          rw [hn, bytes_app] at f2
          exact write_post (w' := w') (bid := bid) (bs := bs) (s := s) (v := .slice (some ⟨lb.blk, 0, none⟩) n lb.tot) R hg h1 h0 k8 (fun i => by
            have hf : (H.free bid).next = H.next := rfl
            have hfid : (H.free bid).get id = H.get id := by rw [AHeap.get_free, if_neg k8]
            have := get_fresh_set (H := H.free bid) (i := i) (blk := .dfr) (B0 := .obj 0 [.ptr H.next 0 (bs.length + s.length)]) (B1 := .obj 1 [.str (bs ++ s)]) (by rw [hf]; exact hid) (by rw [hf, AHeap.get_free, hn2]; split <;> rfl) (by rw [hfid, hg]; rfl)
            rw [hf] at this
            rw [this, AHeap.get_free]) rfl hz f1 f2 f3 f4 f5 (fun g hg => by
              simp only [Value.ownBlock, Option.some.injEq] at hg
              exact ⟨lb, by rw [hb]; rfl, hr, hg⟩) ho htp hout hsz hk
        · cases he
      · cases he
    · cases he
  · cases he
end
end Go.AM.Wc
