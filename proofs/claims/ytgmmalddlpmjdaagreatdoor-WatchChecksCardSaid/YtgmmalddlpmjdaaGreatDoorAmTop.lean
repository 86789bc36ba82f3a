/- AM: the start of a call: what the arguments read as gives abstract values. -/
import Derived.Test.YtgmmalddlpmjdaaGreatDoorAmFun
import Derived.OpenShut
import Derived.ChangeArms
set_option linter.unusedVariables false
namespace Go.AM
open Go Go.RowKit

def ctx0 (W : World) : Ctx := ⟨fun _ => none, fun b => b < W.heap.size⟩
theorem Rel.start {E : Env} {W : World} (hg : ∀ g row, E.glob g = some row → VRel (ctx0 W) W (.imm row 0) (.pointer (some ⟨g, 0, none⟩))) : Rel E W (ctx0 W) ⟨0, []⟩ W :=
  ⟨fun id x h => by simp [ctx0] at h, fun id h => by simp [AHeap.get, lookupB] at h, fun id b h => by simp [AHeap.get, lookupB] at h, fun id id' x x' h => by simp [AHeap.get, lookupB] at h,
    fun b h => h, fun b h => h, Below.refl _ _, hg⟩

def tiles (P : Program) : Nat → List Field → Option Nat
  | o, [] => some o
  | o, f :: fs => if f.offset = o then tiles P (o + P.cellsOf f.type) fs else none
/-- The types of which this speaks. -/
def tileOK (P : Program) : Nat → TypeId → Bool
  | 0, _ => false
  | m + 1, t => match P.underlying t with
    | some .bool => true
    | some (.int _) => true
    | some .string => true
    | some (.slice e) => decide (0 < P.cellsOf e) && decide (0 < P.bytesOf e) && tileOK P m e
    | some (.struct fs) => decide (tiles P 0 fs.toList = some (P.cellsOf t)) && fs.toList.all fun f => tileOK P m f.type
    | _ => false
def ShF (P : Program) (S : TypeId → List AV → Prop) : List Field → List AV → Prop
  | [], row => row = []
  | f :: fs, row => ∃ r rest, row = r ++ rest ∧ r.length = P.cellsOf f.type ∧ S f.type r ∧ ShF P S fs rest
/-- The cells of a value of a type. -/
def Sh (P : Program) : Nat → TypeId → List AV → Prop
  | 0, _, _ => False
  | m + 1, t, row => match P.underlying t with
    | some .bool => ∃ b, row = [.bool b]
    | some (.int k) => ∃ n, row = [.int k n] ∧ (Lit.int k n).wf = true
    | some .string => ∃ s : List UInt8, row = [.str s] ∧ s.length ≤ reachBytes
    | some (.slice e) => row = [.nilsl] ∨ ∃ rows cap, row = [.isl rows (some cap)] ∧ rows.length ≤ reachBytes ∧ ∀ r, r ∈ rows → r.length = P.cellsOf e ∧ Sh P m e r
    | some (.struct fs) => ShF P (Sh P m) fs.toList row
    | _ => False

theorem mapM_get {α β : Type} {f : α → Option β} : ∀ {l : List α} {vs : List β}, l.mapM f = some vs → vs.length = l.length ∧ ∀ (i : Nat) (x : α), l[i]? = some x → f x = vs[i]?
  | [], vs, h => by
    simp only [List.mapM_nil, Option.pure_def, Option.some.injEq] at h
    subst h
    exact ⟨rfl, fun i x h => by simp at h⟩
  | a :: l, vs, h => by
    rw [List.mapM_cons] at h
    simp only [Option.bind_eq_bind, Option.pure_def, Option.bind_eq_some_iff, Option.some.injEq] at h
    obtain ⟨b, hb, bs, hbs, rfl⟩ := h
    obtain ⟨h1, h2⟩ := mapM_get hbs
    refine ⟨by simp [h1], fun i x hx => ?_⟩
    cases i with
    | zero => simp at hx; subst hx; simpa using hb
    | succ i => simp at hx ⊢; exact h2 i x hx
theorem cells_eq {W : World} {base n : Nat} {a : Addr} {vs : List Value} {cs : Array Value} {t : TypeId} {fr : Nat × Nat} (hh : W.heap[a.block]? = some (.cells cs t fr)) (hs : a.spot = none) (h : W.cells? base a n = some vs) :
    vs = (cs.toList.drop a.off).take n ∧ vs.length = n := by
  unfold World.cells? at h
  split at h
  · obtain ⟨h1, h2⟩ := mapM_get h
    simp only [List.length_range] at h1
    have key : ∀ i, i < n → cs[a.off + i]? = vs[i]? := by
      intro i hi
      have := h2 i i (by simp [List.getElem?_range hi])
      rw [← this]
      unfold Addr.add World.cell?
      by_cases h0 : i = 0
      · subst h0; simp [hh, hs]
      · simp [h0, hh]
    refine ⟨List.ext_getElem? fun i => ?_, h1⟩
    by_cases hi : i < n
    · rw [List.getElem?_take_of_lt hi, List.getElem?_drop, ← key i hi]; simp
    · rw [List.getElem?_eq_none (by omega)]
      rw [List.getElem?_eq_none (by simp; omega)]
  · cases h
theorem cells_some {W : World} {base n : Nat} {a : Addr} {vs : List Value} (hn : 0 < n) (h : W.cells? base a n = some vs) : a.spot = none ∧ ∃ cs t fr, W.heap[a.block]? = some (.cells cs t fr) := by
  unfold World.cells? at h
  split at h
  · obtain ⟨h1, h2⟩ := mapM_get h
    simp only [List.length_range] at h1
    have h3 := h2 0 0 (by simp [List.getElem?_range hn])
    have h4 : ∃ v, vs[0]? = some v := ⟨vs[0]'(by omega), by simp⟩
    obtain ⟨v, hv⟩ := h4
    rw [hv] at h3
    simp only [Addr.add, if_true] at h3
    unfold World.cell? at h3
    split at h3
    · rename_i c e f he
      split at h3
      · cases h3
      · rename_i hsp
        exact ⟨by simpa using hsp, _, _, _, he⟩
    · cases h3
  · cases h
theorem choose_list {α : Type} {p : Nat → α → Prop} : ∀ (n : Nat), (∀ i, i < n → ∃ x, p i x) → ∃ l : List α, l.length = n ∧ ∀ i x, l[i]? = some x → p i x
  | 0, _ => ⟨[], rfl, fun i x h => by simp at h⟩
  | n + 1, h => by
    obtain ⟨l, h1, h2⟩ := choose_list n fun i hi => h i (by omega)
    obtain ⟨x, hx⟩ := h n (by omega)
    refine ⟨l ++ [x], by simp [h1], fun i y hy => ?_⟩
    rw [List.getElem?_append] at hy
    split at hy
    · exact h2 i y hy
    · rename_i hi
      have : i = n := by
        have := (List.getElem?_eq_some_iff.1 hy).1
        simp at this; omega
      subst this
      rw [h1] at hy
      simp at hy
      subst hy
      exact hx
theorem VRelss_of {c : Ctx} {w : World} {sz : Nat} : ∀ {rows : List (List AV)} {L : List Value}, (∀ r, r ∈ rows → r.length = sz) → (∀ (i : Nat) r, rows[i]? = some r → VRels c w r ((L.drop (i * sz)).take sz)) → VRelss c w rows L
  | [], L, _, _ => trivial
  | x :: xs, L, h1, h2 => by
    have hx := h1 x (by simp)
    simp only [VRelss]
    refine ⟨by simpa [hx] using h2 0 x (by simp), VRelss_of (sz := sz) (fun r hr => h1 r (by simp [hr])) fun i r hr => ?_⟩
    have := h2 (i + 1) r (by simpa using hr)
    rw [List.drop_drop, hx]
    rwa [Nat.add_mul, Nat.one_mul, Nat.add_comm] at this
theorem VRels.app2 {c : Ctx} {w : World} : ∀ {xs ys : List AV} {us vs : List Value}, VRels c w xs us → VRels c w ys vs → VRels c w (xs ++ ys) (us ++ vs)
  | [], ys, us, vs, h1, h2 => by simp only [VRels] at h1; subst h1; exact h2
  | x :: xs, ys, us, vs, h1, h2 => by
    simp only [VRels, List.cons_append] at h1 ⊢
    obtain ⟨u, r, rfl, h3, h4⟩ := h1
    exact ⟨u, r ++ vs, rfl, h3, VRels.app2 h4 h2⟩
theorem tiles_le {P : Program} : ∀ {l : List Field} {o tot : Nat}, tiles P o l = some tot → o ≤ tot
  | [], o, tot, h => by simp [tiles] at h; omega
  | f :: fs, o, tot, h => by
    simp only [tiles] at h
    split at h
    · have := tiles_le h; omega
    · cases h

theorem weightsAll_mem {H : Type} {P : Program} {e : TypeId} : ∀ {l : List (DataW H)} {d : DataW H} {x : Nat}, d ∈ l → x ∈ d.weights P e → x ∈ DataW.weightsAll P e l
  | [], d, x, h, _ => by cases h
  | a :: l, d, x, h, hx => by
    rw [DataW.weightsAll]
    rcases List.mem_cons.1 h with rfl | h
    · exact List.mem_append_left _ hx
    · exact List.mem_append_right _ (weightsAll_mem h hx)
theorem weightsEach_mem {H : Type} {P : Program} : ∀ {ts : List TypeId} {l : List (DataW H)} {i : Nat} {t : TypeId} {d : DataW H} {x : Nat}, ts[i]? = some t → l[i]? = some d → x ∈ d.weights P t → x ∈ DataW.weightsEach P ts l
  | [], _, i, t, d, x, h, _, _ => by simp at h
  | a :: ts, [], i, t, d, x, _, h, _ => by simp at h
  | a :: ts, b :: l, 0, t, d, x, h, h1, hx => by
    simp only [List.getElem?_cons_zero, Option.some.injEq] at h h1
    subst h; subst h1
    rw [DataW.weightsEach]
    exact List.mem_append_left _ hx
  | a :: ts, b :: l, i + 1, t, d, x, h, h1, hx => by
    simp only [List.getElem?_cons_succ] at h h1
    rw [DataW.weightsEach]
    exact List.mem_append_right _ (weightsEach_mem h h1 hx)
section
variable {H : Type} {enc : TypeId × Value → H} {P : Program} {W : World} {base : Nat} {held : Bool}
theorem fields_rel {m : Nat} {S : TypeId → List AV → Prop} {cs : List Value} {tot : Nat} (hcs : cs.length = tot)
    (ih : ∀ t us, tileOK P m t = true → (∃ fuel d, DataW.trod enc P W base (fun _ => true) held fuel t us = some d ∧ ∀ x, x ∈ d.1.weights P t → x ≤ reachBytes) → ∃ row, VRels (ctx0 W) W row us ∧ row.length = us.length ∧ S t row) :
    ∀ {l : List Field} {o : Nat}, tiles P o l = some tot → (∀ f, f ∈ l → tileOK P m f.type = true) → (∀ f, f ∈ l → ∃ fuel d, DataW.trod enc P W base (fun _ => true) held fuel f.type ((cs.drop f.offset).take (P.cellsOf f.type)) = some d ∧ ∀ x, x ∈ d.1.weights P f.type → x ≤ reachBytes) →
    ∃ row, VRels (ctx0 W) W row (cs.drop o) ∧ row.length = (cs.drop o).length ∧ ShF P S l row
  | [], o, ht, _, _ => by
    simp only [tiles, Option.some.injEq] at ht
    subst ht
    exact ⟨[], by rw [List.drop_of_length_le (by omega)]; simp [VRels], by simp [hcs], rfl⟩
  | f :: fs, o, ht, hk, hd => by
    simp only [tiles] at ht
    split at ht
    · rename_i ho
      obtain ⟨rest, h1, h2, h3⟩ := fields_rel hcs ih ht (fun g hg => hk g (by simp [hg])) (fun g hg => hd g (by simp [hg]))
      obtain ⟨r, h4, h5, h6⟩ := ih f.type _ (hk f (by simp)) (hd f (by simp))
      have hle := tiles_le ht
      rw [ho] at h4 h5
      have hlen : r.length = P.cellsOf f.type := by rw [h5]; simp; omega
      have e : cs.drop o = (cs.drop o).take (P.cellsOf f.type) ++ cs.drop (o + P.cellsOf f.type) := by rw [← List.drop_drop]; exact (List.take_append_drop _ _).symm
      refine ⟨r ++ rest, by rw [e]; exact VRels.app2 h4 h1, ?_, r, rest, rfl, hlen, h6, h3⟩
      rw [List.length_append, hlen, h2]
      simp
      omega
    · cases ht
theorem trod_rel : ∀ (m : Nat) (t : TypeId) (cs : List Value), tileOK P m t = true → (∃ fuel d, DataW.trod enc P W base (fun _ => true) held fuel t cs = some d ∧ ∀ x, x ∈ d.1.weights P t → x ≤ reachBytes) →
    ∃ row, VRels (ctx0 W) W row cs ∧ row.length = cs.length ∧ Sh P m t row
  | 0, t, cs, h, _ => by simp [tileOK] at h
  | m + 1, t, cs, h, ⟨fuel, d, hd, hwt⟩ => by
    simp only [tileOK] at h
    simp only [Sh]
    split at h
    · rename_i hu
      have hb : ∃ b, cs = [.bool b] := by
        cases fuel with
        | zero => simp [DataW.trod] at hd
        | succ n =>
          unfold DataW.trod at hd
          rw [hu] at hd
          split at hd <;> simp_all
      obtain ⟨b, rfl⟩ := hb
      exact ⟨[.bool b], by simp [VRels, VRel], rfl, b, rfl⟩
    · rename_i k hu
      obtain ⟨n, rfl, _, hw⟩ := DataW.trod_int hu hd
      exact ⟨[.int k n], by simp [VRels, VRel], rfl, n, rfl, hw⟩
    · rename_i hu
      obtain ⟨s, rfl, rfl, hw⟩ := DataW.trod_string hu hd
      exact ⟨[.str s.data.toList], by simp [VRels, VRel], rfl, s.data.toList, rfl, hwt _ (by simp [DataW.weights])⟩
    · rename_i e hu
      simp only [Bool.and_eq_true, decide_eq_true_eq] at h
      obtain ⟨⟨h, hby⟩, htile⟩ := h
      rcases DataW.trod_slice hu hd with ⟨rfl, _⟩ | ⟨a, len, cap, elems, rest, n, _, rfl, rfl, hb, hlc, hcm, hel, hget, _⟩
      · exact ⟨[.nilsl], by simp [VRels, VRel], rfl, .inl rfl⟩
      · simp only [DataW.weights, hu] at hwt
        have hlen : len ≤ reachBytes := by
          have h1 := hwt _ (List.mem_cons_self ..)
          simp only [List.length_map, hel] at h1
          exact Nat.le_trans (Nat.le_trans (Nat.le_add_right _ _) (Nat.le_mul_of_pos_right _ hby)) h1
        obtain ⟨rows, hr1, hr2⟩ := choose_list (α := List AV) (p := fun i row => ∃ vs, W.cells? base (a.add (i * P.cellsOf e)) (P.cellsOf e) = some vs ∧ VRels (ctx0 W) W row vs ∧ row.length = vs.length ∧ Sh P m e row) len (fun i hi => by
          have h1 := hget i hi
          rw [List.getElem?_eq_getElem (by omega : i < elems.length)] at h1
          simp only [Option.bind_eq_some_iff] at h1
          obtain ⟨vs, h2, h3⟩ := h1
          obtain ⟨row, h4, h5, h6⟩ := trod_rel m e vs htile ⟨_, _, h3, fun x hx => hwt x (List.mem_cons_of_mem _ (List.mem_append_left _ (weightsAll_mem (List.mem_map_of_mem (List.getElem_mem (by omega : i < elems.length))) hx)))⟩
          exact ⟨row, vs, h2, h4, h5, h6⟩)
        have hz : ∀ r, r ∈ rows → ∃ i vs, rows[i]? = some r ∧ W.cells? base (a.add (i * P.cellsOf e)) (P.cellsOf e) = some vs ∧ r.length = vs.length ∧ Sh P m e r := by
          intro r hr
          obtain ⟨i, hi⟩ := List.mem_iff_getElem?.1 hr
          obtain ⟨vs, k1, _, k2, k3⟩ := hr2 i r hi
          exact ⟨i, vs, hi, k1, k2, k3⟩
        have hsz : ∀ r, r ∈ rows → r.length = P.cellsOf e := by
          intro r hr
          obtain ⟨i, vs, _, k1, k2, _⟩ := hz r hr
          unfold World.cells? at k1
          split at k1
          · rw [k2, (mapM_get k1).1, List.length_range]
          · cases k1
        refine ⟨[.isl rows (some cap)], ?_, rfl, .inr ⟨rows, cap, rfl, by omega, fun r hr => ⟨hsz r hr, ?_⟩⟩⟩
        · simp only [VRels, VRel]
          refine ⟨_, [], rfl, ⟨a, cap, by rw [hr1], fun m hm => by cases hm; rfl, by omega, ?_⟩, rfl⟩
          cases hrows : rows with
          | nil => exact .inl rfl
          | cons r0 rs =>
            right
            obtain ⟨vs0, k1, _⟩ := hr2 0 r0 (by simp [hrows])
            have k1' : W.cells? base a (P.cellsOf e) = some vs0 := by simpa [Addr.add] using k1
            obtain ⟨hsp, ccs, ct, cfr, hh⟩ := cells_some h k1'
            refine ⟨ccs, ct, cfr, P.cellsOf e, hsp, (Array.getElem?_eq_some_iff.1 hh).1, hh, fun r hr => hsz r (by rw [hrows]; exact hr), ?_⟩
            rw [← hrows]
            refine VRelss_of hsz fun i r hi => ?_
            obtain ⟨vs, j1, j2, _⟩ := hr2 i r hi
            have j3 : (a.add (i * P.cellsOf e)).block = a.block ∧ (a.add (i * P.cellsOf e)).off = a.off + i * P.cellsOf e ∧ (a.add (i * P.cellsOf e)).spot = none := by
              unfold Addr.add
              split
              · rename_i h0; simp [h0, hsp]
              · simp
            obtain ⟨j4, _⟩ := cells_eq (cs := ccs) (t := ct) (fr := cfr) (by rw [j3.1]; exact hh) j3.2.2 j1
            rw [List.drop_drop, ← j3.2.1, ← j4]
            exact j2
        · obtain ⟨i, vs, _, _, _, k3⟩ := hz r hr
          exact k3
    · rename_i fs hu
      simp only [Bool.and_eq_true, decide_eq_true_eq, List.all_eq_true] at h
      obtain ⟨xs, n, _, rfl, hlen, hxl, hget⟩ := DataW.trod_struct hu hd
      simp only [DataW.weights, hu] at hwt
      obtain ⟨row, h1, h2, h3⟩ := fields_rel (enc := enc) (P := P) (W := W) (base := base) (held := held) (m := m) (S := Sh P m) hlen (fun t us k1 k2 => trod_rel m t us k1 k2) h.1 h.2 (fun f hf => by
        obtain ⟨i, hi⟩ := List.mem_iff_getElem?.1 hf
        have h4 := hget i f (by simpa using hi)
        have hi' : i < xs.length := by rw [hxl]; have := (List.getElem?_eq_some_iff.1 hi).1; simpa using this
        rw [List.getElem?_eq_getElem hi'] at h4
        exact ⟨_, _, h4, fun x hx => hwt x (weightsEach_mem (i := i) (by rw [List.getElem?_map, hi]; rfl) (by rw [List.getElem?_map, List.getElem?_eq_getElem hi']; rfl) hx)⟩)
      simp only [List.drop_zero] at h1 h2
      exact ⟨row, h1, h2, h3⟩
    · cases h
end
end Go.AM
