/- watch.Print: its lines. -/
import Derived.Test.YtgmmalddlpmjdaaGreatDoorWcL
set_option linter.unusedVariables false
set_option linter.unusedSimpArgs false
namespace Go.AM.Wc
open Go Go.AM
/-! ### The builder -/
abbrev BSt := Option (Nat × List UInt8)
def txt : BSt → List UInt8
  | none => []
  | some (_, t) => t
def bl (b : Nat) : BSt → List (Nat × ABlk)
  | none => [(b, .obj 0 [])]
  | some (r, t) => [(b, .obj 0 [.ptr r 0 t.length]), (r, .obj 1 [.str t])]
def okB (m b : Nat) : BSt → Prop
  | none => b < m
  | some (r, t) => b < m ∧ r < m ∧ b < r ∧ 0 < t.length
/-- What stands beside it: nothing, or one block of rows. -/
def exB : Option (Nat × List (List AV)) → List (Nat × ABlk)
  | none => []
  | some (id, rows) => [(id, .cells 1 rows)]
def okE (m b : Nat) (st : BSt) : Option (Nat × List (List AV)) → Prop
  | none => True
  | some (id, _) => id < m ∧ id ≠ b ∧ ∀ r t, st = some (r, t) → id ≠ r
theorem fresh_bl {m b : Nat} {st : BSt} (h : okB m b st) : Fresh m (bl b st) := by
  intro p hp
  cases st with
  | none =>
    simp only [okB] at h
    simp only [bl, List.mem_singleton] at hp
    subst hp; show b ≠ m; omega
  | some x =>
    obtain ⟨r, t⟩ := x
    simp only [okB] at h
    simp only [bl, List.mem_cons, List.not_mem_nil, or_false] at hp
    rcases hp with rfl | rfl
    · show b ≠ m; omega
    · show r ≠ m; omega
theorem fresh_ex {m b id : Nat} {st : BSt} {rows : List (List AV)} (h : okE m b st (some (id, rows))) : Fresh id (bl b st) := by
  intro p hp
  simp only [okE] at h
  cases st with
  | none =>
    simp only [bl, List.mem_singleton] at hp
    subst hp; exact fun e => h.2.1 e.symm
  | some x =>
    obtain ⟨r, t⟩ := x
    simp only [bl, List.mem_cons, List.not_mem_nil, or_false] at hp
    rcases hp with rfl | rfl
    · exact fun e => h.2.1 e.symm
    · exact fun e => h.2.2 r t rfl e.symm
theorem write_ok {m b : Nat} {st : BSt} {ex : Option (Nat × List (List AV))} {s : List UInt8} (h : okB m b st) (he : okE m b st ex) (hs : 0 < s.length) (hl : (txt st).length + s.length ≤ 140737488355328) :
    eWrite [.ptr b 0 0, .str s] ⟨m, bl b st ++ exB ex⟩ = some (.ret (.tup [.int .i64 s.length, .nilifc]), ⟨m + 1, (b, .obj 0 [.ptr m 0 (txt st ++ s).length]) :: exB ex ++ [(m, .obj 1 [.str (txt st ++ s)])]⟩) := by
  cases st with
  | none =>
    simp only [txt, List.length_nil, Nat.zero_add] at hl
    simp [eWrite, bl, txt, AHeap.get, lookupB, hl, show ¬ s.length = 0 by omega, AHeap.set, setB, AHeap.add]
  | some x =>
    obtain ⟨r, t⟩ := x
    simp only [okB] at h
    simp only [txt] at hl
    have h1 : ¬ r = b := by omega
    have h2 : ¬ b = r := fun e => h1 e.symm
    have hex : removeB (exB ex) r = exB ex := by
      cases ex with
      | none => rfl
      | some y =>
        obtain ⟨id, rows⟩ := y
        simp only [okE] at he
        have h3 : ¬ r = id := fun e => he.2.2 r t rfl e.symm
        simp [exB, removeB, h3]
    simp [eWrite, bl, txt, AHeap.get, lookupB, h1, h2, hl, show 0 < s.length from hs, AHeap.free, removeB, hex, AHeap.set, setB, AHeap.add]
theorem get_ok {m b : Nat} {st : BSt} (h : okB m b st) : eLen [.ptr b 0 0] ⟨m, bl b st⟩ = some (.ret (.int .i64 ((txt st).length : Nat)), ⟨m, bl b st⟩) ∧ eStr [.ptr b 0 0] ⟨m, bl b st⟩ = some (.ret (.str (txt st)), ⟨m, bl b st⟩) := by
  cases st with
  | none => simp [eLen, eStr, bl, txt, AHeap.get, lookupB]
  | some x =>
    obtain ⟨r, t⟩ := x
    simp only [okB] at h
    have h1 : ¬ r = b := by omega
    have h4 := h.2.2.2
    simp [eLen, eStr, bl, txt, AHeap.get, lookupB, h1, h4]

/-! ### Words -/
def rowsS (ws : List (List UInt8)) : List (List AV) := ws.map fun s => [.str s]
theorem rowsS_all (ws : List (List UInt8)) : (rowsS ws).all (fun r => r.length == 1) = true := by
  rw [rowsS, List.all_map]
  simp
theorem strRows_S : ∀ ws : List (List UInt8), strRows (rowsS ws) = some ws
  | [] => rfl
  | w :: r => by simp [rowsS, strRows]; rw [show List.map (fun s => [AV.str s]) r = rowsS r from rfl, strRows_S r]
/-- The words, as they stand in a temporary and beside the builder. -/
def wv (ws : List (List UInt8)) : Option (Nat × List (List AV)) → AV
  | none => .isl (rowsS ws) (some ws.length)
  | some (id, _) => .msl id 0 ws.length none
def okW (ws : List (List UInt8)) : Option (Nat × List (List AV)) → Prop
  | none => True
  | some (_, rows) => rows = rowsS ws
theorem app_ok {fr : Fr} {a x : SX} {m b : Nat} {st : BSt} {ex : Option (Nat × List (List AV))} {ws : List (List UInt8)} {s : List UInt8} (h : okB m b st) (he : okE m b st ex) (hw : okW ws ex) (hl : ws.length ≤ 1000)
    (ha : exP fr a = some (wv ws ex)) (hx : exP fr x = some (.isl [[.str s]] (some 1))) :
    execS fr ⟨m, bl b st ++ exB ex⟩ (.app 1 16 a x) = some (.val (wv (ws ++ [s]) (some (m, rowsS (ws ++ [s])))) ⟨m + 1, bl b st ++ exB (some (m, rowsS (ws ++ [s])))⟩) := by
  rw [exP_eq] at ha hx
  have hrs : (rowsS ws).length = ws.length := by simp [rowsS]
  have happ : rowsS ws ++ [[.str s]] = rowsS (ws ++ [s]) := by simp [rowsS]
  cases ex with
  | none =>
    simp only [wv] at ha
    simp only [execS, ha, hx, Option.bind_some, aappendS, newRows, sliceRows, rowsFit, List.all_cons, List.length_singleton, AV.cell, List.all_nil, Bool.and_true, beq_self_eq_true, Bool.and_self, if_true, hrs, rowsS_all]
    rw [if_neg (by omega), if_pos (by simp; omega)]
    simp only [ofValH, Option.map_some, wv, exB, List.append_nil, AHeap.add, List.length_append, List.length_singleton, happ]
  | some y =>
    obtain ⟨id, rows⟩ := y
    simp only [okW] at hw
    subst hw
    have hf := fresh_ex he
    simp only [wv] at ha
    have hg : AHeap.rows ⟨m, bl b st ++ [(id, .cells 1 (rowsS ws))]⟩ id = some (1, rowsS ws) := by simp only [AHeap.rows, AHeap.get, lookup_fresh hf]
    simp only [execS, ha, hx, Option.bind_some, aappendS, newRows, sliceRows, rowsFit, List.all_cons, List.length_singleton, AV.cell, List.all_nil, Bool.and_true, beq_self_eq_true, Bool.and_self, if_true, exB, hg, hrs]
    rw [if_pos (by simp; omega)]
    simp only [ofValH, Option.map_some, wv, exB, AHeap.free, remove_fresh hf, AHeap.add, List.drop_zero, List.length_append, List.length_singleton]
    rw [List.take_of_length_le (by omega), happ]
theorem join_ok {m b : Nat} {st : BSt} {ex : Option (Nat × List (List AV))} {ws : List (List UInt8)} {sep : List UInt8} (he : okE m b st ex) (hw : okW ws ex) (h0 : 0 < ws.length) (h1 : ws.length ≤ 1000) (h2 : (Lib.join ws sep).length ≤ 140737488355328) :
    eJoin [wv ws ex, .str sep] ⟨m, bl b st ++ exB ex⟩ = some (.ret (.str (Lib.join ws sep)), ⟨m, bl b st ++ exB ex⟩) := by
  have hs : sliceRows ⟨m, bl b st ++ exB ex⟩ (wv ws ex) = some (rowsS ws) := by
    cases ex with
    | none => rfl
    | some y =>
      obtain ⟨id, rows⟩ := y
      simp only [okW] at hw
      subst hw
      have hf := fresh_ex he
      simp only [wv, sliceRows, AHeap.rows, AHeap.get, exB, lookup_fresh hf, Option.bind_some, List.drop_zero, Nat.zero_add]
      have hrs : (rowsS ws).length = ws.length := by simp [rowsS]
      rw [if_pos (by omega), List.take_of_length_le (by omega)]
  simp only [eJoin, hs, Option.bind_some, strRows_S]
  rw [if_pos ⟨h0, by omega, h2⟩]
theorem frz_w {fr : Fr} {m b : Nat} {k : Nat} {kl : List Nat} {ex : Option (Nat × List (List AV))} {ws : List (List UInt8)} {t : List UInt8} (hw : okW ws ex) (hk : ∀ id rows, ex = some (id, rows) → id ≠ b ∧ id ≠ k)
    (ha : getF fr 0 = some (wv ws ex)) : finishS [0] kl fr ⟨m, (b, .obj 0 [.ptr k 0 t.length]) :: exB ex ++ [(k, .obj 1 [.str t])]⟩ = (dropF (putF fr 0 (.isl (rowsS ws) (match ex with | none => some ws.length | some _ => none))) kl, ⟨m, bl b (some (k, t))⟩) := by
  rw [getF_eq] at ha
  cases ex with
  | none =>
    simp only [wv] at ha
    simp only [finishS, freezeFr, List.foldl_cons, List.foldl_nil, ha, freezeV, dropF_eq, putF_eq, exB, bl, List.singleton_append, List.cons_append, List.nil_append]
  | some y =>
    obtain ⟨id, rows⟩ := y
    simp only [okW] at hw
    subst hw
    obtain ⟨k1, k2⟩ := hk id _ rfl
    have k1' : ¬ id = b := k1
    have k2' : ¬ id = k := k2
    have hrs : (rowsS ws).length = ws.length := by simp [rowsS]
    simp only [wv] at ha
    simp only [finishS, freezeFr, List.foldl_cons, List.foldl_nil, ha, freezeV, AHeap.rows, AHeap.get, lookupB, exB, List.cons_append, List.nil_append, if_neg k1', if_true]
    simp only [hrs, Nat.zero_add, Nat.le_refl, if_true, List.drop_zero, AHeap.free, removeB, if_neg k1', if_neg k2', dropF_eq, putF_eq, bl]
    rw [List.take_of_length_le (by omega)]
def intR (z : Int) : List AV := [.int .i64 z]
theorem itoa_ext {z : Int} (h : -1000000000 ≤ z ∧ z ≤ 1000000000) (H : AHeap) : eItoa [.int .i64 z] H = some (.ret (.str (Lib.itoa z)), H) := by
  simp only [eItoa]
  rw [if_pos ⟨by omega, by omega⟩]
theorem next_ok {m b : Nat} {st : BSt} {rows : List (List AV)} (h : okB m b st) : okB (m + 1) b st ∧ okE (m + 1) b st (some (m, rows)) := by
  cases st with
  | none =>
    simp only [okB] at h
    simp only [okB, okE]
    refine ⟨by omega, by omega, by omega, fun r t e => by cases e⟩
  | some x =>
    obtain ⟨r, t⟩ := x
    simp only [okB] at h
    simp only [okB, okE]
    refine ⟨by omega, by omega, by omega, fun r' t' e => by cases e; omega⟩
theorem wv_next {ws : List (List UInt8)} {l : List Int} {j : Nat} (hj : j < l.length) : (ws ++ (l.take j).map Lib.itoa) ++ [Lib.itoa l[j]] = ws ++ (l.take (j + 1)).map Lib.itoa := by
  rw [List.take_add_one, List.getElem?_eq_getElem hj, List.append_assoc]
  simp only [Option.toList_some, List.map_append, List.map_cons, List.map_nil]
set_option maxHeartbeats 8000000 in
set_option maxRecDepth 100000 in
theorem c19 {n : Nat} (hn : 230 ≤ n) {b m : Nat} {st : BSt} (h : okB m b st) (ws : List (List UInt8)) (ns : Sl Int) (h0 : 0 < ws.length) (h1 : ws.length + ns.list.length ≤ 100) (hr : ∀ (i : Nat) (h : i < ns.list.length), -1000000000 ≤ ns.list[i] ∧ ns.list[i] ≤ 1000000000)
    (hj : (Lib.join (ws ++ ns.list.map Lib.itoa) [32]).length ≤ 100000) (ht : (txt st).length ≤ 100000000) {H0 : AHeap} (hH : H0 = ⟨m, bl b st ++ exB none⟩) :
    ∃ r m', okB m' b (some (r, txt st ++ line (ws ++ ns.list.map Lib.itoa))) ∧ evalFn S n (.fn 19 [.ptr b 0 0]) [wv ws none, ns.av intR] H0 = some (.ret (.tup []), ⟨m', bl b (some (r, txt st ++ line (ws ++ ns.list.map Lib.itoa)))⟩) := by
  obtain ⟨n, rfl⟩ : ∃ m, n = m + 1 := ⟨n - 1, by omega⟩
  suffices hs : ∃ v H', evalFn S (n + 1) (.fn 19 [.ptr b 0 0]) [wv ws none, ns.av intR] H0 = some (v, H') ∧ (v = .ret (.tup []) ∧ ∃ r m', okB m' b (some (r, txt st ++ line (ws ++ ns.list.map Lib.itoa))) ∧ H' = ⟨m', bl b (some (r, txt st ++ line (ws ++ ns.list.map Lib.itoa)))⟩) by
    obtain ⟨v, H', e, rfl, r, m', e2, rfl⟩ := hs
    exact ⟨r, m', e2, e⟩
  refine fn_ok (S := S) (sf := sf19) rfl (S_fn rfl) (Q := fun v H' => v = .ret (.tup []) ∧ ∃ r m', okB m' b (some (r, txt st ++ line (ws ++ ns.list.map Lib.itoa))) ∧ H' = ⟨m', bl b (some (r, txt st ++ line (ws ++ ns.list.map Lib.itoa)))⟩) rfl ?_
  simp only [sf19, codeP, opsP, drawP]
  repeat' (conv => whnf
           first | refine ⟨_, rfl, ?_⟩ | refine Br.mk (fun _ => ?_) (fun _ => ?_) | refine ⟨_, _, .inl ⟨rfl, ?_⟩⟩ | refine ⟨_, alenSl_av _ _, ?_⟩ | fail)
  all_goals try (conv => whnf)
  refine loopP_inv (fun j fr H' df => ∃ (i : Int) (ex : Option (Nat × List (List AV))) (m' : Nat), fr = [(0, wv (ws ++ (ns.list.take j).map Lib.itoa) ex), (2, .ptr b 0 0), (7, ns.av intR), (8, .int .i64 (ns.list.length : Nat)), (9, .int .i64 i)] ∧ H' = ⟨m', bl b st ++ exB ex⟩ ∧ df = [] ∧ i = (j : Int) ∧ okB m' b st ∧ okE m' b st ex ∧ okW (ws ++ (ns.list.take j).map Lib.itoa) ex) ns.list.length ?_ ns.list.length (Nat.zero_add _) ⟨_, none, m, by simp, hH, rfl, rfl, h, trivial, trivial⟩ (by omega)
  rintro j hj' fr H' df ⟨i, ex, m', rfl, rfl, rfl, rfl, hb, he, hw⟩ kn hk
  try simp only [codeP, opsP, drawP]
  repeat' (conv => whnf
           first | refine ⟨_, _, .inl ⟨app_ok hb he hw (by simp; omega) rfl rfl, ?_⟩⟩ | refine ⟨_, rfl, ?_⟩ | refine Br.mk (fun _ => ?_) (fun _ => ?_) | refine ⟨_, _, .inl ⟨rfl, ?_⟩⟩ | refine ⟨_, iad_av (f := intR) (m := 1) (fun _ => rfl) _ _ _ (lt_of ‹_›), ?_⟩ | refine ⟨_, _, ⟨rfl, call_ext (g := 20) rfl (by omega) (itoa_ext (hr j (lt_of ‹_›)) _)⟩, ?_⟩ | fail)
  all_goals try (conv => whnf)
  all_goals first | (have hlt := lt_of ‹decide ((j : Int) < _) = true›) | (have hge := ge_of ‹decide ((j : Int) < _) = false›) | skip
  case refine_1 =>
    refine hk hlt _ _ _ ⟨_, some (m', rowsS (ws ++ (ns.list.take (j + 1)).map Lib.itoa)), m' + 1, ?_, ?_, rfl, w1 (by omega), (next_ok (rows := []) hb).1, (next_ok hb).2, rfl⟩
    · rw [wv_next hlt]
    · rw [wv_next hlt]
  rw [List.take_of_length_le hge] at hw
  have hlj : (ws ++ ns.list.map Lib.itoa).length ≤ 1000 := by simp; omega
  simp only [List.take_of_length_le hge]
  refine ⟨_, _, ⟨rfl, call_ext (g := 22) rfl (by omega) (join_ok he hw (by simp; omega) hlj (by omega))⟩, ?_⟩
  repeat' (conv => whnf
           first | refine ⟨_, strAdd (by simp only [List.length_cons, List.length_nil]; omega), ?_⟩ | refine ⟨_, _, frz_w hw (fun id rows e => by subst e; simp only [okE] at he; exact ⟨he.2.1, by omega⟩) rfl, ?_⟩ | refine ⟨_, rfl, ?_⟩ | refine Br.mk (fun _ => ?_) (fun _ => ?_) | refine ⟨_, _, .inl ⟨rfl, ?_⟩⟩ | refine ⟨_, _, ⟨rfl, call_ext (g := 21) rfl (by omega) (write_ok hb he (by simp) (by simp only [List.length_append, List.length_cons, List.length_nil]; omega))⟩, ?_⟩ | fail)
  all_goals try (conv => whnf)
  refine ⟨rfl, m', m' + 1, ?_, rfl⟩
  cases st with
  | none => simp only [okB] at hb ⊢; refine ⟨by omega, by omega, by omega, ?_⟩; simp only [line, List.length_append, List.length_cons, List.length_nil]; omega
  | some x => obtain ⟨r, t⟩ := x; simp only [okB] at hb ⊢; refine ⟨by omega, by omega, by omega, ?_⟩; simp only [line, List.length_append, List.length_cons, List.length_nil]; omega
end Go.AM.Wc
