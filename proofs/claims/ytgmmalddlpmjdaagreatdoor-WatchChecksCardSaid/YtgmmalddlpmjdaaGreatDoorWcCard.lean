/- For every two watch plans, every gauge and every time, the law WatchChecks returns true, and each argument reads behind the call as it read before. Conditions: the row's own ones alone, which are those of the given card: the program's three listed tables hold what its text lays into them, and no string or slice of the arguments takes more bytes than the form's reach. -/
import Derived.Test.YtgmmalddlpmjdaaGreatDoorAmTop
import Derived.Test.YtgmmalddlpmjdaaGreatDoorWcO
import Derived.Test.YtgmmalddlpmjdaaGreatDoorWcExtOK
import Derived.Test.YtgmmalddlpmjdaaGreatDoorRows
import Derived.Stop.LaidErr
import Derived.MakeChecks
import Derived.ProofKit
import Derived.OpenShut
import Derived.LaidMore
import Derived.Lay
import Derived.LaidOnce
import Derived.JoinedOf
import Derived.Carry
import Derived.Test.YtgmmalddlpmjdaaGreatDoorTie
import Derived.Test.YtgmmalddlpmjdaaGreatDoorCards
import Derived.SevenTiedAt
set_option linter.unusedVariables false
set_option maxRecDepth 100000
namespace Go.AM.Wc
open Go Go.AM Go.RowKit Go.Proofs Go.Proofs.YtgmmalddlpmjdaaGreatDoor

theorem envOK : EnvOK E where
  fns g hg := by
    have hg' : ((funT.get g).isSome || extL.elem g) = true := hg
    rw [Bool.or_eq_true] at hg'
    rcases hg' with h | h
    · obtain ⟨sf, h⟩ := Option.isSome_iff_exists.1 h
      obtain ⟨fn, h1, h2⟩ := funT_all.get h
      refine ⟨fn, h1, ?_⟩
      simp only [slimFn, Option.bind_eq_some_iff] at h2
      obtain ⟨c, hc, _, _, _, _, h3⟩ := h2
      split at h3
      · cases h3
      · rename_i hn
        exact ⟨by rw [hc]; rfl, by simpa using hn⟩
    · have h : g = 20 ∨ g = 21 ∨ g = 22 ∨ g = 23 ∨ g = 24 := by simpa [extL, List.elem_eq_mem] using h
      rcases h with rfl | rfl | rfl | rfl | rfl
      · exact ⟨_, Tryz.func20, by kernel_rfl, by kernel_rfl⟩
      · exact ⟨_, Tryz.func21, by kernel_rfl, by kernel_rfl⟩
      · exact ⟨_, Tryz.func22, by kernel_rfl, by kernel_rfl⟩
      · exact ⟨_, Tryz.func23, by kernel_rfl, by kernel_rfl⟩
      · exact ⟨_, Tryz.func24, by kernel_rfl, by kernel_rfl⟩
  mixed := by kernel_rfl
theorem tabOK : TabOK E S := fun g sf _ h => ⟨by
  show ((funT.get g).isSome || extL.elem g) = true
  rw [show funT.get g = some sf from h]; rfl, funT_all.get h⟩
theorem fns_ext {g : Nat} (h : extL.elem g = true) : E.fns g = true := by
  show ((funT.get g).isSome || extL.elem g) = true
  rw [h, Bool.or_true]
theorem extOK {W : World} (h0 : Lib.TabIs Tryz.prog W "internal/strconv.uint64pow10" .u64 Lib.pow10Tab) : ExtOK E W S.ext := by
  intro g e hg
  have hg' : extF g = some e := hg
  unfold extF at hg'
  split at hg'
  · cases hg'
  · split at hg'
    · rename_i h; subst h
      obtain rfl := Option.some.inj hg'
      exact ⟨fns_ext rfl, fun R hv he => (fun _ => callsIn_wide.2 (ext20 h0 R hv he))⟩
    · split at hg'
      · rename_i h; subst h
        obtain rfl := Option.some.inj hg'
        exact ⟨fns_ext rfl, fun R hv he => (fun _ => callsIn_wide.2 (ext21 R hv he))⟩
      · split at hg'
        · rename_i h; subst h
          obtain rfl := Option.some.inj hg'
          exact ⟨fns_ext rfl, fun R hv he => (fun _ => callsIn_wide.2 (ext22 R hv he))⟩
        · split at hg'
          · rename_i h; subst h
            obtain rfl := Option.some.inj hg'
            exact ⟨fns_ext rfl, fun R hv he => (fun _ => callsIn_wide.2 (ext23 R hv he))⟩
          · split at hg'
            · rename_i h; subst h
              obtain rfl := Option.some.inj hg'
              exact ⟨fns_ext rfl, fun R hv he => (fun _ => callsIn_wide.2 (ext24 R hv he))⟩
            · cases hg'

/-! ### The tables -/
def tab2 : List Int := [0, 1, 28, 2, 29, 14, 24, 3, 30, 22, 20, 15, 25, 17, 4, 8, 31, 27, 13, 23, 21, 19, 16, 7, 26, 12, 18, 6, 11, 5, 10, 9]
def tab3 : List Int := [0, 1, 56, 2, 57, 49, 28, 3, 61, 58, 42, 50, 38, 29, 17, 4, 62, 47, 59, 36, 45, 43, 51, 22, 53, 39, 33, 30, 24, 18, 12, 5, 63, 55, 48, 27, 60, 41, 37, 16, 46, 35, 44, 21, 52, 32, 23, 11, 54, 26, 40, 15, 34, 20, 31, 10, 25, 14, 19, 9, 13, 8, 7, 6]
theorem tabs_of_laid {W : World} (h : laidMetH Tryz.prog Rows.watchChecksRow.laid W) :
    Lib.TabIs Tryz.prog W "math/bits.deBruijn32tab" .u8 tab2 ∧ Lib.TabIs Tryz.prog W "math/bits.deBruijn64tab" .u8 tab3 ∧ Lib.TabIs Tryz.prog W "internal/strconv.uint64pow10" .u64 Lib.pow10Tab := by
  rw [MakeChecks.laidMetH_plain _ _ _ (by kernel_rfl)] at h
  have h : laidMet Tryz.prog [("math/bits.deBruijn32tab", Lib.tabData .u8 tab2), ("math/bits.deBruijn64tab", Lib.tabData .u8 tab3), ("internal/strconv.uint64pow10", Lib.tabData .u64 Lib.pow10Tab)] W := h
  have h2 := laidMet.tail h
  have h3 := laidMet.tail h2
  exact ⟨Lib.tabIs_of_head (g := 2) (t := 169) (by kernel_rfl) (by kernel_rfl) Tryz.underlying169 Tryz.underlying5 (by kernel_rfl) (by kernel_rfl) h,
    Lib.tabIs_of_head (g := 3) (t := 170) (by kernel_rfl) (by kernel_rfl) Tryz.underlying170 Tryz.underlying5 (by kernel_rfl) (by kernel_rfl) h2,
    Lib.tabIs_of_head (g := 0) (t := 158) (by kernel_rfl) (by kernel_rfl) Tryz.underlying158 Tryz.underlying137 (by kernel_rfl) (by kernel_rfl) h3⟩
theorem vrels_ints (c : Ctx) (w : World) (k : IntKind) : ∀ zs : List Int, VRels c w (zs.map (.int k)) (zs.map fun z => Value.int k z)
  | [] => by simp [VRels]
  | z :: zs => by
    simp only [List.map_cons, VRels]
    exact ⟨_, _, rfl, by simp [VRel], vrels_ints c w k zs⟩
theorem glob_tab {W : World} {name : String} {k : IntKind} {zs : List Int} {g : Nat} (hg : Tryz.prog.globalNamed name = some g) (h : Lib.TabIs Tryz.prog W name k zs) : VRel (ctx0 W) W (.imm (zs.map (.int k)) 0) (.pointer (some ⟨g, 0, none⟩)) := by
  unfold Lib.TabIs World.var? at h
  rw [hg, Option.bind_some] at h
  split at h
  · rename_i cs t fr he
    obtain rfl := Option.some.inj h
    rw [VRel]
    exact ⟨g, 0, _, t, fr, rfl, (Array.getElem?_eq_some_iff.1 he).1, he, by
      simp only [List.drop_zero, List.length_map]
      rw [List.take_of_length_le (by simp)]
      exact vrels_ints _ _ _ _⟩
  · cases h
theorem start {W : World} (h : laidMetH Tryz.prog Rows.watchChecksRow.laid W) : Rel E W (ctx0 W) ⟨0, []⟩ W := by
  obtain ⟨h2, h3, h0⟩ := tabs_of_laid h
  refine Rel.start fun g row hg => ?_
  have hg' : globs g = some row := hg
  unfold globs at hg'
  split at hg'
  · obtain rfl := Option.some.inj hg'
    exact glob_tab (k := .u64) (zs := Lib.pow10Tab) (by kernel_rfl) h0
  · obtain rfl := Option.some.inj hg'
    exact glob_tab (k := .u8) (zs := tab2) (by kernel_rfl) h2
  · obtain rfl := Option.some.inj hg'
    exact glob_tab (k := .u8) (zs := tab3) (by kernel_rfl) h3
  · cases hg'

/-! ### The arguments -/
theorem list_of {α : Type} {f : α → List AV} {Q : α → Prop} : ∀ {rows : List (List AV)}, (∀ r, r ∈ rows → ∃ x, r = f x ∧ Q x) → ∃ xs : List α, rows = xs.map f ∧ ∀ x, x ∈ xs → Q x
  | [], _ => ⟨[], rfl, fun x h => by cases h⟩
  | r :: rs, h => by
    obtain ⟨x, hx, hq⟩ := h r (by simp)
    obtain ⟨xs, hxs, hqs⟩ := list_of (rows := rs) fun r hr => h r (by simp [hr])
    refine ⟨x :: xs, by rw [hx, hxs]; rfl, fun y hy => ?_⟩
    rcases List.mem_cons.1 hy with rfl | hy
    · exact hq
    · exact hqs y hy
/-- A slice of rows of a known shape. -/
theorem sl_of {α : Type} {f : α → List AV} {Q : α → Prop} {R : List AV → Prop} {k : Nat} {row : List AV} (hR : ∀ r, R r → ∃ x, r = f x ∧ Q x)
    (h : row = [.nilsl] ∨ ∃ rows cap, row = [.isl rows (some cap)] ∧ rows.length ≤ reachBytes ∧ ∀ r, r ∈ rows → r.length = k ∧ R r) :
    ∃ s : Sl α, row = [s.av f] ∧ s.list.length ≤ reachBytes ∧ ∀ x, x ∈ s.list → Q x := by
  rcases h with rfl | ⟨rows, cap, rfl, h2, h3⟩
  · exact ⟨.none, rfl, by simp [Sl.list], fun x h => by simp [Sl.list] at h⟩
  · obtain ⟨xs, rfl, hq⟩ := list_of (f := f) (Q := Q) fun r hr => hR r (h3 r hr).2
    exact ⟨.some cap xs, rfl, by simpa [Sl.list] using h2, fun x hx => hq x (by simpa [Sl.list] using hx)⟩
theorem sh_G {m : Nat} {row : List AV} (h : Sh Tryz.prog (m + 2) 28 row) : ∃ g : G, row = g.row ∧ g.name.length ≤ reachBytes := by
  simp only [Sh, Tryz.underlying28, Tryz.underlying9, Tryz.underlying3, ShF] at h
  obtain ⟨_, _, rfl, _, ⟨s, rfl, hs⟩, _, _, rfl, _, ⟨a, rfl, _⟩, _, _, rfl, _, ⟨b, rfl, _⟩, _, _, rfl, _, ⟨c, rfl, _⟩, rfl⟩ := h
  exact ⟨⟨s, a, b, c⟩, rfl, hs⟩
theorem sh_Q {m : Nat} {row : List AV} (h : Sh Tryz.prog (m + 4) 43 row) : ∃ q : Q, row = q.row ∧ q.gs.list.length ≤ reachBytes ∧ q.name.length ≤ reachBytes := by
  rw [Sh, Tryz.underlying43] at h
  simp only [ShF] at h
  obtain ⟨_, _, rfl, _, h1, _, _, rfl, _, h2, _, _, rfl, _, h3, _, _, rfl, _, h4, _, _, rfl, _, h5, _, _, rfl, _, h6, rfl⟩ := h
  simp only [Sh, Tryz.underlying9] at h1
  simp only [Sh, Tryz.underlying40, Tryz.underlying3, ShF] at h2
  simp only [Sh, Tryz.underlying3] at h3 h4 h5
  rw [Sh, Tryz.underlying41] at h6
  obtain ⟨s, rfl, hs⟩ := h1
  obtain ⟨_, _, rfl, _, ⟨a, rfl, _⟩, _, _, rfl, _, ⟨b, rfl, _⟩, rfl⟩ := h2
  obtain ⟨c, rfl, _⟩ := h3
  obtain ⟨d, rfl, _⟩ := h4
  obtain ⟨e, rfl, _⟩ := h5
  obtain ⟨gs, rfl, hg, _⟩ := sl_of (f := G.row) (Q := fun g => g.name.length ≤ reachBytes) (fun r hr => sh_G hr) h6
  exact ⟨⟨s, a, b, c, d, e, gs⟩, rfl, hg, hs⟩
theorem sh_M {m : Nat} {row : List AV} (h : Sh Tryz.prog (m + 2) 45 row) : ∃ g : M, row = g.row ∧ g.name.length ≤ reachBytes ∧ g.crew.length ≤ reachBytes := by
  simp only [Sh, Tryz.underlying45, Tryz.underlying9, Tryz.underlying3, ShF] at h
  obtain ⟨_, _, rfl, _, ⟨s, rfl, hs⟩, _, _, rfl, _, ⟨t, rfl, ht⟩, _, _, rfl, _, ⟨a, rfl, _⟩, _, _, rfl, _, ⟨b, rfl, _⟩, _, _, rfl, _, ⟨c, rfl, _⟩, rfl⟩ := h
  exact ⟨⟨s, t, a, b, c⟩, rfl, hs, ht⟩
theorem sh_A {m : Nat} {row : List AV} (h : Sh Tryz.prog (m + 2) 71 row) : ∃ g : A, row = g.row ∧ True := by
  simp only [Sh, Tryz.underlying71, Tryz.underlying3, ShF] at h
  obtain ⟨_, _, rfl, _, ⟨s, rfl, _⟩, _, _, rfl, _, ⟨a, rfl, _⟩, _, _, rfl, _, ⟨b, rfl, _⟩, _, _, rfl, _, ⟨c, rfl, _⟩, rfl⟩ := h
  exact ⟨⟨s, a, b, c⟩, rfl, trivial⟩
theorem sh_P {m : Nat} {row : List AV} (h : Sh Tryz.prog (m + 6) 26 row) : ∃ p : P, row = p.row ∧ p.fits := by
  rw [Sh, Tryz.underlying26] at h
  simp only [ShF] at h
  obtain ⟨_, _, rfl, _, h1, _, _, rfl, _, h2, _, _, rfl, _, h3, rfl⟩ := h
  rw [Sh, Tryz.underlying22] at h1
  rw [Sh, Tryz.underlying23] at h2
  rw [Sh, Tryz.underlying24] at h3
  obtain ⟨qs, rfl, hq, hq'⟩ := sl_of (f := Q.row) (fun r hr => sh_Q hr) h1
  obtain ⟨ms, rfl, hm, hm'⟩ := sl_of (f := M.row) (fun r hr => sh_M hr) h2
  obtain ⟨aa, rfl, ha, _⟩ := sl_of (f := A.row) (fun r hr => sh_A hr) h3
  have hb : reachBytes ≤ 1152921504606846976 := by unfold reachBytes; omega
  refine ⟨⟨qs, ms, aa⟩, rfl, ⟨by show qs.list.length ≤ _; omega, by show ms.list.length ≤ _; omega, by show aa.list.length ≤ _; omega, fun i h => ?_, fun i h => ?_⟩⟩
  · have := hq' _ (List.getElem_mem h)
    omega
  · have := hm' _ (List.getElem_mem h)
    omega
theorem okP : tileOK Tryz.prog 6 26 = true := by kernel_rfl
theorem okG : tileOK Tryz.prog 2 28 = true := by kernel_rfl
section
variable {H : Type} {enc : TypeId × Value → H} {W : World} {base : Nat} {held : Bool}
theorem arg_P {v : Value} {d : DataW H} {p : List MemPlace} (hv : ∃ cs, v = .agg cs ∧ cs.size = Tryz.prog.cellsOf 26) (h : DataW.Trod enc Tryz.prog W base (fun _ => true) held 26 v d p) (hw : ∀ x, x ∈ d.weights Tryz.prog 26 → x ≤ reachBytes) :
    ∃ p : P, p.fits ∧ VRel (ctx0 W) W (.agg p.row) v := by
  obtain ⟨cs, rfl, _⟩ := hv
  obtain ⟨fuel, hf⟩ := h
  obtain ⟨row, h1, _, h2⟩ := trod_rel 6 26 cs.toList okP ⟨fuel, _, hf, hw⟩
  obtain ⟨p, rfl, hp⟩ := sh_P h2
  exact ⟨p, hp, cs, rfl, h1⟩
theorem arg_G {v : Value} {d : DataW H} {p : List MemPlace} (hv : ∃ cs, v = .agg cs ∧ cs.size = Tryz.prog.cellsOf 28) (h : DataW.Trod enc Tryz.prog W base (fun _ => true) held 28 v d p) (hw : ∀ x, x ∈ d.weights Tryz.prog 28 → x ≤ reachBytes) :
    ∃ g : G, VRel (ctx0 W) W (.agg g.row) v := by
  obtain ⟨cs, rfl, _⟩ := hv
  obtain ⟨fuel, hf⟩ := h
  obtain ⟨row, h1, _, h2⟩ := trod_rel 2 28 cs.toList okG ⟨fuel, _, hf, hw⟩
  obtain ⟨p, rfl, _⟩ := sh_G h2
  exact ⟨p, cs, rfl, h1⟩
end
theorem law {W : World} {p o : P} {g : G} {t : Int} {u v x : Value} (hl : laidMetH Tryz.prog Rows.watchChecksRow.laid W) (hp : p.fits) (ho : o.fits) (h1 : VRel (ctx0 W) W (.agg p.row) u) (h2 : VRel (ctx0 W) W (.agg o.row) v) (h3 : VRel (ctx0 W) W (.agg g.row) x) :
    Calls Tryz.prog 3 #[u, v, x, .int .i64 t] W fun e w' => e = .returned (.bool true) ∧ Below W.heap.size W w' := by
  have h := callsIn_wide.1 ((evalFn_ok envOK (extOK (tabs_of_laid hl).2.2) tabOK 1001).fn (us := #[u, v, x, .int .i64 t]) (start hl) (by
    simp only [List.append_nil, VRels]
    exact ⟨_, _, rfl, h1, _, _, rfl, h2, _, _, rfl, h3, _, _, rfl, by simp [VRel], rfl⟩) (c3 (Nat.le_refl _) p o g t hp ho) 0)
  refine h.mono fun e w' ⟨c', _, R, he⟩ => ⟨?_, R.below⟩
  obtain ⟨z, rfl, hz⟩ := he
  rw [VRel] at hz
  rw [hz]
end Go.AM.Wc
set_option maxRecDepth 100000
namespace Go.AM.Wc
open Go Go.AM Go.Proofs Go.Proofs.YtgmmalddlpmjdaaGreatDoor
open Go.ChangeShapes Go.WideShapes Go.ChangeAt Go.RowKit

theorem own : ownKnob Tryz.prog.godebug = none := by kernel_rfl
theorem laidOut : laidOutB Tryz.prog = true := by kernel_rfl
theorem lifted (os : Os) (started : os.Started) (H : Type) (enc : TypeId × Value → H) :
    ReturnsInHanded {} Tryz.checked os 3 .any (fun w args => (Rows.watchChecksSpec.pre enc Tryz.prog Tryz.f3 [] false w args ∧ laidMetH Tryz.prog Rows.watchChecksRow.laid w) ∧ sizedMet enc Tryz.prog Tryz.f3 (OpenSpec.ofChange Rows.watchChecksSpec) false w args)
      (Rows.watchChecksSpec.post enc Tryz.prog Tryz.f3 false true false false) := by
  refine returnsInHanded_of_change_and (C := Tryz.checked) (X := fun w _ => laidMetH Tryz.prog Rows.watchChecksRow.laid w) (fun _ _ _ hh h => h.of_heap hh) own started (by kernel_rfl) Tryz.func3
    (ChangeSpec.witness_at (enc := enc) (C := Tryz.checked) (os := os) (X := fun w _ => laidMetH Tryz.prog Rows.watchChecksRow.laid w) false (World.laidAll Tryz.prog os Rows.watchChecksRow.laid)
      #[.agg #[.slice none 0 0, .slice none 0 0, .slice none 0 0], .agg #[.slice none 0 0, .slice none 0 0, .slice none 0 0], .agg #[.string ⟨#[]⟩, .int .i64 0, .int .i64 0, .int .i64 0], .int .i64 0] 8 (World.laidAll_os _ _ _) (by kernel_rfl) (by kernel_rfl) (by kernel_rfl) (by kernel_rfl) (by kernel_rfl)
      (by rw [MakeChecks.laidMetH_plain _ _ _ (by kernel_rfl)]; exact laidMet_laidAll _ (by kernel_rfl) (by kernel_rfl))) ?_
  intro W base args ds gs before hval0 hW _ hsz hL _
  have hval : ∀ (j : Nat) t v, Tryz.f3.params[j]? = some t → args[j]? = some v → Value.okWide Tryz.prog W .any base t v := hval0
  have hW' := hW
  obtain ⟨p, q, hA0, hV, rfl, _, _⟩ := hW
  have hA : DataW.TrodAll enc Tryz.prog W 0 (fun _ => true) true Tryz.f3.params.toList args.toList ds p := hA0
  have hz : (DataW.weightsEach Tryz.prog (Tryz.f3.params.toList ++ Rows.watchChecksSpec.plain.varTypes Tryz.prog) (ds ++ gs)).all (· ≤ reachBytes) = true := hsz
  rw [Tryz.params3] at hA hval hz
  obtain ⟨v0, v1, v2, v3, d0, d1, d2, d3, p0, p1, p2, p3, rfl, rfl, rfl, h0, h1, h2, h3⟩ := trodAll_four hA
  obtain ⟨rfl, rfl⟩ := trodVars_none hV
  clear hA0 hval0 hsz
  simp only [List.append_nil] at hW'
  have hz' : ∀ x, x ∈ DataW.weightsEach Tryz.prog ([26, 26, 28, 3] ++ Rows.watchChecksSpec.plain.varTypes Tryz.prog) [d0, d1, d2, d3] → x ≤ reachBytes := by
    intro x hx
    have := List.all_eq_true.1 hz x (by simpa using hx)
    simpa using this
  obtain ⟨P0, f0, r0⟩ := arg_P (okWide_struct Tryz.underlying26 (hval 0 26 v0 rfl rfl)) h0 fun x hx => hz' x (weightsEach_mem (i := 0) rfl rfl hx)
  obtain ⟨P1, f1, r1⟩ := arg_P (okWide_struct Tryz.underlying26 (hval 1 26 v1 rfl rfl)) h1 fun x hx => hz' x (weightsEach_mem (i := 1) rfl rfl hx)
  obtain ⟨G2, r2⟩ := arg_G (okWide_struct Tryz.underlying28 (hval 2 28 v2 rfl rfl)) h2 fun x hx => hz' x (weightsEach_mem (i := 2) rfl rfl hx)
  obtain ⟨t, rfl, rfl, rfl, wt⟩ := open_int Tryz.underlying3 (hval 3 3 v3 rfl rfl) h3
  have hlt : ∀ x, x ∈ p0 ++ p1 ++ p2 ++ [] → x.block < W.heap.size := fun x hx => by simpa using hW'.lt x hx
  refine (law hL f0 f1 r0 r1 r2).mono fun e W' ⟨he, hb⟩ => ?_
  subst he
  have k0 := Below.trod laidOut (by kernel_rfl) (of_decide_eq_true (by kernel_rfl)) h0 hb fun x hx => hlt x (by simp [hx])
  have k1 := Below.trod laidOut (by kernel_rfl) (of_decide_eq_true (by kernel_rfl)) h1 hb fun x hx => hlt x (by simp [hx])
  have k2 := Below.trod laidOut (by kernel_rfl) (of_decide_eq_true (by kernel_rfl)) h2 hb fun x hx => hlt x (by simp [hx])
  refine ⟨_, rfl, _, _, _, [], _, [], hW', ?_, trodAll_mk4 k0 k1 k2 (shut_int Tryz.underlying3 wt), rfl, hb.frame _, fun h => by cases h⟩
  exact trodAll_mk1 (shut_bool Tryz.underlying4 true)
end Go.AM.Wc
set_option maxRecDepth 100000
namespace Go.Proofs.YtgmmalddlpmjdaaGreatDoor
open Go Go.Proofs
theorem watchChecks_holds : Rows.WatchChecksSaid :=
  OpenClaim.holds_of_wide 3 Tryz.f3 rfl rfl rfl rfl rfl rfl rfl ⟨rfl, rfl, rfl, rfl, rfl⟩ rfl rfl rfl rfl rfl (by kernel_rfl) Tryz.func3 (by kernel_rfl)
    (of_decide_eq_true (by kernel_rfl)) (by unfold Func.isWrapper; rw [if_neg (of_decide_eq_false (by kernel_rfl))]; exact ⟨rfl, rfl⟩)
    (fun os started H enc _ => Go.AM.Wc.lifted os started H enc)
theorem watchChecks : Rows.WatchChecksCardSaid :=
  Claim7.holds_tied_plain_at .later [] [.data, .data, .data] true (true, "ca217e9c4d05e85654decf971985f874a07f9ac9822b1cb13d4f56b618b013c7") false watchChecks_holds (fun _ h => by cases h) (by kernel_rfl) (fun _ h => by cases h) watchChecks_row_tie rfl ⟨rfl, rfl⟩ (by kernel_rfl) rfl
    (fun f fn hf hfn => by
      obtain rfl : f = 3 := Option.some.inj ((show Tryz.prog.funcNamed "underpin/underpinlaw07.WatchChecks" = some 3 by kernel_rfl).symm.trans hf) |>.symm
      obtain rfl : fn = Tryz.f3 := (Option.some.inj (Tryz.func3.symm.trans hfn)).symm
      exact ⟨by kernel_rfl, fun j t ht => by
        rw [Tryz.params3] at ht
        have hm : t ∈ [26, 26, 28, 3] := by simpa using Array.mem_of_getElem? ht
        have hall : ([26, 26, 28, 3].all fun u => !Tryz.prog.wantsStandIn u) = true := by kernel_rfl
        exact (show Tryz.prog.wantsStandIn t = false by simpa using List.all_eq_true.1 hall t hm)⟩)
    (by kernel_rfl)
#print axioms watchChecks
end Go.Proofs.YtgmmalddlpmjdaaGreatDoor
