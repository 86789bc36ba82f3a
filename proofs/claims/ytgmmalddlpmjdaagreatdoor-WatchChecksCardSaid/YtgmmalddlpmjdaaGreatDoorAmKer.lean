/- AM: the evaluator for the kernel: the same, every value brought to its normal form as it is made. AM: the evaluator for the kernel: closures, continuations, one Bool. AM: the evaluator for the kernel: code, functions. -/
import Derived.Test.YtgmmalddlpmjdaaGreatDoorAmVal
import Derived.IntWalk
import Derived.Test.YtgmmalddlpmjdaaGreatDoorAmWp
import Derived.Test.YtgmmalddlpmjdaaGreatDoorAmRel
set_option linter.unusedVariables false
set_option linter.unusedSimpArgs false
namespace Go.AM
open Go

section
universe u
variable {α : Type} {β : Type u}
def fN (n : Nat) (c : Nat → β) : β := match n with
  | 0 => c 0
  | m + 1 => c (m + 1)
def fI (n : Int) (c : Int → β) : β := match n with
  | .ofNat m => fN m fun m => c (.ofNat m)
  | .negSucc m => fN m fun m => c (.negSucc m)
def fL : List α → (List α → β) → β
  | [], c => c []
  | x :: xs, c => fL xs fun xs => c (x :: xs)
def fLL : List (List α) → (List (List α) → β) → β
  | [], c => c []
  | x :: xs, c => fL x fun x => fLL xs fun xs => c (x :: xs)
def fO (o : Option Nat) (c : Option Nat → β) : β := match o with
  | none => c none
  | some n => fN n fun n => c (some n)
def fB (b : Bool) (c : Bool → β) : β := match b with
  | true => c true
  | false => c false
def fV (v : AV) (c : AV → β) : β := match v with
  | .bool b => fB b fun b => c (.bool b)
  | .int k n => fI n fun n => c (.int k n)
  | .str s => fL s fun s => c (.str s)
  | .nilptr => c .nilptr
  | .imm row off => fL row fun row => fN off fun off => c (.imm row off)
  | .ptr id row off => fN id fun id => fN row fun row => fN off fun off => c (.ptr id row off)
  | .nilsl => c .nilsl
  | .isl rows cap => fLL rows fun rows => fO cap fun cap => c (.isl rows cap)
  | .msl id lo len cap => fN id fun id => fN lo fun lo => fN len fun len => fO cap fun cap => c (.msl id lo len cap)
  | .nilmap => c .nilmap
  | .map id => fN id fun id => c (.map id)
  | .fn f caps => fL caps fun caps => c (.fn f caps)
  | .nilfn => c .nilfn
  | .yld id => fN id fun id => c (.yld id)
  | .ifc t v => c (.ifc t v)
  | .nilifc => c .nilifc
  | .agg xs => fL xs fun xs => c (.agg xs)
  | .tup xs => fL xs fun xs => c (.tup xs)
  | .junk => c .junk
def fFr : Fr → (Fr → β) → β
  | [], c => c []
  | (k, v) :: r, c => fFr r fun r => c ((k, v) :: r)
def fBlk (b : ABlk) (c : ABlk → β) : β := match b with
  | .cells sz rows => fN sz fun sz => fLL rows fun rows => c (.cells sz rows)
  | .loop st p fn nt fr ps a b => c (.loop st p fn nt fr ps a b)
  | .dfr => c .dfr
  | .map es => c (.map es)
  | .obj k d => c (.obj k d)
def fBs (ids : List Nat) : List (Nat × ABlk) → (List (Nat × ABlk) → β) → β
  | [], c => c []
  | (k, b) :: r, c => if ids.elem k = true then fN k fun k => fBlk b fun b => fBs ids r fun r => c ((k, b) :: r) else fBs ids r fun r => c ((k, b) :: r)
def fH (ids : List Nat) (H : AHeap) (c : AHeap → β) : β := match H with
  | ⟨n, l⟩ => fN n fun n => fBs ids l fun l => c ⟨n, l⟩

theorem fN_eq (n : Nat) (c : Nat → β) : fN n c = c n := by cases n <;> rfl
theorem fI_eq (n : Int) (c : Int → β) : fI n c = c n := by cases n <;> simp [fI, fN_eq]
theorem fL_eq : ∀ (l : List α) (c : List α → β), fL l c = c l
  | [], c => rfl
  | x :: xs, c => by simp only [fL, fL_eq xs]
theorem fLL_eq : ∀ (l : List (List α)) (c : List (List α) → β), fLL l c = c l
  | [], c => rfl
  | x :: xs, c => by simp only [fLL, fL_eq, fLL_eq xs]
theorem fO_eq (o : Option Nat) (c : Option Nat → β) : fO o c = c o := by cases o <;> simp [fO, fN_eq]
theorem fB_eq (b : Bool) (c : Bool → β) : fB b c = c b := by cases b <;> rfl
theorem fV_eq (v : AV) (c : AV → β) : fV v c = c v := by cases v <;> simp [fV, fN_eq, fI_eq, fL_eq, fLL_eq, fO_eq, fB_eq]
theorem fFr_eq : ∀ (l : Fr) (c : Fr → β), fFr l c = c l
  | [], c => rfl
  | (k, v) :: xs, c => by simp only [fFr, fFr_eq xs]
theorem fBlk_eq (b : ABlk) (c : ABlk → β) : fBlk b c = c b := by cases b <;> simp [fBlk, fN_eq, fLL_eq]
theorem fBs_eq (ids : List Nat) : ∀ (l : List (Nat × ABlk)) (c : List (Nat × ABlk) → β), fBs ids l c = c l
  | [], c => rfl
  | (k, b) :: r, c => by simp only [fBs, fN_eq, fBlk_eq, fBs_eq ids r, ite_self]
theorem fH_eq (ids : List Nat) (H : AHeap) (c : AHeap → β) : fH ids H c = c H := by cases H; simp [fH, fN_eq, fBs_eq]
end

/-! ### Operations, each a small definition -/
def kEq : IntKind → IntKind → Bool
  | .i64, .i64 => true
  | .u8, .u8 => true
  | .i64, _ => false
  | .u8, _ => false
  | k, k' => decide (k = k')
theorem kEq_eq (k k' : IntKind) : kEq k k' = decide (k = k') := by cases k <;> cases k' <;> rfl
def iEq : Int → Int → Bool
  | .ofNat m, .ofNat n => Nat.beq m n
  | .negSucc m, .negSucc n => Nat.beq m n
  | _, _ => false
def iLt : Int → Int → Bool
  | .ofNat m, .ofNat n => Nat.blt m n
  | .negSucc m, .negSucc n => Nat.blt n m
  | .negSucc _, .ofNat _ => true
  | .ofNat _, .negSucc _ => false
theorem nbeq (m n : Nat) : Nat.beq m n = decide (m = n) := by
  cases h : Nat.beq m n with
  | true => exact (decide_eq_true (Nat.eq_of_beq_eq_true h)).symm
  | false => exact (decide_eq_false (Nat.ne_of_beq_eq_false h)).symm
theorem nblt (m n : Nat) : Nat.blt m n = decide (m < n) := by
  unfold Nat.blt
  cases h : Nat.ble (m + 1) n with
  | true => exact (decide_eq_true (Nat.le_of_ble_eq_true h)).symm
  | false => exact (decide_eq_false (fun (k : m + 1 ≤ n) => by rw [Nat.ble_eq_true_of_le k] at h; cases h)).symm
theorem iEq_eq (a b : Int) : iEq a b = decide (a = b) := by
  cases a <;> cases b <;> simp [iEq, nbeq, Int.ofNat_inj]
theorem iLt_eq (a b : Int) : iLt a b = decide (a < b) := by
  cases a <;> cases b <;> simp [iLt, nblt] <;> omega
def wrK (k : IntKind) (n : Int) : Int :=
  match k with
  | .i64 => (match n with
    | .ofNat m => (match Nat.ble m 9223372036854775807 with
      | true => .ofNat m
      | false => IntKind.wrap .i64 n)
    | .negSucc m => (match Nat.ble m 9223372036854775807 with
      | true => .negSucc m
      | false => IntKind.wrap .i64 n))
  | .u8 => (match n with
    | .ofNat m => (match Nat.ble m 255 with
      | true => .ofNat m
      | false => IntKind.wrap .u8 n)
    | n => IntKind.wrap .u8 n)
  | k => IntKind.wrap k n
theorem wrK_eq (k : IntKind) (n : Int) : wrK k n = k.wrap n := by
  unfold wrK
  split
  · split
    · rename_i m
      split
      · rename_i h
        have := Nat.le_of_ble_eq_true h
        exact (IntWalk.i64_in (m : Int) ⟨by omega, by omega⟩).symm
      · rfl
    · rename_i m
      split
      · rename_i h
        have := Nat.le_of_ble_eq_true h
        exact (IntWalk.i64_in (Int.negSucc m) ⟨by omega, by omega⟩).symm
      · rfl
  · split
    · rename_i m
      split
      · rename_i h
        have := Nat.le_of_ble_eq_true h
        exact (IntWalk.u8_in (m : Int) ⟨by omega, by omega⟩).symm
      · rfl
    · rfl
  · rfl
def intK (op : BinOp) (k : IntKind) (a b : Int) : Option AV :=
  match op with
  | .add => some (.int k (wrK k (a + b)))
  | .sub => some (.int k (wrK k (a - b)))
  | .mul => some (.int k (wrK k (a * b)))
  | .eql => some (.bool (iEq a b))
  | .neq => some (.bool (!iEq a b))
  | .lss => some (.bool (iLt a b))
  | .leq => some (.bool (!iLt b a))
  | .gtr => some (.bool (iLt b a))
  | .geq => some (.bool (!iLt a b))
  | op => intBin op k a b
theorem intK_eq (op : BinOp) (k : IntKind) (a b : Int) : intK op k a b = intBin op k a b := by
  have e1 : decide (a = b) = (a == b) := by by_cases h : a = b <;> simp [h]
  have e2 : (!decide (b < a)) = decide (a ≤ b) := by by_cases h : b < a <;> simp [h] <;> omega
  have e3 : (!decide (a < b)) = decide (a ≥ b) := by by_cases h : a < b <;> simp [h] <;> omega
  have e4 : (!decide (a = b)) = (a != b) := by rw [e1]; rfl
  cases op <;> simp only [intK, intBin, wrK_eq, iEq_eq, iLt_eq, e2, e3, e4, e1] <;> rfl
def binIK (isC gd : Bool) (q : Option EqT) (op : BinOp) (k : IntKind) (a : Int) (v : AV) : Option AV :=
  match v with
  | .int k' b => (match op with
    | .shl => shBin .shl k a b
    | .shr => shBin .shr k a b
    | op => (match kEq k k' with
      | true => intK op k a b
      | false => none))
  | v => abinS isC gd q op (.int k a) v
def binK (isC gd : Bool) (q : Option EqT) (op : BinOp) (u v : AV) : Option AV :=
  match u with
  | .int k a => binIK isC gd q op k a v
  | u => abinS isC gd q op u v
theorem binK_eq (isC gd : Bool) (q : Option EqT) (op : BinOp) (u v : AV) : binK isC gd q op u v = abinS isC gd q op u v := by
  cases u with
  | int k a =>
    cases v with
    | int k' b =>
      simp only [binK, binIK, kEq_eq, intK_eq]
      by_cases h : k = k'
      · subst h
        cases op <;> simp [abinS]
      · cases op <;> simp [abinS, h]
    | _ => rfl
  | _ => rfl
def getK : Fr → Nat → Option AV
  | [], _ => none
  | (k, v) :: r, n => match Nat.beq n k with
    | true => some v
    | false => getK r n
theorem getK_eq (n : Nat) : ∀ fr : Fr, getK fr n = fr.get n
  | [] => rfl
  | (k, v) :: r => by
    have ih := getK_eq n r
    rw [getK, nbeq, Fr.get]
    by_cases h : n = k
    · simp [h]
    · simp [h, ih]
def evXK (fr : Fr) (x : SX) : Option AV :=
  match x with
  | .t n => getK fr n
  | .c v => some v
theorem evXK_eq (fr : Fr) (x : SX) : evXK fr x = evX fr x := by cases x <;> simp [evXK, evX, getK_eq]
abbrev XK := Fr → AHeap → Option OpR
def valK (H : AHeap) (x : Option AV) : Option OpR := x.bind fun v => some (.val v H)
theorem valK_eq (H : AHeap) (x : Option AV) : valK H x = ofVal H x := by cases x <;> rfl
def xMv (x : SX) : XK := fun fr H => valK H (evXK fr x)
def xLd (g : Bool) (n : Nat) (a : SX) : XK := fun fr H => (evXK fr a).bind fun a => valK H ((rowAt H a).bind fun r => cut g n r.2 r.1)
def xSt (n : Nat) (a x : SX) : XK := fun fr H => (evXK fr a).bind fun a => (evXK fr x).bind fun x => (astoreS H n a x).bind fun H => some (.skip H)
def xBin (isC gd : Bool) (q : Option EqT) (op : BinOp) (x y : SX) : XK := fun fr H => (evXK fr x).bind fun u => (evXK fr y).bind fun v => valK H (binK isC gd q op u v)
def xFad (off : Nat) (x : SX) : XK := fun fr H => (evXK fr x).bind fun x => valK H (afieldAddrS off x)
def xIad (n : Nat) (x ix : SX) : XK := fun fr H => (evXK fr x).bind fun x => (evXK fr ix).bind fun ix => valK H (aindexAddrS H n x ix)
def xIxs (x ix : SX) : XK := fun fr H => (evXK fr x).bind fun x => (evXK fr ix).bind fun ix => valK H (aindexStr x ix)
def xLenl (x : SX) : XK := fun fr H => (evXK fr x).bind fun x => valK H (alenSl x)
def xLens (x : SX) : XK := fun fr H => (evXK fr x).bind fun x => valK H (alenStr x)
def xUn (op : UnOp) (x : SX) : XK := fun fr H => (evXK fr x).bind fun x => valK H (aun op x)
def execK (o : SOp) : XK :=
  match o with
  | .mv x => xMv x
  | .ld g n a => xLd g n a
  | .st n a x => xSt n a x
  | .bin op isC gd q x y => xBin isC gd q op x y
  | .fad off x => xFad off x
  | .iad n x ix => xIad n x ix
  | .ixs x ix => xIxs x ix
  | .lenl x => xLenl x
  | .lens x => xLens x
  | .un op x => xUn op x
  | o => fun fr H => execS fr H o
theorem execK_eq (fr : Fr) (H : AHeap) (o : SOp) : execK o fr H = execS fr H o := by
  cases o <;> simp only [execK, execS, xMv, xLd, xSt, xBin, xFad, xIad, xIxs, xLenl, xLens, xUn, valK_eq, evXK_eq, binK_eq] <;> first
    | rfl
    | (congr 1; funext u; congr 1; funext v; cases astoreS H _ u v <;> rfl)
def wantedK (fr : Fr) (g : Option (Option Nat × Bool)) : Option Bool :=
  match g with
  | none => some true
  | some g => wantedS fr (some g)
theorem wantedK_eq (fr : Fr) (g : Option (Option Nat × Bool)) : wantedK fr g = wantedS fr g := by cases g <;> rfl
def putK {β : Type} (t : Nat) (v : AV) : Fr → (Fr → β) → β
  | [], c => c [(t, v)]
  | (k, u) :: r, c => (match Nat.beq t k with
    | true => c ((t, v) :: r)
    | false => (match Nat.blt t k with
      | true => c ((t, v) :: (k, u) :: r)
      | false => putK t v r fun r => c ((k, u) :: r)))
theorem putK_eq {β : Type} (t : Nat) (v : AV) : ∀ (fr : Fr) (c : Fr → β), putK t v fr c = c (fr.put t v)
  | [], c => rfl
  | (k, u) :: r, c => by
    have ih := fun (c : Fr → β) => putK_eq t v r c
    rw [putK, nbeq, nblt, Fr.put]
    by_cases h : t = k
    · subst h; simp
    · by_cases h2 : t < k
      · simp [h, h2]
      · simp [h, h2, ih]
def putOK {β : Type} (d : Option Nat) (v : AV) (fr : Fr) (c : Fr → β) : β :=
  match d with
  | some t => putK t v fr c
  | none => c fr
theorem putOK_eq {β : Type} (d : Option Nat) (v : AV) (fr : Fr) (c : Fr → β) : putOK d v fr c = c (fr.putO d v) := by cases d <;> simp [putOK, Fr.putO, putK_eq]
/-- The blocks that an operation may have turned. -/
def chgIds (fr : Fr) (H : AHeap) : SOp → List Nat
  | .st _ a _ => match evX fr a with
    | some (.ptr id _ _) => [id]
    | _ => []
  | .app _ _ s _ => match evX fr s with
    | some (.msl id _ _ _) => [id, H.next]
    | _ => [H.next]
  | .cpy _ d _ => match evX fr d with
    | some (.msl id _ _ _) => [id]
    | _ => []
  | _ => [H.next]
/-- Is what it yields as it lay there? -/
def asLay : SOp → Bool
  | .mv _ | .nck _ | .ext _ _ | .pick _ _ _ | .ifc _ _ => true
  | .ld false _ _ => true
  | .fld false _ _ _ => true
  | _ => false
/-- Does it leave the heap? -/
def leavesH : SOp → Bool
  | .new _ | .box false _ | .bsl false _ _ _ _ | .st _ _ _ | .mks _ _ _ _ _ | .app _ _ _ _ | .cpy _ _ _ | .call _ _ => false
  | _ => true
abbrev SK := Option (Option AV × Fr × AHeap)
def endVal (o : SO) (fr : Fr) (H : AHeap) (v : AV) (H' : AHeap) : SK :=
  match asLay o.op with
  | true => putOK o.dst v fr fun fr' => some (none, fr', H')
  | false => fV v fun v => putOK o.dst v fr fun fr' => match leavesH o.op with
    | true => some (none, fr', H')
    | false => fH (chgIds fr H o.op) H' fun H' => some (none, fr', H')
def endCall (o : SO) (fr : Fr) (r : FR × AHeap) : SK :=
  match r with
  | (.ret v, H') => putOK o.dst v fr fun fr' => some (none, fr', H')
  | (.pan v, H') => some (some v, fr, H')
def endOp (cf : CallF) (o : SO) (fr : Fr) (H : AHeap) (r : OpR) : SK :=
  match r with
  | .val v H' => endVal o fr H v H'
  | .skip H' => putOK o.dst (.tup []) fr fun fr' => fH (chgIds fr H o.op) H' fun H' => some (none, fr', H')
  | .call f args => (cf f args H).bind (endCall o fr)
  | .pan v => some (some v, fr, H)
  | .dfr _ _ => none
def stepK (cf : CallF) (o : SO) (fr : Fr) (H : AHeap) : SK :=
  (wantedK fr o.g).bind fun w => match w with
    | true => (execK o.op fr H).bind (endOp cf o fr H)
    | false => putOK o.dst (.tup []) fr fun fr' => some (none, fr', H)
theorem stepK_eq (cf : CallF) (o : SO) (fr : Fr) (H : AHeap) : stepK cf o fr H = stepS cf o fr H := by
  unfold stepK stepS
  rw [wantedK_eq, execK_eq]
  congr 1
  funext w
  cases w with
  | true =>
    simp only [if_true]
    congr 1
    funext r
    cases r with
    | call f args =>
      simp only [endOp]
      congr 1
      funext r
      obtain ⟨q, H'⟩ := r
      cases q <;> simp only [endCall, putOK_eq]
    | val v H' =>
      simp only [endOp, endVal, fV_eq, putOK_eq, fH_eq]
      cases asLay o.op <;> cases leavesH o.op <;> rfl
    | _ => simp only [endOp, putOK_eq, fH_eq]
  | false => simp [putOK_eq]
def runK (cf : CallF) : List SO → Fr → AHeap → Option (Ex × Fr × AHeap)
  | [], fr, H => some (.normal, fr, H)
  | o :: rest, fr, H => (stepK cf o fr H).bind fun r => match r with
      | (none, fr', H') => runK cf rest fr' H'
      | (some v, fr', H') => some (.pan v, fr', H')
theorem runK_eq (cf : CallF) : ∀ (l : List SO) (fr : Fr) (H : AHeap), runK cf l fr H = runS cf l fr H
  | [], fr, H => rfl
  | o :: rest, fr, H => by
    simp only [runK, runS, stepK_eq]
    congr 1
    funext r
    obtain ⟨a, fr', H'⟩ := r
    cases a
    · exact runK_eq cf rest fr' H'
    · rfl
def finK (fz kl : List Nat) (fr : Fr) (H : AHeap) (c : Fr → AHeap → Option (Ex × St)) : Option (Ex × St) :=
  match fz with
  | [] => fFr (fr.drop kl) fun fr => c fr H
  | fz => c (finishS fz kl fr H).1 (finishS fz kl fr H).2
theorem finK_eq (fz kl : List Nat) (fr : Fr) (H : AHeap) (c : Fr → AHeap → Option (Ex × St)) : finK fz kl fr H c = c (finishS fz kl fr H).1 (finishS fz kl fr H).2 := by
  cases fz <;> simp [finK, fFr_eq, finishS, freezeFr]
/-- A draw: where nothing is to be looked at again, the run is enough. -/
def drawK (cf : CallF) : List SO → Fr → AHeap → Option (Fr × AHeap)
  | [], fr, H => some (fr, H)
  | o :: rest, fr, H => (stepK cf o fr H).bind fun r => match r with
      | (none, fr', H') => drawK cf rest fr' H'
      | (some _, _, _) => none
theorem stepS_SV (cf : CallF) (o : SO) (fr : Fr) (H : AHeap) : stepSV cf o fr H = (stepS cf o fr H).bind fun r => match r with
    | (none, fr', H') => (stepSV cf o fr H)
    | (some _, _, _) => none := by
  unfold stepS stepSV
  cases hw : wantedS fr o.g with
  | none => rfl
  | some w =>
    simp only [Option.bind_some]
    split
    · cases hr : execS fr H o.op with
      | none => rfl
      | some r =>
        simp only [Option.bind_some]
        cases r with
        | call f args =>
          simp only
          cases hc : cf f args H with
          | none => rfl
          | some q =>
            obtain ⟨q1, q2⟩ := q
            cases q1 <;> rfl
        | _ => rfl
    · rfl
theorem stepSV_some {cf : CallF} {o : SO} {fr fr' : Fr} {H H' : AHeap} (h : stepS cf o fr H = some (none, fr', H')) : ∃ v, stepSV cf o fr H = some (v, H') ∧ fr' = fr.putO o.dst v := by
  unfold stepS at h
  unfold stepSV
  simp only [Option.bind_eq_some_iff] at h
  obtain ⟨w, hw, h⟩ := h
  simp only [hw, Option.bind_some]
  split at h
  · rename_i hwt
    rw [if_pos hwt]
    simp only [Option.bind_eq_some_iff] at h
    obtain ⟨r, hr, h⟩ := h
    simp only [hr, Option.bind_some]
    cases r with
    | val v H1 => cases h; exact ⟨v, rfl, rfl⟩
    | skip H1 => cases h; exact ⟨_, rfl, rfl⟩
    | call f args =>
      simp only [Option.bind_eq_some_iff] at h
      obtain ⟨q, hq, h⟩ := h
      simp only [hq, Option.bind_some]
      obtain ⟨q1, q2⟩ := q
      cases q1 with
      | ret v => cases h; exact ⟨v, rfl, rfl⟩
      | pan v => cases h
    | pan v => cases h
    | dfr f args => cases h
  · rename_i hwt
    rw [if_neg hwt]
    cases h
    exact ⟨_, rfl, rfl⟩
theorem drawK_ok (cf : CallF) : ∀ {l : List SO} {fr : Fr} {H : AHeap} {r : Fr × AHeap}, drawK cf l fr H = some r → ∃ recs, drawS cf l fr H = some (recs, r)
  | [], fr, H, r, h => by
    simp only [drawK, Option.some.injEq] at h
    subst h
    exact ⟨[], rfl⟩
  | o :: rest, fr, H, r, h => by
    simp only [drawK, stepK_eq, Option.bind_eq_some_iff] at h
    obtain ⟨⟨a, fr', H'⟩, h1, h⟩ := h
    cases a with
    | none =>
      obtain ⟨v, h2, rfl⟩ := stepSV_some h1
      obtain ⟨recs, h3⟩ := drawK_ok cf h
      refine ⟨⟨fr, v, H'⟩ :: recs, ?_⟩
      simp only [drawS, h2, Option.bind_some, h3, Option.map_some]
    | some v => cases h
def iterK (body : St → Option (Ex × St)) : Nat → St → Option (Ex × St)
  | 0, _ => none
  | n + 1, s => (body s).bind fun r => match r with
      | (.normal, s') => iterK body n s'
      | (e, s') => some (e, s')
theorem iterK_ok {b b' : St → Option (Ex × St)} (hb : ∀ s r, b s = some r → b' s = some r) : ∀ {n : Nat} {s : St} {r : Ex × St}, iterK b n s = some r → iter b' n s = some r
  | 0, s, r, k => by simp [iterK] at k
  | n + 1, s, r, k => by
    simp only [iterK, iter, Option.bind_eq_some_iff] at k ⊢
    obtain ⟨⟨e, s'⟩, hq, k⟩ := k
    refine ⟨_, hb _ _ hq, ?_⟩
    cases e with
    | normal => exact iterK_ok hb k
    | _ => exact k
abbrev CK := Option (Ex × St)
def kReg2 (fz kl : List Nat) (df : List DI) (r : Ex × Fr × AHeap) : CK :=
  match r with
  | (.normal, fr, H) => finK fz kl fr H fun fr H => some (.normal, ⟨fr, H, df⟩)
  | (e, fr, H) => some (e, ⟨fr, H, df⟩)
def kReg (cf : CallF) (ops : List SO) (fz kl : List Nat) (s : St) : CK :=
  match s with
  | ⟨fr, H, df⟩ => (runK cf ops fr H).bind (kReg2 fz kl df)
def kDraw0 (cf : CallF) (ops : List SO) (fz kl : List Nat) (s : St) : CK :=
  match s with
  | ⟨fr, H, df⟩ => (drawK cf ops fr H).bind fun r => match r with
      | (fr, H) => finK fz kl fr H fun fr H => some (.normal, ⟨fr, H, df⟩)
def kDraw1 (cf : CallF) (ops : List SO) (chk : List (Nat × Nat)) (fz kl : List Nat) (s : St) : CK :=
  match s with
  | ⟨fr, H, df⟩ => (drawS cf ops fr H).bind fun q => match q with
      | (recs, fr', H') => if lookS cf ops recs H chk = true then finK fz kl fr' H' fun fr H => some (.normal, ⟨fr, H, df⟩) else none
def kDraw (cf : CallF) (ops : List SO) (chk : List (Nat × Nat)) (fz kl : List Nat) (s : St) : CK :=
  match chk with
  | [] => kDraw0 cf ops fz kl s
  | chk => kDraw1 cf ops chk fz kl s
def kThen (b : St → CK) (r : Ex × St) : CK :=
  match r with
  | (.normal, s) => b s
  | (e, s) => some (e, s)
def kCond (c : SX) (x y : St → CK) (s : St) : CK :=
  match s with
  | ⟨fr, H, df⟩ => (evXK fr c).bind fun v => match v with
      | .bool true => x ⟨fr, H, df⟩
      | .bool false => y ⟨fr, H, df⟩
      | _ => none
def kBlock (id : Nat) (r : Ex × St) : CK :=
  match r with
  | (.exit id', s) => (match Nat.beq id' id with
    | true => some (.normal, s)
    | false => some (.exit id', s))
  | (e, s) => some (e, s)
def kRange2 (id id1 : Nat) (fr : Fr) (df : List DI) (r : FR × AHeap) : CK :=
  match r with
  | (.ret _, H) => match H.get id1 with
      | some (.loop st pend _ _ _ _ _ _) => match st with
        | .busy => none
        | _ => (jumpEx pend).bind fun e => fH [] (H.free id1) fun H => some (e, ⟨fr, H, .mark id :: df⟩)
      | _ => none
  | (.pan _, _) => none
def kRange (cf : CallF) (f nt : Nat) (g : SX) (ps : List Nat) (asg body : SC) (s : St) : CK :=
  (evXK s.fr g).bind fun fv => match fv with
    | .fn gf caps =>
      match s with
      | ⟨fr, ⟨id, l⟩, df⟩ =>
        fN id fun id => fN (id + 1) fun id1 => fN (id + 2) fun id2 => fL (l ++ [(id, .dfr), (id1, .loop .ready none f nt fr ps asg body)]) fun l =>
        (cf (.fn gf caps) [.yld id1] ⟨id2, l⟩).bind (kRange2 id id1 fr df)
    | _ => none
def evalK (cf : CallF) (k : Nat) (f nt : Nat) (rd : Bool) : SC → St → CK
  | .skip => fun s => some (.normal, s)
  | .reg ops fz kl => kReg cf ops fz kl
  | .draw ops chk fz kl => kDraw cf ops chk fz kl
  | .seq a b => fun s => (evalK cf k f nt rd a s).bind (kThen (evalK cf k f nt rd b))
  | .cond c x y => kCond c (evalK cf k f nt rd x) (evalK cf k f nt rd y)
  | .block id c => fun s => (evalK cf k f nt rd c s).bind (kBlock id)
  | .loop c => iterK (evalK cf k f nt rd c) k
  | .range g ps asg body => fun s => match rd with
    | true => none
    | false => kRange cf f nt g ps asg body s
  | .exit id => fun s => some (.exit id, s)
  | .ret => fun s => some (.ret, s)
end Go.AM
set_option linter.unusedVariables false
set_option linter.unusedSimpArgs false
namespace Go.AM
open Go

abbrev CallB := AV → List AV → AHeap → (FR → AHeap → Bool) → Bool
abbrev KN := Fr → AHeap → Bool
abbrev KO := CallB → Fr → AHeap → KN → Bool
/-- What a run that says true has shown. -/
def CB (cb : CallB) (cf : CallF) : Prop := ∀ f args H k, cb f args H k = true → ∃ r, cf f args H = some r ∧ k r.1 r.2 = true

def getL (n : Nat) : Fr → (AV → Bool) → Bool
  | [], _ => false
  | (i, v) :: r, k => match Nat.beq n i with
    | true => k v
    | false => getL n r k
def getB (x : SX) (fr : Fr) (k : AV → Bool) : Bool :=
  match x with
  | .c v => k v
  | .t n => getL n fr k
def getBs (fr : Fr) : List SX → (List AV → Bool) → Bool
  | [], k => k []
  | x :: xs, k => getB x fr fun v => getBs fr xs fun vs => k (v :: vs)
theorem getL_ok {n : Nat} {k : AV → Bool} : ∀ {fr : Fr}, getL n fr k = true → ∃ v, fr.get n = some v ∧ k v = true
  | [], h => by cases h
  | (i, v) :: r, h => by
    rw [getL, nbeq] at h
    by_cases e : n = i
    · subst e
      simp only [decide_true] at h
      exact ⟨v, by simp [Fr.get], h⟩
    · simp only [decide_eq_false e] at h
      obtain ⟨u, h1, h2⟩ := getL_ok h
      exact ⟨u, by rw [Fr.get, if_neg e]; exact h1, h2⟩
theorem getB_ok {x : SX} {fr : Fr} {k : AV → Bool} (h : getB x fr k = true) : ∃ v, evX fr x = some v ∧ k v = true := by
  cases x with
  | c v => exact ⟨v, rfl, h⟩
  | t n => exact getL_ok h
theorem getBs_ok {fr : Fr} : ∀ {xs : List SX} {k : List AV → Bool}, getBs fr xs k = true → ∃ vs, evXs fr xs = some vs ∧ k vs = true
  | [], k, h => ⟨[], rfl, h⟩
  | x :: xs, k, h => by
    obtain ⟨v, h1, h2⟩ := getB_ok h
    obtain ⟨vs, h3, h4⟩ := getBs_ok h2
    exact ⟨v :: vs, by simp [evXs, h1, h3], h4⟩
def optB {α : Type} (x : Option α) (k : α → Bool) : Bool :=
  match x with
  | some v => k v
  | none => false
theorem optB_ok {α : Type} {x : Option α} {k : α → Bool} (h : optB x k = true) : ∃ v, x = some v ∧ k v = true := by
  cases x with
  | none => cases h
  | some v => exact ⟨v, rfl, h⟩

/-! ### Operations -/
def kMv (x : SX) (d : Option Nat) : KO := fun cf fr H kn => getB x fr fun v => putOK d v fr fun fr => kn fr H
def kLd1 (n : Nat) (a : SX) (d : Option Nat) : KO := fun cf fr H kn => getB a fr fun a => optB (rowAt H a) fun r => optB (r.1[r.2]?) fun v => putOK d v fr fun fr => kn fr H
def kLdN (n : Nat) (a : SX) (d : Option Nat) : KO := fun cf fr H kn => getB a fr fun a => optB (rowAt H a) fun r => optB (cut true n r.2 r.1) fun v => fV v fun v => putOK d v fr fun fr => kn fr H
def kBin (isC gd : Bool) (q : Option EqT) (op : BinOp) (x y : SX) (d : Option Nat) : KO := fun cf fr H kn => getB x fr fun u => getB y fr fun v => optB (binK isC gd q op u v) fun v => fV v fun v => putOK d v fr fun fr => kn fr H
def kUn (op : UnOp) (x : SX) (d : Option Nat) : KO := fun cf fr H kn => getB x fr fun u => optB (aun op u) fun v => fV v fun v => putOK d v fr fun fr => kn fr H
def kFad (off : Nat) (x : SX) (d : Option Nat) : KO := fun cf fr H kn => getB x fr fun u => optB (afieldAddrS off u) fun v => fV v fun v => putOK d v fr fun fr => kn fr H
def kIad (n : Nat) (x y : SX) (d : Option Nat) : KO := fun cf fr H kn => getB x fr fun u => getB y fr fun i => optB (aindexAddrS H n u i) fun v => fV v fun v => putOK d v fr fun fr => kn fr H
def kIxs (x y : SX) (d : Option Nat) : KO := fun cf fr H kn => getB x fr fun u => getB y fr fun i => optB (aindexStr u i) fun v => fV v fun v => putOK d v fr fun fr => kn fr H
def kLenl (x : SX) (d : Option Nat) : KO := fun cf fr H kn => getB x fr fun u => optB (alenSl u) fun v => fV v fun v => putOK d v fr fun fr => kn fr H
def kLens (x : SX) (d : Option Nat) : KO := fun cf fr H kn => getB x fr fun u => optB (alenStr u) fun v => fV v fun v => putOK d v fr fun fr => kn fr H
def kPick (c a b : SX) (d : Option Nat) : KO := fun cf fr H kn => getB c fr fun c => match c with
  | .bool true => getB a fr fun v => putOK d v fr fun fr => kn fr H
  | .bool false => getB b fr fun v => putOK d v fr fun fr => kn fr H
  | _ => false
def kSt (n : Nat) (a x : SX) (d : Option Nat) : KO := fun cf fr H kn => getB a fr fun u => getB x fr fun v => optB (astoreS H n u v) fun H' => putOK d (.tup []) fr fun fr' => fH (match u with | .ptr id _ _ => [id] | _ => []) H' fun H' => kn fr' H'
def kCall (f : SX) (args : List SX) (d : Option Nat) : KO := fun cf fr H kn => getBs fr args fun as => getB f fr fun fv => match fv with
  | .fn g caps => cf (.fn g caps) as H fun r H' => (match r with
    | .ret v => putOK d v fr fun fr => kn fr H'
    | .pan _ => false)
  | .yld l => cf (.yld l) as H fun r H' => (match r with
    | .ret v => putOK d v fr fun fr => kn fr H'
    | .pan _ => false)
  | _ => false
/-- Any other operation. -/
def kX (o : SOp) (d : Option Nat) : KO := fun cf fr H kn => optB (execS fr H o) fun r => match r with
  | .val v H' => fV v fun v => putOK d v fr fun fr' => fH (chgIds fr H o) H' fun H' => kn fr' H'
  | .skip H' => putOK d (.tup []) fr fun fr' => fH (chgIds fr H o) H' fun H' => kn fr' H'
  | _ => false
/-- .. that leaves the heap. -/
def kXv (o : SOp) (d : Option Nat) : KO := fun cf fr H kn => optB (execS fr H o) fun r => match r with
  | .val v H' => fV v fun v => putOK d v fr fun fr' => kn fr' H'
  | _ => false
def kG (n : Nat) (want : Bool) (d : Option Nat) (o : KO) : KO := fun cf fr H kn => getL n fr fun v => match v with
  | .bool b => (match b, want with
    | true, true => o cf fr H kn
    | false, false => o cf fr H kn
    | _, _ => putOK d (.tup []) fr fun fr => kn fr H)
  | .tup _ => putOK d (.tup []) fr fun fr => kn fr H
  | _ => false
def kNo (d : Option Nat) : KO := fun cf fr H kn => putOK d (.tup []) fr fun fr => kn fr H
def compOp (o : SOp) (d : Option Nat) : KO :=
  match o with
  | .mv x => kMv x d
  | .ld false n a => kLd1 n a d
  | .ld true n a => kLdN n a d
  | .bin op isC gd q x y => kBin isC gd q op x y d
  | .un op x => kUn op x d
  | .fad off x => kFad off x d
  | .iad n x y => kIad n x y d
  | .ixs x y => kIxs x y d
  | .lenl x => kLenl x d
  | .lens x => kLens x d
  | .pick c a b => kPick c a b d
  | .st n a x => kSt n a x d
  | .call f args => kCall f args d
  | .new r => kX (.new r) d
  | .box false x => kX (.box false x) d
  | .bsl false n z len ps => kX (.bsl false n z len ps) d
  | .mks n b z l c => kX (.mks n b z l c) d
  | .app n b s x => kX (.app n b s x) d
  | .cpy n d' s => kX (.cpy n d' s) d
  | o => kXv o d
def compO (o : SO) : KO :=
  match o.g with
  | none => compOp o.op o.dst
  | some (none, _) => kNo o.dst
  | some (some n, want) => kG n want o.dst (compOp o.op o.dst)
def SoundO (ko : KO) (so : SO) : Prop := ∀ (cb : CallB) (cf : CallF), CB cb cf → ∀ fr H kn, ko cb fr H kn = true → ∃ fr' H', stepS cf so fr H = some (none, fr', H') ∧ kn fr' H' = true
/-- One operation that is wanted. -/
theorem compOp_ok (o : SOp) (d : Option Nat) {cb : CallB} {cf : CallF} (hc : CB cb cf) {fr : Fr} {H : AHeap} {kn : KN} (h : compOp o d cb fr H kn = true) :
    ∃ fr' H', (((execS fr H o).bind fun r => match r with
        | .val v H' => some ((none : Option AV), fr.putO d v, H')
        | .skip H' => some (none, fr.putO d (.tup []), H')
        | .call f args => (cf f args H).bind fun r => match r.1 with
            | .ret v => some (none, fr.putO d v, r.2)
            | .pan v => some (some v, fr, r.2)
        | .pan v => some (some v, fr, H)
        | .dfr _ _ => none) = some (none, fr', H')) ∧ kn fr' H' = true := by
  have gx : ∀ o, kX o d cb fr H kn = true → ∃ fr' H', (((execS fr H o).bind fun r => match r with
        | .val v H' => some ((none : Option AV), fr.putO d v, H')
        | .skip H' => some (none, fr.putO d (.tup []), H')
        | .call f args => (cf f args H).bind fun r => match r.1 with
            | .ret v => some (none, fr.putO d v, r.2)
            | .pan v => some (some v, fr, r.2)
        | .pan v => some (some v, fr, H)
        | .dfr _ _ => none) = some (none, fr', H')) ∧ kn fr' H' = true := by
    intro o h
    obtain ⟨r, h1, h2⟩ := optB_ok h
    rw [h1]
    cases r <;> simp only [fV_eq, putOK_eq, fH_eq, Bool.false_eq_true] at h2
    · exact ⟨_, _, rfl, h2⟩
    · exact ⟨_, _, rfl, h2⟩
  have gv : ∀ o, kXv o d cb fr H kn = true → (∀ v H', execS fr H o = some (.val v H') → H' = H) ∨ True → ∃ fr' H', (((execS fr H o).bind fun r => match r with
        | .val v H' => some ((none : Option AV), fr.putO d v, H')
        | .skip H' => some (none, fr.putO d (.tup []), H')
        | .call f args => (cf f args H).bind fun r => match r.1 with
            | .ret v => some (none, fr.putO d v, r.2)
            | .pan v => some (some v, fr, r.2)
        | .pan v => some (some v, fr, H)
        | .dfr _ _ => none) = some (none, fr', H')) ∧ kn fr' H' = true := by
    intro o h _
    obtain ⟨r, h1, h2⟩ := optB_ok h
    rw [h1]
    cases r <;> simp only [fV_eq, putOK_eq, Bool.false_eq_true] at h2
    exact ⟨_, _, rfl, h2⟩
  cases o
  case mv x =>
    obtain ⟨v, h1, h2⟩ := getB_ok h
    simp only [putOK_eq] at h2
    exact ⟨_, _, by simp [execS, h1, ofVal], h2⟩
  case ld g n a =>
    cases g with
    | false =>
      obtain ⟨u, h1, h2⟩ := getB_ok h
      obtain ⟨r, h3, h4⟩ := optB_ok h2
      obtain ⟨v, h5, h6⟩ := optB_ok h4
      simp only [putOK_eq] at h6
      exact ⟨_, _, by simp [execS, h1, ofVal, h3, cut, h5], h6⟩
    | true =>
      obtain ⟨u, h1, h2⟩ := getB_ok h
      obtain ⟨r, h3, h4⟩ := optB_ok h2
      obtain ⟨v, h5, h6⟩ := optB_ok h4
      simp only [fV_eq, putOK_eq] at h6
      exact ⟨_, _, by simp [execS, h1, ofVal, h3, h5], h6⟩
  case bin op isC gd q x y =>
    obtain ⟨u, h1, h2⟩ := getB_ok h
    obtain ⟨v, h3, h4⟩ := getB_ok h2
    obtain ⟨z, h5, h6⟩ := optB_ok h4
    simp only [fV_eq, putOK_eq] at h6
    rw [binK_eq] at h5
    exact ⟨_, _, by simp [execS, h1, h3, ofVal, h5], h6⟩
  case un op x =>
    obtain ⟨u, h1, h2⟩ := getB_ok h
    obtain ⟨z, h5, h6⟩ := optB_ok h2
    simp only [fV_eq, putOK_eq] at h6
    exact ⟨_, _, by simp [execS, h1, ofVal, h5], h6⟩
  case fad off x =>
    obtain ⟨u, h1, h2⟩ := getB_ok h
    obtain ⟨z, h5, h6⟩ := optB_ok h2
    simp only [fV_eq, putOK_eq] at h6
    exact ⟨_, _, by simp [execS, h1, ofVal, h5], h6⟩
  case iad n x y =>
    obtain ⟨u, h1, h2⟩ := getB_ok h
    obtain ⟨v, h3, h4⟩ := getB_ok h2
    obtain ⟨z, h5, h6⟩ := optB_ok h4
    simp only [fV_eq, putOK_eq] at h6
    exact ⟨_, _, by simp [execS, h1, h3, ofVal, h5], h6⟩
  case ixs x y =>
    obtain ⟨u, h1, h2⟩ := getB_ok h
    obtain ⟨v, h3, h4⟩ := getB_ok h2
    obtain ⟨z, h5, h6⟩ := optB_ok h4
    simp only [fV_eq, putOK_eq] at h6
    exact ⟨_, _, by simp [execS, h1, h3, ofVal, h5], h6⟩
  case lenl x =>
    obtain ⟨u, h1, h2⟩ := getB_ok h
    obtain ⟨z, h5, h6⟩ := optB_ok h2
    simp only [fV_eq, putOK_eq] at h6
    exact ⟨_, _, by simp [execS, h1, ofVal, h5], h6⟩
  case lens x =>
    obtain ⟨u, h1, h2⟩ := getB_ok h
    obtain ⟨z, h5, h6⟩ := optB_ok h2
    simp only [fV_eq, putOK_eq] at h6
    exact ⟨_, _, by simp [execS, h1, ofVal, h5], h6⟩
  case pick c a b =>
    obtain ⟨u, h1, h2⟩ := getB_ok h
    cases u with
    | bool t =>
      cases t with
      | true =>
        obtain ⟨v, h3, h4⟩ := getB_ok h2
        simp only [putOK_eq] at h4
        exact ⟨_, _, by simp [execS, h1, pickS, h3, ofVal], h4⟩
      | false =>
        obtain ⟨v, h3, h4⟩ := getB_ok h2
        simp only [putOK_eq] at h4
        exact ⟨_, _, by simp [execS, h1, pickS, h3, ofVal], h4⟩
    | _ => cases h2
  case st n a x =>
    obtain ⟨u, h1, h2⟩ := getB_ok h
    obtain ⟨v, h3, h4⟩ := getB_ok h2
    obtain ⟨H', h5, h6⟩ := optB_ok h4
    simp only [putOK_eq, fH_eq] at h6
    exact ⟨_, _, by simp [execS, h1, h3, h5], h6⟩
  case call f args =>
    obtain ⟨as, h1, h2⟩ := getBs_ok h
    obtain ⟨fv, h3, h4⟩ := getB_ok h2
    cases fv with
    | fn g caps =>
      obtain ⟨⟨r, H'⟩, h5, h6⟩ := hc _ _ _ _ h4
      cases r with
      | ret v =>
        simp only [putOK_eq] at h6
        exact ⟨_, _, by simp [execS, h1, h3, callS, h5], h6⟩
      | pan v => cases h6
    | yld l =>
      obtain ⟨⟨r, H'⟩, h5, h6⟩ := hc _ _ _ _ h4
      cases r with
      | ret v =>
        simp only [putOK_eq] at h6
        exact ⟨_, _, by simp [execS, h1, h3, callS, h5], h6⟩
      | pan v => cases h6
    | _ => cases h4
  case box imm x => cases imm <;> first | exact gx _ h | exact gv _ h (.inr trivial)
  case bsl imm n z len ps => cases imm <;> first | exact gx _ h | exact gv _ h (.inr trivial)
  all_goals first | exact gx _ h | exact gv _ h (.inr trivial)
theorem compO_ok (o : SO) : SoundO (compO o) o := by
  intro cb cf hc fr H kn h
  obtain ⟨d, op, g⟩ := o
  unfold stepS
  cases g with
  | none =>
    simp only [wantedS, Option.bind_some, if_true]
    exact compOp_ok op d hc h
  | some p =>
    obtain ⟨n, want⟩ := p
    cases n with
    | none =>
      simp only [compO, kNo, putOK_eq] at h
      simp only [wantedS, Option.bind_some]
      exact ⟨_, _, rfl, h⟩
    | some n =>
      obtain ⟨v, h1, h2⟩ := getL_ok h
      simp only [wantedS, h1]
      cases v with
      | bool b =>
        cases b <;> cases want <;> simp only [putOK_eq] at h2
        · exact compOp_ok op d hc h2
        · exact ⟨_, _, rfl, h2⟩
        · exact ⟨_, _, rfl, h2⟩
        · exact compOp_ok op d hc h2
      | tup xs =>
        simp only [putOK_eq] at h2
        exact ⟨_, _, rfl, h2⟩
      | _ => cases h2
end Go.AM
set_option linter.unusedVariables false
set_option linter.unusedSimpArgs false
namespace Go.AM
open Go

abbrev KNN := Fr → AHeap → List DI → Bool
abbrev KE := Ex → Fr → AHeap → List DI → Bool
abbrev KC := CallB → Nat → Fr → AHeap → List DI → KNN → KE → Bool
def kOps : List KO → CallB → Fr → AHeap → KN → Bool
  | [], cb, fr, H, k => k fr H
  | o :: os, cb, fr, H, k => o cb fr H fun fr H => kOps os cb fr H k
theorem kOps_ok {cb : CallB} {cf : CallF} (hc : CB cb cf) : ∀ {l : List SO} {fr : Fr} {H : AHeap} {k : KN}, kOps (l.map compO) cb fr H k = true → ∃ fr' H', runS cf l fr H = some (.normal, fr', H') ∧ k fr' H' = true
  | [], fr, H, k, h => ⟨fr, H, rfl, h⟩
  | o :: l, fr, H, k, h => by
    obtain ⟨fr1, H1, h1, h2⟩ := compO_ok o cb cf hc _ _ _ h
    obtain ⟨fr2, H2, h3, h4⟩ := kOps_ok hc h2
    exact ⟨fr2, H2, by simp [runS, h1, h3], h4⟩
theorem runS_drawS {cf : CallF} : ∀ {l : List SO} {fr fr' : Fr} {H H' : AHeap}, runS cf l fr H = some (.normal, fr', H') → ∃ recs, drawS cf l fr H = some (recs, fr', H')
  | [], fr, fr', H, H', h => by
    simp only [runS, Option.some.injEq, Prod.mk.injEq] at h
    obtain ⟨_, rfl, rfl⟩ := h
    exact ⟨[], rfl⟩
  | o :: rest, fr, fr', H, H', h => by
    simp only [runS, Option.bind_eq_some_iff] at h
    obtain ⟨⟨a, fr1, H1⟩, h1, h⟩ := h
    cases a with
    | none =>
      obtain ⟨v, h2, rfl⟩ := stepSV_some h1
      obtain ⟨recs, h3⟩ := runS_drawS h
      exact ⟨⟨fr, v, H1⟩ :: recs, by simp only [drawS, h2, Option.bind_some, h3, Option.map_some]⟩
    | some v => simp at h
/-! Draws with looks -/
structure KRec where
  pre : Fr
  val : Option AV
  post : AHeap
def valOf (d : Option Nat) (fr : Fr) : Option AV :=
  match d with
  | some d => fr.get d
  | none => none
def kDrawR : List KO → List SO → CallB → Fr → AHeap → (List KRec → Fr → AHeap → Bool) → Bool
  | [], [], cb, fr, H, k => k [] fr H
  | o :: os, so :: sos, cb, fr, H, k => o cb fr H fun fr' H' => kDrawR os sos cb fr' H' fun recs fr2 H2 => k (⟨fr, valOf so.dst fr', H'⟩ :: recs) fr2 H2
  | _, _, _, _, _, _ => false
def KRec.fits (a : KRec) (b : SRec) : Prop := a.pre = b.pre ∧ a.post = b.post ∧ ∀ v, a.val = some v → v = b.val
inductive Fits : List KRec → List SRec → Prop
  | nil : Fits [] []
  | cons {a b as bs} : a.fits b → Fits as bs → Fits (a :: as) (b :: bs)
theorem Fits.get {as : List KRec} {bs : List SRec} (h : Fits as bs) : ∀ {i : Nat} {a : KRec}, as[i]? = some a → ∃ b, bs[i]? = some b ∧ a.fits b := by
  induction h with
  | nil => intro i a h; simp at h
  | cons h1 h2 ih =>
    intro i a h
    cases i with
    | zero => cases h; exact ⟨_, rfl, h1⟩
    | succ i => exact ih (by simpa using h)
theorem kDrawR_ok {cb : CallB} {cf : CallF} (hc : CB cb cf) : ∀ {l : List SO} {fr : Fr} {H : AHeap} {k : List KRec → Fr → AHeap → Bool}, kDrawR (l.map compO) l cb fr H k = true →
    ∃ krecs recs fr' H', drawS cf l fr H = some (recs, fr', H') ∧ Fits krecs recs ∧ k krecs fr' H' = true
  | [], fr, H, k, h => ⟨[], [], fr, H, rfl, .nil, h⟩
  | o :: l, fr, H, k, h => by
    obtain ⟨fr1, H1, h1, h2⟩ := compO_ok o cb cf hc _ _ _ h
    obtain ⟨v, h3, rfl⟩ := stepSV_some h1
    obtain ⟨krecs, recs, fr2, H2, h4, h5, h6⟩ := kDrawR_ok hc h2
    refine ⟨_, ⟨fr, v, H1⟩ :: recs, fr2, H2, by simp only [drawS, h3, Option.bind_some, h4, Option.map_some], .cons ⟨rfl, rfl, fun u hu => ?_⟩ h5, h6⟩
    cases hd : o.dst with
    | none => simp [valOf, hd] at hu
    | some d =>
      rw [hd] at hu
      simp only [valOf, Fr.putO] at hu
      have : (fr.put d v).get d = some v := by rw [Fr.get_put, if_pos rfl]
      rw [this] at hu
      exact (Option.some.inj hu).symm
def heapK (recs : List KRec) (H : AHeap) : Nat → Option AHeap
  | 0 => some H
  | e + 1 => (recs[e]?).map (·.post)
def noCall : CallF := fun _ _ _ => none
def beqK (x y : AV) : Bool :=
  match x with
  | .int k n => (match y with
    | .int k' n' => (match kEq k k' with
      | true => iEq n n'
      | false => false)
    | _ => false)
  | x => AV.beq x y
def lookK (ops : List SO) (recs : List KRec) (H : AHeap) : List (Nat × Nat) → Bool
  | [] => true
  | (p, e) :: r => optB (recs[p]?) fun d => optB (ops[p]?) fun o => optB (heapK recs H e) fun He => optB (stepSV noCall o d.pre He) fun q => optB d.val fun v => match beqK q.1 v with
    | true => lookK ops recs H r
    | false => false
theorem beqK_eq {x y : AV} (h : beqK x y = true) : AV.beq x y = true := by
  unfold beqK at h
  split at h
  · rename_i k n
    split at h
    · rename_i k' n'
      rw [kEq_eq, iEq_eq] at h
      split at h
      · rename_i h1
        simp only [decide_eq_true_eq] at h h1
        simp [AV.beq, h, h1]
      · cases h
    · cases h
  · exact h
theorem heapK_ok {ks : List KRec} {rs : List SRec} (h : Fits ks rs) {H He : AHeap} {e : Nat} (k : heapK ks H e = some He) : heapBehindS rs H e = some He := by
  cases e with
  | zero => exact k
  | succ e =>
    simp only [heapK, Option.map_eq_some_iff] at k
    obtain ⟨a, h1, rfl⟩ := k
    obtain ⟨b, h2, h3⟩ := h.get h1
    simp [heapBehindS, h2, h3.2.1]
theorem lookK_ok {cf : CallF} {ops : List SO} {ks : List KRec} {rs : List SRec} (h : Fits ks rs) {H : AHeap} : ∀ {l : List (Nat × Nat)}, lookK ops ks H l = true → lookS cf ops rs H l = true
  | [], k => rfl
  | (p, e) :: l, k => by
    obtain ⟨d, h1, k⟩ := optB_ok k
    obtain ⟨o, h2, k⟩ := optB_ok k
    obtain ⟨He, h3, k⟩ := optB_ok k
    obtain ⟨q, h4, k⟩ := optB_ok k
    obtain ⟨v, h5, k⟩ := optB_ok k
    split at k
    · rename_i h6
      obtain ⟨b, h7, h8, h9, h10⟩ := h.get h1
      have hv := h10 v h5
      simp only [lookS, h7, h2, heapK_ok h h3]
      rw [← h8]
      have h11 : stepSV cf o d.pre He = some q := stepSV_mono (cf := noCall) (fun f args H r h => by cases h) h4
      rw [h11]
      simp only [Bool.and_eq_true]
      exact ⟨hv ▸ beqK_eq h6, lookK_ok h k⟩
    · cases k

/-! ### Code -/
def bReg (ops : List KO) (kl : List Nat) : KC := fun cb n fr H df kn ke => kOps ops cb fr H fun fr H => fFr (fr.drop kl) fun fr => kn fr H df
def bRegF (ops : List KO) (fz kl : List Nat) : KC := fun cb n fr H df kn ke => kOps ops cb fr H fun fr H => kn (finishS fz kl fr H).1 (finishS fz kl fr H).2 df
def bDraw (ops : List KO) (sos : List SO) (chk : List (Nat × Nat)) (fz kl : List Nat) : KC := fun cb n fr H df kn ke => kDrawR ops sos cb fr H fun recs fr' H' => match lookK sos recs H chk with
  | true => kn (finishS fz kl fr' H').1 (finishS fz kl fr' H').2 df
  | false => false
def bSeq (a b : KC) : KC := fun cb n fr H df kn ke => a cb n fr H df (fun fr H df => b cb n fr H df kn ke) ke
def bIf (c : SX) (a b : KC) : KC := fun cb n fr H df kn ke => getB c fr fun v => match v with
  | .bool true => a cb n fr H df kn ke
  | .bool false => b cb n fr H df kn ke
  | _ => false
def bBlk (id : Nat) (a : KC) : KC := fun cb n fr H df kn ke => a cb n fr H df kn fun e fr H df => match e with
  | .exit id' => (match Nat.beq id' id with
    | true => kn fr H df
    | false => ke (.exit id') fr H df)
  | e => ke e fr H df
def loopB (a : KC) (cb : CallB) (n : Nat) (ke : KE) : Nat → Fr → AHeap → List DI → Bool
  | 0, _, _, _ => false
  | m + 1, fr, H, df => a cb n fr H df (fun fr H df => loopB a cb n ke m fr H df) ke
def bLoop (a : KC) : KC := fun cb n fr H df kn ke => loopB a cb n ke n fr H df
def bSkip : KC := fun cb n fr H df kn ke => kn fr H df
def bExit (id : Nat) : KC := fun cb n fr H df kn ke => ke (.exit id) fr H df
def bRet : KC := fun cb n fr H df kn ke => ke .ret fr H df
def bRange (f nt : Nat) (rd : Bool) (g : SX) (ps : List Nat) (asg body : SC) : KC := fun cb n fr H df kn ke => match rd with
  | true => false
  | false => getB g fr fun fv => match fv with
    | .fn gf caps => (match H with
      | ⟨id, l⟩ => fN id fun id => fN (id + 1) fun id1 => fN (id + 2) fun id2 => fL (l ++ [(id, .dfr), (id1, .loop .ready none f nt fr ps asg body)]) fun l =>
        cb (.fn gf caps) [.yld id1] ⟨id2, l⟩ fun r H => match r with
          | .ret _ => optB (H.get id1) fun blk => (match blk with
            | .loop st pend _ _ _ _ _ _ => (match st with
              | .busy => false
              | _ => optB (jumpEx pend) fun e => fH [] (H.free id1) fun H => (match e with
                | .normal => kn fr H (.mark id :: df)
                | e => ke e fr H (.mark id :: df)))
            | _ => false)
          | .pan _ => false)
    | _ => false
def compC (f nt : Nat) (rd : Bool) : SC → KC
  | .skip => bSkip
  | .reg ops [] kl => bReg (ops.map compO) kl
  | .reg ops fz kl => bRegF (ops.map compO) fz kl
  | .draw ops [] [] kl => bReg (ops.map compO) kl
  | .draw ops chk fz kl => bDraw (ops.map compO) ops chk fz kl
  | .seq a b => bSeq (compC f nt rd a) (compC f nt rd b)
  | .cond c a b => bIf c (compC f nt rd a) (compC f nt rd b)
  | .block id a => bBlk id (compC f nt rd a)
  | .loop a => bLoop (compC f nt rd a)
  | .range g ps asg body => bRange f nt rd g ps asg body
  | .exit id => bExit id
  | .ret => bRet
def Ends (r : Ex × St) (kn : KNN) (ke : KE) : Prop :=
  match r.1 with
  | .normal => kn r.2.fr r.2.H r.2.df = true
  | e => ke e r.2.fr r.2.H r.2.df = true
def SoundC (kc : KC) (f nt : Nat) (rd : Bool) (sc : SC) : Prop := ∀ (cb : CallB) (cf : CallF), CB cb cf → ∀ n fr H df kn ke, kc cb n fr H df kn ke = true → ∃ r, evalCode cf n f nt rd sc ⟨fr, H, df⟩ = some r ∧ Ends r kn ke
theorem regF_ok {f nt : Nat} {rd : Bool} (ops : List SO) (fz kl : List Nat) : SoundC (bRegF (ops.map compO) fz kl) f nt rd (.reg ops fz kl) := by
  intro cb cf hc n fr H df kn ke h
  obtain ⟨fr1, H1, h1, h2⟩ := kOps_ok hc h
  exact ⟨(.normal, ⟨(finishS fz kl fr1 H1).1, (finishS fz kl fr1 H1).2, df⟩), by simp [evalCode, h1], h2⟩
theorem reg_ok {f nt : Nat} {rd : Bool} (ops : List SO) (kl : List Nat) : SoundC (bReg (ops.map compO) kl) f nt rd (.reg ops [] kl) := by
  intro cb cf hc n fr H df kn ke h
  obtain ⟨fr1, H1, h1, h2⟩ := kOps_ok hc h
  rw [fFr_eq] at h2
  exact ⟨(.normal, ⟨(finishS [] kl fr1 H1).1, (finishS [] kl fr1 H1).2, df⟩), by simp [evalCode, h1], h2⟩
theorem draw0_ok {f nt : Nat} {rd : Bool} (ops : List SO) (kl : List Nat) : SoundC (bReg (ops.map compO) kl) f nt rd (.draw ops [] [] kl) := by
  intro cb cf hc n fr H df kn ke h
  obtain ⟨fr1, H1, h1, h2⟩ := kOps_ok hc h
  rw [fFr_eq] at h2
  obtain ⟨recs, h3⟩ := runS_drawS h1
  exact ⟨(.normal, ⟨(finishS [] kl fr1 H1).1, (finishS [] kl fr1 H1).2, df⟩), by simp only [evalCode, h3, Option.bind_some]; rfl, h2⟩
theorem draw_ok {f nt : Nat} {rd : Bool} (ops : List SO) (chk : List (Nat × Nat)) (fz kl : List Nat) : SoundC (bDraw (ops.map compO) ops chk fz kl) f nt rd (.draw ops chk fz kl) := by
  intro cb cf hc n fr H df kn ke h
  obtain ⟨krecs, recs, fr1, H1, h1, h2, h3⟩ := kDrawR_ok hc h
  split at h3
  · rename_i hl
    exact ⟨(.normal, ⟨(finishS fz kl fr1 H1).1, (finishS fz kl fr1 H1).2, df⟩), by simp only [evalCode, h1, Option.bind_some]; rw [if_pos (lookK_ok h2 hl)], h3⟩
  · cases h3
theorem loopB_ok {kc : KC} {f nt : Nat} {rd : Bool} {sc : SC} (hs : SoundC kc f nt rd sc) {cb : CallB} {cf : CallF} (hc : CB cb cf) {n : Nat} {kn : KNN} {ke : KE} : ∀ {m : Nat} {fr : Fr} {H : AHeap} {df : List DI}, loopB kc cb n ke m fr H df = true →
    ∃ r, iter (evalCode cf n f nt rd sc) m ⟨fr, H, df⟩ = some r ∧ Ends r kn ke
  | 0, fr, H, df, h => by cases h
  | m + 1, fr, H, df, h => by
    obtain ⟨⟨x, s⟩, h1, h2⟩ := hs cb cf hc n fr H df _ _ h
    simp only [iter, h1, Option.bind_some]
    cases x with
    | normal => exact loopB_ok hs hc h2
    | exit id => exact ⟨_, rfl, h2⟩
    | ret => exact ⟨_, rfl, h2⟩
    | pan v => exact ⟨_, rfl, h2⟩
theorem compC_ok (f nt : Nat) (rd : Bool) : ∀ sc : SC, SoundC (compC f nt rd sc) f nt rd sc
  | .skip => fun cb cf hc n fr H df kn ke h => ⟨_, rfl, h⟩
  | .reg ops [] kl => reg_ok ops kl
  | .reg ops (a :: l) kl => regF_ok ops (a :: l) kl
  | .draw ops [] [] kl => draw0_ok ops kl
  | .draw ops [] (a :: l) kl => draw_ok ops [] (a :: l) kl
  | .draw ops (c :: chk) fz kl => draw_ok ops (c :: chk) fz kl
  | .seq a b => fun cb cf hc n fr H df kn ke h => by
    obtain ⟨⟨x, s⟩, h1, h2⟩ := compC_ok f nt rd a cb cf hc n fr H df _ _ h
    simp only [evalCode, h1, Option.bind_some]
    cases x with
    | normal => exact compC_ok f nt rd b cb cf hc n _ _ _ _ _ h2
    | exit id => exact ⟨_, rfl, h2⟩
    | ret => exact ⟨_, rfl, h2⟩
    | pan v => exact ⟨_, rfl, h2⟩
  | .cond g a b => fun cb cf hc n fr H df kn ke h => by
    obtain ⟨v, h1, h2⟩ := getB_ok h
    simp only [evalCode, h1, Option.bind_some]
    cases v with
    | bool t =>
      cases t with
      | true => exact compC_ok f nt rd a cb cf hc n _ _ _ _ _ h2
      | false => exact compC_ok f nt rd b cb cf hc n _ _ _ _ _ h2
    | _ => cases h2
  | .block id a => fun cb cf hc n fr H df kn ke h => by
    obtain ⟨⟨x, s⟩, h1, h2⟩ := compC_ok f nt rd a cb cf hc n fr H df _ _ h
    simp only [evalCode, h1, Option.map_some]
    cases x with
    | normal => exact ⟨_, rfl, h2⟩
    | ret => exact ⟨_, rfl, h2⟩
    | pan v => exact ⟨_, rfl, h2⟩
    | exit id' =>
      simp only [Ends, nbeq] at h2
      by_cases e : id' = id
      · simp only [decide_eq_true e] at h2
        exact ⟨(.normal, s), by simp only [if_pos e], h2⟩
      · simp only [decide_eq_false e] at h2
        exact ⟨(.exit id', s), by simp only [if_neg e], h2⟩
  | .loop a => fun cb cf hc n fr H df kn ke h => loopB_ok (compC_ok f nt rd a) hc h
  | .range g ps asg body => fun cb cf hc n fr H df kn ke h => by
    simp only [compC, bRange] at h
    cases rd with
    | true => cases h
    | false =>
      obtain ⟨v, h1, h⟩ := getB_ok h
      simp only [evalCode, h1, Option.bind_some]
      rw [if_neg (by simp)]
      cases v with
      | fn gf caps =>
        obtain ⟨id, l⟩ := H
        simp only [fN_eq, fL_eq] at h
        obtain ⟨⟨q, H⟩, hq, e⟩ := hc _ _ _ _ h
        have hH : ((AHeap.mk id l).add .dfr).add (.loop .ready none f nt fr ps asg body) = ⟨id + 2, l ++ [(id, .dfr), (id + 1, .loop .ready none f nt fr ps asg body)]⟩ := by
          simp [AHeap.add]
        simp only [hH, hq, Option.bind_some]
        cases q with
        | pan v => cases e
        | ret v =>
          obtain ⟨blk, hg, e⟩ := optB_ok e
          simp only [hg]
          cases blk with
          | loop st pend f' nt' fr' ps' a' b' =>
            simp only at e
            cases st with
            | busy => cases e
            | _ =>
              obtain ⟨x, hx, e⟩ := optB_ok e
              simp only [fH_eq] at e
              refine ⟨(x, ⟨fr, H.free (id + 1), .mark id :: df⟩), by simp [hx], ?_⟩
              cases x <;> exact e
          | _ => cases e
      | _ => cases h
  | .exit id => fun cb cf hc n fr H df kn ke h => ⟨_, rfl, h⟩
  | .ret => fun cb cf hc n fr H df kn ke h => ⟨_, rfl, h⟩

/-! ### Functions -/
structure KFun where
  nt : Nat
  code : KC
  res : List SRes
  dr : Bool
def compF (f : Nat) (sf : SFun) : KFun := ⟨sf.nt, compC f sf.nt false sf.code, sf.res, sf.dr⟩
def endB (dr : Bool) (nx : Nat) (res : List SRes) (df : List DI) (fr : Fr) (H : AHeap) (k : FR → AHeap → Bool) : Bool :=
  optB (leave df H) fun H' => fH [] H' fun H' => optB (resultsOf fr H' res) fun vs => fL vs fun vs => fH [] (dropH dr nx (packR vs) H') fun H' => k (.ret (packR vs)) H'
structure KEnv where
  funs : Nat → Option KFun
  ext : ExtF
def callB (K : KEnv) : Nat → CallB
  | 0, _, _, _, _ => false
  | n + 1, .fn g caps, args, H0, k =>
    match K.ext g with
    | some e => optB (e (args ++ caps) H0) fun r => k r.1 r.2
    | none => optB (K.funs g) fun fn => fL (args ++ caps) fun as => match Nat.ble as.length fn.nt with
      | true => fFr (Fr.ofArgs 0 as) fun fr => fn.code (callB K n) n fr H0 [] (fun fr H df => endB fn.dr H0.next fn.res df fr H k) fun e fr H df => (match e with
        | .ret => endB fn.dr H0.next fn.res df fr H k
        | .pan v => optB (leave df H) fun H => k (.pan v) H
        | _ => false)
      | false => false
  | n + 1, .yld l, args, H, k => optB (H.get l) fun blk => match blk with
    | .loop .ready pend f nt fr ps asg body => (match Nat.beq ps.length args.length with
      | true => fFr (putAll fr ps args) fun fr0 => compC f nt true asg (callB K n) n fr0 H [] (fun fr1 H1 df1 => (match df1 with
        | [] => optB (H1.get l) fun blk1 => (match blk1 with
          | .loop .ready pend' f' nt' fr' ps' asg' body' => fH [l] (H1.set l (.loop .busy pend' f' nt' fr' ps' asg' body')) fun H2 =>
            let fin : LState → Option Code → Bool → AHeap → List DI → Bool := fun st j b H3 df3 => (match df3 with
              | [] => optB (H3.get l) fun blk2 => (match blk2 with
                | .loop .busy _ f2 nt2 fr2 ps2 asg2 body2 => fH [l] (H3.set l (.loop st j f2 nt2 fr2 ps2 asg2 body2)) fun H4 => k (.ret (.bool b)) H4
                | _ => false)
              | _ => false)
            compC f nt true body (callB K n) n fr1 H2 [] (fun _ H3 df3 => fin .ready none true H3 df3) fun e _ H3 df3 => (match e with
              | .ret => fin .done (some .ret) false H3 df3
              | .exit id => fin .done (some (.exit id)) false H3 df3
              | _ => false)
          | _ => false)
        | _ => false)) fun _ _ _ _ => false
      | false => false)
    | _ => false
  | _, _, _, _, _ => false
structure KOK (K : KEnv) (S : SEnv) : Prop where
  ext : K.ext = S.ext
  funs : ∀ g kf, K.funs g = some kf → ∃ sf, S.funs g = some sf ∧ kf = compF g sf
theorem endB_ok {dr : Bool} {nx : Nat} {res : List SRes} {df : List DI} {fr : Fr} {H : AHeap} {k : FR → AHeap → Bool} (h : endB dr nx res df fr H k = true) (x : Ex) (hx : x = .normal ∨ x = .ret) : ∃ r, endFn dr nx res (x, ⟨fr, H, df⟩) = some r ∧ k r.1 r.2 = true := by
  obtain ⟨H', h1, h⟩ := optB_ok h
  rw [fH_eq] at h
  obtain ⟨vs, h2, h⟩ := optB_ok h
  rw [fL_eq, fH_eq] at h
  rcases hx with rfl | rfl
  · exact ⟨(.ret (packR vs), dropH dr nx (packR vs) H'), by simp only [endFn, h1, Option.bind_some, h2, Option.map_some], h⟩
  · exact ⟨(.ret (packR vs), dropH dr nx (packR vs) H'), by simp only [endFn, h1, Option.bind_some, h2, Option.map_some], h⟩
theorem callB_ok {K : KEnv} {S : SEnv} (O : KOK K S) : ∀ n, CB (callB K n) (evalFn S n)
  | 0, f, args, H, k, h => by simp [callB] at h
  | n + 1, f, args, H, k, h => by
    have ih := callB_ok O n
    cases f with
    | fn g caps =>
      simp only [callB, O.ext] at h
      simp only [evalFn]
      cases he : S.ext g with
      | some e =>
        simp only [he] at h ⊢
        obtain ⟨r, h1, h2⟩ := optB_ok h
        exact ⟨r, h1, h2⟩
      | none =>
        simp only [he] at h ⊢
        obtain ⟨kf, h1, h⟩ := optB_ok h
        obtain ⟨sf, h2, rfl⟩ := O.funs g kf h1
        simp only [fL_eq, fFr_eq] at h
        split at h
        · rename_i hl
          have hl' : (args ++ caps).length ≤ sf.nt := Nat.le_of_ble_eq_true hl
          obtain ⟨⟨x, s⟩, h3, h4⟩ := compC_ok g sf.nt false sf.code _ _ ih n _ _ _ _ _ h
          simp only [h2, Option.bind_some]
          rw [if_pos hl']
          simp only [h3, Option.bind_some]
          cases x with
          | normal => exact endB_ok h4 .normal (.inl rfl)
          | ret => exact endB_ok h4 .ret (.inr rfl)
          | pan v =>
            obtain ⟨H', h5, h6⟩ := optB_ok h4
            exact ⟨(.pan v, H'), by simp only [endFn, h5, Option.bind_some], h6⟩
          | exit id => cases h4
        · cases h
    | yld l =>
      obtain ⟨blk, hg, h⟩ := optB_ok h
      simp only [evalFn, hg]
      cases blk with
      | loop st pend f nt fr ps asg body =>
        cases st with
        | ready =>
          simp only at h ⊢
          split at h
          · rename_i hl
            rw [if_pos (Nat.eq_of_beq_eq_true hl)]
            rw [fFr_eq] at h
            obtain ⟨⟨x1, s1⟩, h1, h2⟩ := compC_ok f nt true asg _ _ ih n _ _ _ _ _ h
            obtain ⟨fr1, H1, df1⟩ := s1
            simp only [h1, Option.bind_some]
            cases x1 with
            | normal =>
              simp only [Ends] at h2
              cases df1 with
              | nil =>
                obtain ⟨blk1, hg1, h2⟩ := optB_ok h2
                simp only [hg1]
                cases blk1 with
                | loop st1 pend' f' nt' fr' ps' asg' body' =>
                  cases st1 with
                  | ready =>
                    simp only [fH_eq] at h2 ⊢
                    obtain ⟨⟨x2, s2⟩, h3, h4⟩ := compC_ok f nt true body _ _ ih n _ _ _ _ _ h2
                    obtain ⟨fr2, H2, df2⟩ := s2
                    simp only [h3, Option.bind_some]
                    have fin : ∀ st j b, (match df2 with
                        | [] => optB (H2.get l) fun blk2 => (match blk2 with
                          | .loop .busy _ f2 nt2 fr2 ps2 asg2 body2 => k (.ret (.bool b)) (H2.set l (.loop st j f2 nt2 fr2 ps2 asg2 body2))
                          | _ => false)
                        | _ => false) = true → ∃ p f2 nt2 fr2 ps2 asg2 body2, df2 = [] ∧ H2.get l = some (.loop .busy p f2 nt2 fr2 ps2 asg2 body2) ∧ k (.ret (.bool b)) (H2.set l (.loop st j f2 nt2 fr2 ps2 asg2 body2)) = true := by
                      intro st j b h
                      cases df2 with
                      | nil =>
                        obtain ⟨blk2, hg2, h⟩ := optB_ok h
                        cases blk2 with
                        | loop st2 p f2 nt2 fr2 ps2 asg2 body2 =>
                          cases st2 with
                          | busy => exact ⟨p, f2, nt2, fr2, ps2, asg2, body2, rfl, hg2, h⟩
                          | _ => cases h
                        | _ => cases h
                      | cons a b => cases h
                    cases x2 with
                    | normal =>
                      obtain ⟨p, f2, nt2, fr2', ps2, asg2, body2, rfl, h5, h6⟩ := fin _ _ _ h4
                      simp only [h5]
                      exact ⟨_, rfl, h6⟩
                    | ret =>
                      obtain ⟨p, f2, nt2, fr2', ps2, asg2, body2, rfl, h5, h6⟩ := fin _ _ _ h4
                      simp only [h5]
                      exact ⟨_, rfl, h6⟩
                    | exit id =>
                      obtain ⟨p, f2, nt2, fr2', ps2, asg2, body2, rfl, h5, h6⟩ := fin _ _ _ h4
                      simp only [h5]
                      exact ⟨_, rfl, h6⟩
                    | pan v => cases h4
                  | _ => cases h2
                | _ => cases h2
              | cons a b => cases h2
            | _ => cases h2
          · cases h
        | _ => cases h
      | _ => cases h
    | _ => simp [callB] at h
end Go.AM
