/-
  VALUE SEMANTICS, PART Z. The evaluator once more, in small words, for the kernel; it is the one of part X.
-/
import Derived.Test.YtbmnhnohahacaaaGreatDoorVsX
namespace Go.VS
open Go.RowKit
set_option linter.unusedSimpArgs false
set_option linter.unusedVariables false

/-! ### numbers -/
def kindN : IntKind → Nat
  | .i8 => 0 | .i16 => 1 | .i32 => 2 | .i64 => 3 | .u8 => 4 | .u16 => 5 | .u32 => 6 | .u64 => 7
theorem kindN_inj {a b : IntKind} (h : kindN a = kindN b) : a = b := by cases a <;> cases b <;> first | rfl | (simp [kindN] at h)
def kindB (a b : IntKind) : Bool := Nat.beq (kindN a) (kindN b)
theorem kindB_iff (a b : IntKind) : kindB a b = decide (a = b) := by cases a <;> cases b <;> rfl

def ileB : Int → Int → Bool
  | .ofNat a, .ofNat b => Nat.ble a b
  | .ofNat _, .negSucc _ => false
  | .negSucc _, .ofNat _ => true
  | .negSucc a, .negSucc b => Nat.ble b a
theorem ileB_iff : ∀ a b : Int, ileB a b = decide (a ≤ b)
  | .ofNat a, .ofNat b => by
    rw [Bool.eq_iff_iff]; simp only [ileB, Nat.ble_eq, decide_eq_true_eq, Int.ofNat_eq_natCast]; omega
  | .ofNat a, .negSucc b => by
    have e : Int.ofNat a = (a : Int) := rfl
    simp only [ileB]; symm; rw [decide_eq_false_iff_not]; omega
  | .negSucc a, .ofNat b => by
    have e : Int.ofNat b = (b : Int) := rfl
    simp only [ileB]; symm; rw [decide_eq_true_iff]; omega
  | .negSucc a, .negSucc b => by
    rw [Bool.eq_iff_iff]; simp only [ileB, Nat.ble_eq, decide_eq_true_eq]; omega
def ieqB : Int → Int → Bool
  | .ofNat a, .ofNat b => Nat.beq a b
  | .negSucc a, .negSucc b => Nat.beq a b
  | _, _ => false
theorem ieqB_iff : ∀ a b : Int, ieqB a b = (a == b)
  | .ofNat a, .ofNat b => by
    rw [Bool.eq_iff_iff]; simp only [ieqB, beq_iff_eq, Int.ofNat_eq_natCast, Nat.beq_eq]; omega
  | .ofNat a, .negSucc b => by simp [ieqB]
  | .negSucc a, .ofNat b => by simp [ieqB]
  | .negSucc a, .negSucc b => by
    rw [Bool.eq_iff_iff]; simp only [ieqB, beq_iff_eq, Nat.beq_eq]; omega

def wlo : IntKind → Int
  | .i8 => -128 | .i16 => -32768 | .i32 => -2147483648 | .i64 => -9223372036854775808 | _ => 0
def whi : IntKind → Int
  | .i8 => 127 | .i16 => 32767 | .i32 => 2147483647 | .i64 => 9223372036854775807 | .u8 => 255 | .u16 => 65535 | .u32 => 4294967295 | .u64 => 18446744073709551615
def wrapF (k : IntKind) (n : Int) : Int := bif ileB (wlo k) n && ileB n (whi k) then n else k.wrap n
theorem wrapF_eq (k : IntKind) (n : Int) : wrapF k n = k.wrap n := by
  unfold wrapF
  cases h : (ileB (wlo k) n && ileB n (whi k)) with
  | false => rfl
  | true =>
    simp only [cond_true]
    simp only [ileB_iff, Bool.and_eq_true, decide_eq_true_eq] at h
    cases k <;> simp only [wlo, whi] at h <;> simp [IntKind.wrap, IntKind.bits, IntKind.signed] <;> omega

def iAdd (k : IntKind) (a : Int) (yk : IntKind) (b : Int) : Option AV := bif kindB k yk then some (.int k (wrapF k (a + b))) else none
def iSub (k : IntKind) (a : Int) (yk : IntKind) (b : Int) : Option AV := bif kindB k yk then some (.int k (wrapF k (a - b))) else none
def iMul (k : IntKind) (a : Int) (yk : IntKind) (b : Int) : Option AV := bif kindB k yk then some (.int k (wrapF k (a * b))) else none
def iEql (k : IntKind) (a : Int) (yk : IntKind) (b : Int) : Option AV := bif kindB k yk then some (.bool (ieqB a b)) else none
def iNeq (k : IntKind) (a : Int) (yk : IntKind) (b : Int) : Option AV := bif kindB k yk then some (.bool (!ieqB a b)) else none
def iLss (k : IntKind) (a : Int) (yk : IntKind) (b : Int) : Option AV := bif kindB k yk then some (.bool (!ileB b a)) else none
def iLeq (k : IntKind) (a : Int) (yk : IntKind) (b : Int) : Option AV := bif kindB k yk then some (.bool (ileB a b)) else none
def iGtr (k : IntKind) (a : Int) (yk : IntKind) (b : Int) : Option AV := bif kindB k yk then some (.bool (!ileB a b)) else none
def iGeq (k : IntKind) (a : Int) (yk : IntKind) (b : Int) : Option AV := bif kindB k yk then some (.bool (ileB b a)) else none
def intBinF (op : BinOp) (k : IntKind) (a : Int) (yk : IntKind) (b : Int) : Option AV :=
  match op with
  | .add => iAdd k a yk b
  | .sub => iSub k a yk b
  | .mul => iMul k a yk b
  | .eql => iEql k a yk b
  | .neq => iNeq k a yk b
  | .lss => iLss k a yk b
  | .leq => iLeq k a yk b
  | .gtr => iGtr k a yk b
  | .geq => iGeq k a yk b
  | op => intBin op k a yk b
theorem bif_dec {α : Type} {p : Prop} [Decidable p] {a b : α} : (bif decide p then a else b) = if p then a else b := by
  by_cases h : p <;> simp [h]
theorem intBinF_eq (op : BinOp) (k : IntKind) (a : Int) (yk : IntKind) (b : Int) : intBinF op k a yk b = intBin op k a yk b := by
  have e1 : ∀ a b : Int, (!(decide (a ≤ b))) = decide (b < a) := fun a b => by
    by_cases h : a ≤ b
    · simp [h]
    · simp [h]; omega
  cases op <;> simp only [intBinF, intBin, iAdd, iSub, iMul, iEql, iNeq, iLss, iLeq, iGtr, iGeq, wrapF_eq, kindB_iff, bif_dec, ileB_iff, ieqB_iff, e1] <;> rfl

def binF (op : BinOp) (x y : AV) : Option AV := match x with
  | .int k a => match y with
    | .int yk b => intBinF op k a yk b
    | _ => none
  | x => popBin op x y
theorem binF_eq (op : BinOp) (x y : AV) : binF op x y = popBin op x y := by
  cases x <;> try rfl
  cases y <;> first | rfl | exact intBinF_eq ..

/-! ### operations -/
def pPick (c a b : AV) : Option AV := match c with
  | .bool t => some (bif t then a else b)
  | _ => none
def pLoadi (ag : Bool) (n : Nat) (x : AV) : Option AV := match x with
  | .iptr cs => partA ag cs 0 n
  | _ => none
def pEqd (pl : EP) (neg : Bool) (x y : AV) : Option AV := (avEqd pl x y).map fun b => .bool (b != neg)
def pEqn (nk : NK) (neg : Bool) (x y : AV) : Option AV := (avNil nk x y).map fun b => .bool (b != neg)
def pCvi (k : IntKind) (x : AV) : Option AV := match x with
  | .int _ n => some (.int k (wrapF k n))
  | _ => none
def pFld (ag : Bool) (off n : Nat) (x : AV) : Option AV := match x with
  | .agg cs => partA ag cs off n
  | _ => none
def pIaddr (sz : Nat) (x i : AV) : Option AV := match x, asNat i with
  | .slice _ sz' es _, some k => if sz' = sz then (match es[k]? with | some e => if e.known = true then some (.iptr e.cells) else none | none => none) else none
  | _, _ => none
def pIdxs (x i : AV) : Option AV := match x, asNat i with
  | .str s, some k => s[k]?.map bAV
  | _, _ => none
def pExt (i : Nat) (x : AV) : Option AV := match x with
  | .tuple vs => vs[i]?
  | _ => none
def pLens (x : AV) : Option AV := match x with
  | .str s => some (.int .i64 s.length)
  | _ => none
def pLenl (x : AV) : Option AV := match x with
  | .slice _ _ es _ => some (.int .i64 es.length)
  | _ => none
def pBoxi (x : AV) : Option AV := if x.known = true then some (.iptr x.cells) else none
def pBuild (ev : XO → AV) (zero : List AV) (parts : List (Nat × Nat × XO)) : Option AV := (fillA zero (parts.map fun p => (p.1, p.2.1, ev p.2.2))).map .agg
def pMks (ev : XO → AV) (sz : Nat) (xs : List XO) : Option AV := if fitE sz (xs.map ev) = true then some (.slice false sz (xs.map ev) .full) else none
def popF (ev : XO → AV) : POp → Option AV
  | .val x => some (ev x)
  | .pick c a b => pPick (ev c) (ev a) (ev b)
  | .build zero parts => pBuild ev zero parts
  | .mks sz xs => pMks ev sz xs
  | .boxi x => pBoxi (ev x)
  | .loadi ag n x => pLoadi ag n (ev x)
  | .nilchk x => nilchkA (ev x)
  | .bin op x y => binF op (ev x) (ev y)
  | .eqd pl neg x y => pEqd pl neg (ev x) (ev y)
  | .eqn nk neg x y => pEqn nk neg (ev x) (ev y)
  | .un op x => popUn op (ev x)
  | .cvi k x => pCvi k (ev x)
  | .faddr off x => faddrA off (ev x)
  | .fld ag off n x => pFld ag off n (ev x)
  | .iaddr sz x i => pIaddr sz (ev x) (ev i)
  | .idxs x i => pIdxs (ev x) (ev i)
  | .ext i x => pExt i (ev x)
  | .lens x => pLens (ev x)
  | .lenl x => pLenl (ev x)
  | q => pop ev q
theorem popF_eq (ev : XO → AV) (q : POp) : popF ev q = pop ev q := by
  cases q <;> try rfl
  case bin op x y => exact binF_eq ..
  case pick c a b => simp only [popF, pop, pPick]; cases ev c <;> first | rfl | (rename_i t; cases t <;> rfl)
  case cvi k x => simp only [popF, pop, pCvi, wrapF_eq]; cases ev x <;> rfl

def oneV (x : Option AV) (s : DS) : Option (List (AEnd × DS)) := match x with
  | some v => some [(.ret v, s)]
  | none => none
def oneS (x : Option (AV × DS)) : Option (List (AEnd × DS)) := match x with
  | some r => some [(.ret r.1, r.2)]
  | none => none
def callvF (call : BCall) (x : AV) (args : List AV) (s : DS) : Option (List (AEnd × DS)) := match x with
  | .func (.func f) first cap => call f (first ++ args ++ cap) s
  | _ => none
def bOpF (call : BCall) (ev : XO → AV) (s : DS) : IOp → Option (List (AEnd × DS))
  | .p q => oneV (popF ev q) s
  | .call f args => call f (args.map ev) s
  | .callv x args => callvF call (ev x) (args.map ev) s
  | .load ag n x => oneS (stD ev s (.load ag n x))
  | .store n x v => oneS (stD ev s (.store n x v))
  | o => bOp call ev s o
theorem bOpF_eq (call : BCall) (ev : XO → AV) (s : DS) (o : IOp) : bOpF call ev s o = bOp call ev s o := by
  cases o <;> try rfl
  case p q => simp only [bOpF, bOp, popF_eq]; cases pop ev q <;> rfl

def gdV (g : Option (Nat × Bool)) (t : List AV) : Option Bool := match g with
  | none => some true
  | some (g, want) => match t.getD g undefA with
    | .bool b => some (bif want then b else !b)
    | .tuple [] => some false
    | _ => none
def deferV (γ : Ctx) (i : II) (e : Env) : Option Env := match i.op with
  | .defer x args => match XO.ev γ e.t x with
    | .func (.func f) first cap => some (({ e with d := (f, first ++ args.map (XO.ev γ e.t) ++ cap) :: e.d } : Env).put i.dst undefA)
    | _ => none
  | _ => none
def isDf : IOp → Bool
  | .defer _ _ => true
  | _ => false
def cat1 {α β : Type} (f : α → Option (List β)) : Option (List α) → Option (List β)
  | none => none
  | some [x] => f x
  | some l => catE f l
theorem cat1_eq {α β : Type} (f : α → Option (List β)) (x : Option (List α)) : cat1 f x = match x with | some l => catE f l | none => none := by
  cases x with
  | none => rfl
  | some l =>
    cases l with
    | nil => rfl
    | cons a r =>
      cases r with
      | nil => simp only [cat1, catE]; cases f a <;> simp
      | cons b r => rfl
def endV (fz : List Nat) (dst : Option Nat) (e : Env) (k : Env → DS → Option (List Out)) (x : AEnd × DS) : Option (List Out) := match x.1 with
  | .ret v => k (e.put dst v) x.2
  | .pan v => some [(.pan v, { e with t := only fz 0 e.t }, x.2)]
theorem endV_eq (fz : List Nat) (dst : Option Nat) (e : Env) (k : Env → DS → Option (List Out)) : endV fz dst e k = fun x => match x.1 with
    | .ret v => k (e.put dst v) x.2
    | .pan v => one (.pan v, { e with t := only fz 0 e.t }, x.2) := by
  funext x; obtain ⟨r, s⟩ := x; cases r <;> rfl
def bRTF (γ : Ctx) (call : BCall) (fz : List Nat) : RT → Env → DS → Option (List Out)
  | .done, e, s => some [(.normal, e, s)]
  | .op i k, e, s => match gdV i.gd e.t with
    | some true => bif Nat.blt s.n DS.max then (bif isDf i.op then (match deferV γ i e with
      | some e' => bRTF γ call fz k e' s
      | none => none) else cat1 (endV fz i.dst e (bRTF γ call fz k)) (bOpF call (XO.ev γ e.t) s i.op)) else none
    | some false => bRTF γ call fz k (e.put i.dst undefA) s
    | none => none
  | .br l r, e, s => match bRTF γ call fz l e s, bRTF γ call fz r e s with
    | some a, some b => some (a ++ b)
    | _, _ => none
theorem bRTF_eq (γ : Ctx) (call : BCall) (fz : List Nat) : ∀ (t : RT) (e : Env) (s : DS), bRTF γ call fz t e s = bRT γ call fz t e s
  | .done, e, s => rfl
  | .br l r, e, s => by simp only [bRTF, bRT, bRTF_eq γ call fz l, bRTF_eq γ call fz r]; rfl
  | .op i k, e, s => by
    have ih : bRTF γ call fz k = bRT γ call fz k := funext fun e => funext fun s => bRTF_eq γ call fz k e s
    simp only [bRTF, bRT, ih, bOpF_eq, cat1_eq, endV_eq]
    obtain ⟨d, g, o⟩ := i
    cases g with
    | none =>
      simp only [gdV]
      cases Nat.blt s.n DS.max with
      | false => rfl
      | true =>
        cases o
        case defer x args =>
          simp only [isDf, cond_true, deferV, if_true]
          cases XO.ev γ e.t x <;> try rfl
          rename_i fn f c
          cases fn <;> rfl
        all_goals
          simp only [isDf, cond_true, cond_false, if_true]
          first | done | rfl | (generalize bOp call (XO.ev γ e.t) s _ = z; cases z <;> rfl)
    | some gw =>
      obtain ⟨g, want⟩ := gw
      simp only [gdV]
      cases hv : e.t.getD g undefA <;> try rfl
      · rename_i b
        cases b <;> cases want <;> simp only [cond_true, cond_false, Bool.not_true, Bool.not_false, if_true, reduceCtorEq, if_false, Bool.false_eq_true, Bool.true_eq_false]
        all_goals
          cases Nat.blt s.n DS.max with
          | false => rfl
          | true =>
            cases o
            case defer x args =>
              simp only [isDf, cond_true, deferV, if_true]
              cases XO.ev γ e.t x <;> try rfl
              rename_i fn f c
              cases fn <;> rfl
            all_goals
              simp only [isDf, cond_true, cond_false, if_true]
              first | done | rfl | (generalize bOp call (XO.ev γ e.t) s _ = z; cases z <;> rfl)
      · rename_i vs
        cases vs <;> rfl

def nextS (k : Env → DS → Option (List Out)) (x : Out) : Option (List Out) := match x.1 with
  | .normal => k x.2.1 x.2.2
  | y => some [(y, x.2)]
theorem nextS_eq (k : Env → DS → Option (List Out)) : nextS k = fun x => match x.1 with
    | .normal => k x.2.1 x.2.2
    | y => one (y, x.2) := by
  funext x; obtain ⟨r, s⟩ := x; cases r <;> rfl
def blkV (id : Nat) (x : Out) : Out := match x.1 with
  | .exit j => (bif Nat.beq j id then .normal else .exit j, x.2)
  | y => (y, x.2)
def bLoopF (b : Env → DS → Option (List Out)) : Nat → Env → DS → Option (List Out)
  | 0, _, _ => none
  | n + 1, e, s => cat1 (nextS (bLoopF b n)) (b e s)
theorem bLoopF_eq (b : Env → DS → Option (List Out)) : ∀ n e s, bLoopF b n e s = bLoop b n e s
  | 0, e, s => rfl
  | n + 1, e, s => by
    have ih : bLoopF b n = bLoop b n := funext fun e => funext fun s => bLoopF_eq b n e s
    simp only [bLoopF, bLoop, ih, cat1_eq, nextS_eq]
    cases b e s <;> rfl
def bICF (γ : Ctx) (call : BCall) (lf : Nat) : IC → Env → DS → Option (List Out)
  | .skip, e, s => some [(.normal, e, s)]
  | .ops fz t, e, s => bRTF γ call fz t e s
  | .seq a b, e, s => cat1 (nextS (bICF γ call lf b)) (bICF γ call lf a e s)
  | .cond c a b, e, s => match XO.ev γ e.t c with
    | .bool t => bif t then bICF γ call lf a e s else bICF γ call lf b e s
    | _ => none
  | .block id b, e, s => (bICF γ call lf b e s).map (List.map (blkV id))
  | .loop b, e, s => bLoopF (bICF γ call lf b) lf e s
  | .exit id, e, s => some [(.exit id, e, s)]
  | .ret, e, s => some [(.ret, e, s)]
theorem bICF_eq (γ : Ctx) (call : BCall) (lf : Nat) : ∀ (c : IC) (e : Env) (s : DS), bICF γ call lf c e s = bIC γ call lf c e s := by
  intro c
  induction c with
  | skip => intro e s; rfl
  | ops fz t => intro e s; exact bRTF_eq ..
  | seq a b iha ihb =>
    intro e s
    have : bICF γ call lf b = bIC γ call lf b := funext fun e => funext fun s => ihb e s
    simp only [bICF, bIC, cat1_eq, iha, this, nextS_eq]
    cases bIC γ call lf a e s <;> rfl
  | cond c a b iha ihb =>
    intro e s
    simp only [bICF, bIC, iha, ihb]
    cases XO.ev γ e.t c <;> try rfl
    rename_i t; cases t <;> rfl
  | block id b ih =>
    intro e s
    simp only [bICF, bIC, ih]
    have : blkV id = fun x : Out => match x.1 with
      | .exit j => (if j = id then .normal else .exit j, x.2)
      | y => (y, x.2) := by
      funext x
      obtain ⟨ax, r⟩ := x
      cases ax <;> try rfl
      rename_i j
      simp only [blkV]
      by_cases h : j = id
      · have : Nat.beq j id = true := by rw [Nat.beq_eq]; exact h
        rw [this, if_pos h]; rfl
      · have : Nat.beq j id = false := by rw [Bool.eq_false_iff, ne_eq, Nat.beq_eq]; exact h
        rw [this, if_neg h]; rfl
    rw [this]
    cases bIC γ call lf b e s <;> rfl
  | loop b ih =>
    intro e s
    have : bICF γ call lf b = bIC γ call lf b := funext fun e => funext fun s => ih e s
    simp only [bICF, bIC, this, bLoopF_eq]
  | exit id => intro e s; rfl
  | ret => intro e s; rfl

/-- The table, a row each number. -/
def atF : List (Option IFn) → Nat → Option IFn
  | [], _ => none
  | x :: _, 0 => x
  | _ :: r, n + 1 => atF r n
def TbOkF (P : Program) : Nat → List (Option IFn) → Prop
  | _, [] => True
  | k, none :: r => TbOkF P (k + 1) r
  | k, some i :: r => (∃ h ks, compFunc P h ks k = some i) ∧ TbOkF P (k + 1) r
theorem atF_ok {P : Program} : ∀ {tb : List (Option IFn)} {k f : Nat} {i : IFn}, TbOkF P k tb → atF tb f = some i → ∃ h ks, compFunc P h ks (k + f) = some i
  | [], k, f, i, _, h => by simp [atF] at h
  | none :: r, k, 0, i, _, h => by cases h
  | some j :: r, k, 0, i, ht, h => by simp only [atF, Option.some.injEq] at h; subst h; exact ht.1
  | none :: r, k, f + 1, i, ht, h => by have := atF_ok (tb := r) (k := k + 1) ht h; rwa [show k + 1 + f = k + (f + 1) by omega] at this
  | some j :: r, k, f + 1, i, ht, h => by have := atF_ok (tb := r) (k := k + 1) ht.2 h; rwa [show k + 1 + f = k + (f + 1) by omega] at this

def startE (i : IFn) (args : List AV) : Env := ⟨args ++ List.replicate (i.nt - args.length) undefA, []⟩
def endF (pd : DPrim) (i : IFn) (x : Option (List Out)) : Option (List (AEnd × DS)) := (cat1 (bPost pd i.res) x).map mergeE
def runF (γ : Ctx) (pd : DPrim) (call : BCall) (lf : Nat) (args : List AV) (s : DS) : Option IFn → Option (List (AEnd × DS))
  | some i => endF pd i (bICF γ call lf i.body (startE i args) s)
  | none => none
def primF (x : Option (AEnd × DS)) (k : Unit → Option (List (AEnd × DS))) : Option (List (AEnd × DS)) := match x with
  | some r => some [r]
  | none => k ()
def bCallF (γ : Ctx) (tb : List (Option IFn)) (pr : Prim) (pd : DPrim) (lf : Nat) : Nat → BCall
  | 0, _, _, _ => none
  | d + 1, f, args, s => primF (pr f args s) fun _ => runF γ pd (bCallF γ tb pr pd lf d) lf args s (atF tb f)

theorem bCallF_ok {P : Program} {γ : Ctx} {tb : List (Option IFn)} {pr : Prim} {pd : DPrim} {lf : Nat} (hm : P.follows .mixedOrders = true) (hd : γ.det = true) (ht : TbOkF P 0 tb) (hp : PrOk P γ pr) (hpd : PrDOk P γ pd) : ∀ d, BOK P γ (bCallF γ tb pr pd lf d) := by
  intro d
  induction d with
  | zero => intro f args s l h; cases h
  | succ d ih =>
    intro f args s l h R hR
    simp only [bCallF] at h
    cases hpr : pr f args s with
    | some r =>
      rw [hpr] at h
      simp only [primF, Option.some.injEq] at h; subst h
      exact hp f args s r hpr R (hR r (by simp))
    | none =>
      rw [hpr] at h
      simp only [primF] at h
      cases hi : atF tb f with
      | none => rw [hi] at h; cases h
      | some i =>
        rw [hi] at h
        simp only [runF, endF, bICF_eq, cat1_eq] at h
        obtain ⟨hh, ks, hc⟩ := atF_ok ht hi
        rw [Nat.zero_add] at hc
        obtain ⟨le, hle, rfl⟩ := map_some h
        cases hlo : bIC γ (bCallF γ tb pr pd lf d) lf i.body (startE i args) s with
        | none => rw [hlo] at hle; cases hle
        | some lo =>
          rw [hlo] at hle
          simp only at hle
          exact run_ok hm hd ih hpd hc hlo hle hR
where
  run_ok {P : Program} {γ : Ctx} {call : BCall} {pd : DPrim} {lf f : Nat} {i : IFn} {hh : Hint} {ks : List Nat} {args : List AV} {s : DS} {lo : List Out} {le : List (AEnd × DS)} {R : AEnd → AS → Prop}
      (hm : P.follows .mixedOrders = true) (hd : γ.det = true) (ih : BOK P γ call) (hpd : PrDOk P γ pd) (hc : compFunc P hh ks f = some i) (hlo : bIC γ call lf i.body (startE i args) s = some lo) (hle : catE (bPost pd i.res) lo = some le)
      (hR : ∀ x ∈ mergeE le, R x.1 x.2.as) : ACall P γ f args s.as R := by
    have main : ACall P γ f args s.as (fun r σ' => ∃ s' : DS, σ' = s'.as ∧ (r, s') ∈ le) := by
      refine calls_sound hm hc ?_
      refine bIC_ok hd ih hlo fun x hx => ?_
      obtain ⟨m, h1, h2⟩ := catE_mem hle x hx
      exact bPost_ok hpd h1 fun y hy => ⟨y.2, rfl, h2 _ hy⟩
    refine main.weak ?_
    rintro r σ' ⟨s', rfl, hm'⟩
    obtain ⟨y, hy1, hy2⟩ := mergeE_le (γ := γ) hm'
    exact ⟨y.1, y.2.as, hy2.1, hy2.2, hR y hy1⟩
end Go.VS
