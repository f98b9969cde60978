/-
  VALUE SEMANTICS, PART B. The intermediate code that the model's code is turned to, and what it means over abstract values.
-/
import Derived.Test.YtbmnhnohahacaaaGreatDoorVsA
namespace Go.VS
open Go.RowKit

/-- The stamps of a map's entries, in their row, and its clock. -/
structure Stamps where
  bs : List Nat
  clk : Nat
def Stamps.nil : Stamps := ⟨[], 0⟩
def Stamps.push (s : Stamps) : Stamps := ⟨s.bs ++ [s.clk], s.clk + 1⟩
/-- The stamps behind a write: one more, if there is an entry more. -/
def Stamps.next (s : Stamps) (n n' : Nat) : Stamps := if n' = n then s else s.push

/-- What lies at a named place. -/
inductive AObj where
  | cells (cs : List AV)
  | spare (g : Nat)
  | map (es : List (AV × AV)) (st : Stamps)
  | iter (s : List UInt8) (pos : Nat)
  | miter (m : Option Nat) (since : Nat) (seen : List Nat) (stepped : Nat)

/-- What is known of the places; and, where names are given in their row, the next name. -/
structure AS where
  obj : Nat → Option AObj
  nxt : Nat
instance : CoeFun AS (fun _ => Nat → Option AObj) := ⟨AS.obj⟩
def AS.upd (σ : AS) (l : Nat) (o : AObj) : AS := ⟨fun k => if k = l then some o else σ k, max σ.nxt (l + 1)⟩
def AS.del (σ : AS) (l : Nat) : AS := ⟨fun k => if k = l then none else σ k, σ.nxt⟩
theorem AS.upd_at {σ : AS} {l : Nat} {o : AObj} {k : Nat} : (σ.upd l o) k = if k = l then some o else σ k := rfl
theorem AS.del_at {σ : AS} {l : Nat} {k : Nat} : (σ.del l) k = if k = l then none else σ k := rfl
def Sub (σ σ' : AS) : Prop := ∀ l o, σ l = some o → σ' l = some o
/-- The program's variables; are names given in their row? -/
structure Ctx where
  gl : Nat → AV
  det : Bool
  trk : Bool
instance : CoeFun Ctx (fun _ => Nat → AV) := ⟨Ctx.gl⟩
def Ctx.dflt : Ctx := ⟨fun _ => .any, false, false⟩
/-- A new name. -/
def Nw (γ : Ctx) (σ : AS) (l : Nat) : Prop := σ l = none ∧ (γ.det = true → l = σ.nxt)
/-- Less is known of the places. -/
def SubD (γ : Ctx) (σ σ' : AS) : Prop := Sub σ σ' ∧ (γ.det = true → σ'.nxt ≤ σ.nxt)

inductive XO where
  | tmp (t : Nat)
  | con (v : AV)
  | glob (g : Nat)

/-- How two values are compared: kinds of cells. -/
inductive EK where
  | b
  | i
  | s
  deriving DecidableEq
inductive EP where
  | one (k : EK)
  | all (ks : List EK)

inductive NK where
  | p
  | s
  | m
  | f
  | i
  deriving DecidableEq

inductive POp where
  | val (x : XO)
  | pick (c a b : XO)
  | build (zero : List AV) (parts : List (Nat × Nat × XO))
  | mks (sz : Nat) (xs : List XO)
  | boxi (x : XO)
  | loadi (ag : Bool) (n : Nat) (x : XO)
  | nilchk (x : XO)
  | bin (op : BinOp) (x y : XO)
  | eqd (pl : EP) (neg : Bool) (x y : XO)
  | eqn (nk : NK) (neg : Bool) (x y : XO)
  | un (op : UnOp) (x : XO)
  | cvi (k : IntKind) (x : XO)
  | cvid (x : XO)
  | cvbs (x : XO)
  | cvsb (x : XO)
  | cvis (x : XO)
  | ifc (t : TypeId) (x : XO)
  | mkf (fn : Fn) (first captured : List XO)
  | sls (x : XO) (lo hi : Option XO)
  | slc (sz : Nat) (x : XO) (lo hi mx : Option XO)
  | faddr (off : Nat) (x : XO)
  | fld (ag : Bool) (off n : Nat) (x : XO)
  | iaddr (sz : Nat) (x i : XO)
  | iaddra (sz len : Nat) (x i : XO)
  | idxs (x i : XO)
  | idxa (ag : Bool) (sz len : Nat) (x i : XO)
  | asrt (ok : Bool) (t : TypeId) (zero : AV) (x : XO)
  | ext (i : Nat) (x : XO)
  | lens (x : XO)
  | lenl (x : XO)
  | min2 (mx : Bool) (x y : XO)

inductive IOp where
  | p (q : POp)
  | alloc (zs : List AV)
  | box (x : XO)
  | load (ag : Bool) (n : Nat) (x : XO)
  | store (n : Nat) (x v : XO)
  | storef (s n : Nat) (v : XO)
  | append (sz bytes : Nat) (x y : XO)
  | mkmap
  | mapget (pl : EP) (ok : Bool) (zero : AV) (m k : XO)
  | mapset (pl : EP) (m k v : XO)
  | maplen (m : XO)
  | rng (x : XO)
  | nxt (x : XO)
  | ment (pl : EP) (zero : AV) (m k : XO)
  | entst (m s v : XO)
  | mrng (m : XO)
  | mnxt (x : XO)
  | mentry (x : XO)
  | call (f : Nat) (args : List XO)
  | callv (x : XO) (args : List XO)
  | defer (x : XO) (args : List XO)
  | panic (x : XO)

structure II where
  dst : Option Nat
  gd : Option (Nat × Bool)
  op : IOp

inductive RT where
  | done
  | op (i : II) (k : RT)
  | br (l r : RT)

inductive IC where
  | skip
  | ops (fz : List Nat) (t : RT)
  | seq (a b : IC)
  | cond (c : XO) (a b : IC)
  | block (id : Nat) (b : IC)
  | loop (b : IC)
  | exit (id : Nat)
  | ret

/-! ### evaluation -/

/-- A byte. -/
def bAV (b : UInt8) : AV := .int .u8 b.toNat
def byteOf : AV → Option UInt8
  | .int .u8 n => some (UInt8.ofNat n.toNat)
  | _ => none
def bytesOf : List AV → Option (List UInt8)
  | [] => some []
  | e :: es => match byteOf e with
    | some b => (bytesOf es).map (b :: ·)
    | none => none
def undefA : AV := .tuple []


def XO.ev (γ : Ctx) (t : List AV) : XO → AV
  | .tmp i => t.getD i undefA
  | .con v => v
  | .glob g => γ g

def avEq : EK → AV → AV → Option Bool
  | .b, .bool a, .bool b => some (a == b)
  | .i, .int k a, .int k' b => if k = k' then some (a == b) else none
  | .s, .str a, .str b => some (a == b)
  | _, _, _ => none
def avEqs : List EK → List AV → List AV → Option Bool
  | [], [], [] => some true
  | k :: ks, a :: as, b :: bs => match avEq k a b with
    | some true => avEqs ks as bs
    | some false => if as.length = ks.length ∧ bs.length = ks.length then some false else none
    | none => none
  | _, _, _ => none
def avEqd : EP → AV → AV → Option Bool
  | .one k, a, b => avEq k a b
  | .all ks, .agg as, .agg bs => avEqs ks as bs
  | _, _, _ => none

/-- Is a value of the kind that is compared so? -/
def fitK : EK → AV → Bool
  | .b, .bool _ => true
  | .i, .int _ _ => true
  | .s, .str _ => true
  | _, _ => false
def fitKs : List EK → List AV → Bool
  | [], [] => true
  | k :: ks, a :: as => fitK k a && fitKs ks as
  | _, _ => false
def fitP : EP → AV → Bool
  | .one k, a => fitK k a
  | .all ks, .agg as => fitKs ks as
  | _, _ => false

/-- Equality where one side is nil. -/
def avNil : NK → AV → AV → Option Bool
  | .p, .nilptr, .nilptr => some true
  | .p, .nilptr, .ptr _ _ | .p, .nilptr, .iptr _ | .p, .ptr _ _, .nilptr | .p, .iptr _, .nilptr => some false
  | .s, .slice true _ _ _, .slice b _ _ _ => some b
  | .s, .slice false _ _ _, .slice true _ _ _ => some false
  | .m, .nilmap, .nilmap => some true
  | .m, .nilmap, .map _ | .m, .map _, .nilmap => some false
  | .f, .nilFunc, .nilFunc => some true
  | .f, .nilFunc, .func _ _ _ | .f, .func _ _ _, .nilFunc => some false
  | .i, .nilIface, .nilIface => some true
  | .i, .nilIface, .iface _ _ | .i, .iface _ _, .nilIface => some false
  | _, _, _ => none

def intBin (op : BinOp) (k : IntKind) (a : Int) (yk : IntKind) (b : Int) : Option AV :=
  match op with
  | .shl => if b < 0 then none else some (.int k (k.wrap (a * 2 ^ (min b.toNat k.bits))))
  | .shr => if b < 0 then none else some (.int k (a.fdiv (2 ^ (min b.toNat k.bits))))
  | .add => if k = yk then some (.int k (k.wrap (a + b))) else none
  | .sub => if k = yk then some (.int k (k.wrap (a - b))) else none
  | .mul => if k = yk then some (.int k (k.wrap (a * b))) else none
  | .quo => if k = yk ∧ b ≠ 0 then some (.int k (k.wrap (a.tdiv b))) else none
  | .rem => if k = yk ∧ b ≠ 0 then some (.int k (a.tmod b)) else none
  | .and => if k = yk then some (.int k (k.wrap (BitVec.ofInt k.bits a &&& BitVec.ofInt k.bits b).toNat)) else none
  | .or => if k = yk then some (.int k (k.wrap (BitVec.ofInt k.bits a ||| BitVec.ofInt k.bits b).toNat)) else none
  | .xor => if k = yk then some (.int k (k.wrap (BitVec.ofInt k.bits a ^^^ BitVec.ofInt k.bits b).toNat)) else none
  | .andNot => if k = yk then some (.int k (k.wrap (BitVec.ofInt k.bits a &&& ~~~ BitVec.ofInt k.bits b).toNat)) else none
  | .eql => if k = yk then some (.bool (a == b)) else none
  | .neq => if k = yk then some (.bool (a != b)) else none
  | .lss => if k = yk then some (.bool (a < b)) else none
  | .leq => if k = yk then some (.bool (a ≤ b)) else none
  | .gtr => if k = yk then some (.bool (a > b)) else none
  | .geq => if k = yk then some (.bool (a ≥ b)) else none

def strBin (op : BinOp) (a b : List UInt8) : Option AV :=
  match op with
  | .eql => some (.bool (a == b))
  | .neq => some (.bool (!(a == b)))
  | .lss => some (.bool (Op.bytesLess a b))
  | .leq => some (.bool (Op.bytesLess a b || a == b))
  | .gtr => some (.bool (!(Op.bytesLess a b || a == b)))
  | .geq => some (.bool (!Op.bytesLess a b))
  | _ => none

/-- The longest text that '+' makes here. -/
def strMax : Nat := 4611686018427387904

def popBin (op : BinOp) : AV → AV → Option AV
  | .int k a, .int yk b => intBin op k a yk b
  | .str a, .str b => match op with
    | .add => if a.length + b.length < strMax then some (.str (a ++ b)) else none
    | op => strBin op a b
  | _, _ => none

def popUn (op : UnOp) : AV → Option AV
  | .int k n => match op with
    | .neg => some (.int k (k.wrap (0 - n)))
    | .xor => some (.int k (k.wrap (BitVec.ofInt k.bits (if k.signed then -1 else k.max) ^^^ BitVec.ofInt k.bits n).toNat))
    | _ => none
  | .bool b => match op with
    | .not => some (.bool (!b))
    | _ => none
  | _ => none

def setCells (cs : List AV) (o : Nat) : List AV → List AV
  | [] => cs
  | v :: vs => setCells (cs.set o v) (o + 1) vs

def fillA (cs : List AV) : List (Nat × Nat × AV) → Option (List AV)
  | [] => some cs
  | (o, n, v) :: rest => if v.cells.length = n ∧ o + n ≤ cs.length ∧ v.known = true then fillA (setCells cs o v.cells) rest else none

/-- Elements of so many cells. -/
def fitE (sz : Nat) : List AV → Bool
  | [] => true
  | e :: es => e.known && e.cells.length == sz && fitE sz es

/-- A part of a row of cells. -/
def partA (ag : Bool) (cs : List AV) (o n : Nat) : Option AV :=
  if o + n ≤ cs.length then (if ag then some (.agg ((cs.drop o).take n)) else if n = 1 then cs[o]? else none) else none

def asNat : AV → Option Nat
  | .int _ n => if 0 ≤ n then some n.toNat else none
  | _ => none

def bnd (d : Nat) : Option AV → Option Nat
  | none => some d
  | some v => asNat v

def tokSlice (tok : Tok) (len hi : Nat) : Tok :=
  if hi = len then tok else .unk

def faddrA (off : Nat) : AV → Option AV
  | .ptr l o => some (.ptr l (o + off))
  | .iptr cs => some (.iptr (cs.drop off))
  | _ => none

def nilchkA : AV → Option AV
  | .ptr l o => some (.ptr l o)
  | .iptr cs => some (.iptr cs)
  | .func (.func f) a b => some (.func (.func f) a b)
  | _ => none

def asrtA (ok : Bool) (t : TypeId) (zero : AV) : AV → Option AV
  | .iface u v => if u = t then some (if ok then .tuple [v, .bool true] else v) else if ok then some (.tuple [zero, .bool false]) else none
  | .nilIface => if ok then some (.tuple [zero, .bool false]) else none
  | _ => none

def pop (ev : XO → AV) : POp → Option AV
  | .val x => some (ev x)
  | .pick c a b => match ev c with
    | .bool t => some (if t then ev a else ev b)
    | _ => none
  | .build zero parts => (fillA zero (parts.map fun p => (p.1, p.2.1, ev p.2.2))).map .agg
  | .mks sz xs => if fitE sz (xs.map ev) = true then some (.slice false sz (xs.map ev) .full) else none
  | .boxi x => if (ev x).known = true then some (.iptr (ev x).cells) else none
  | .loadi ag n x => match ev x with
    | .iptr cs => partA ag cs 0 n
    | _ => none
  | .nilchk x => nilchkA (ev x)
  | .bin op x y => popBin op (ev x) (ev y)
  | .eqd pl neg x y => (avEqd pl (ev x) (ev y)).map fun b => .bool (b != neg)
  | .eqn nk neg x y => (avNil nk (ev x) (ev y)).map fun b => .bool (b != neg)
  | .un op x => popUn op (ev x)
  | .cvi k x => match ev x with
    | .int _ n => some (.int k (k.wrap n))
    | _ => none
  | .cvid x => match ev x with
    | .str s => some (.str s)
    | _ => none
  | .cvbs x => match ev x with
    | .slice _ sz es _ => if sz = 1 ∨ es = [] then (bytesOf es).map .str else none
    | _ => none
  | .cvsb x => match ev x with
    | .str s => some (.slice false 1 (s.map bAV) .unk)
    | _ => none
  | .cvis x => match ev x with
    | .int _ n => some (.str (Utf8.encode n).data.toList)
    | _ => none
  | .ifc t x => some (.iface t (ev x))
  | .mkf fn a b => some (.func fn (a.map ev) (b.map ev))
  | .sls x lo hi => match ev x with
    | .str s => match bnd s.length (hi.map ev) with
      | some h => match bnd 0 (lo.map ev) with
        | some l => if h ≤ s.length ∧ l ≤ h then some (.str ((s.take h).drop l)) else none
        | none => none
      | none => none
    | _ => none
  | .slc sz x lo hi mx => match ev x with
    | .slice nl sz' es tok => match bnd es.length (hi.map ev) with
      | some h => match bnd 0 (lo.map ev) with
        | some l => match mx.map ev with
          | none => if (sz' = sz ∨ es = []) ∧ h ≤ es.length ∧ l ≤ h then some (.slice nl sz ((es.take h).drop l) (if sz' = sz then tokSlice tok es.length h else .unk)) else none
          | some m => match asNat m with
            | some m => if (sz' = sz ∨ es = []) ∧ h ≤ m ∧ m ≤ es.length ∧ l ≤ h then some (.slice nl sz ((es.take h).drop l) (if h = m then .full else .unk)) else none
            | none => none
        | none => none
      | none => none
    | _ => none
  | .faddr off x => faddrA off (ev x)
  | .fld ag off n x => match ev x with
    | .agg cs => partA ag cs off n
    | _ => none
  | .iaddr sz x i => match ev x, asNat (ev i) with
    | .slice _ sz' es _, some k => if sz' = sz then (match es[k]? with | some e => if e.known = true then some (.iptr e.cells) else none | none => none) else none
    | _, _ => none
  | .iaddra sz len x i => match ev x, asNat (ev i) with
    | .iptr cs, some k => if k < len ∧ k * sz < cs.length then some (.iptr (cs.drop (k * sz))) else none
    | .ptr l o, some k => if k < len then some (.ptr l (o + k * sz)) else none
    | _, _ => none
  | .idxs x i => match ev x, asNat (ev i) with
    | .str s, some k => s[k]?.map bAV
    | _, _ => none
  | .idxa ag sz len x i => match ev x, asNat (ev i) with
    | .agg cs, some k => if k < len then partA ag cs (k * sz) sz else none
    | _, _ => none
  | .asrt ok t zero x => asrtA ok t zero (ev x)
  | .ext i x => match ev x with
    | .tuple vs => vs[i]?
    | _ => none
  | .lens x => match ev x with
    | .str s => some (.int .i64 s.length)
    | _ => none
  | .lenl x => match ev x with
    | .slice _ _ es _ => some (.int .i64 es.length)
    | _ => none
  | .min2 mx x y => match ev x, ev y with
    | .int k a, .int _ b => some (.int k (if mx then (if b > a then b else a) else (if b < a then b else a)))
    | _, _ => none

/-! ### what calls mean -/

inductive AEnd where
  | ret (v : AV)
  | pan (v : AV)

/-- The entries of a map. -/
def EntR (G : Ghost) : List (AV × AV) → List MapEntry → Prop
  | [], ms => ms = []
  | (k, v) :: es, ms => ∃ m ms', ms = m :: ms' ∧ VR G k m.key ∧ VR G v m.val ∧ EntR G es ms'

/-- A place, in memory. -/
def ObjR (G : Ghost) (w : World) (l : Nat) : AObj → Prop
  | .cells cs => ∃ b vs e, G.ρ l = some b ∧ w.heap[b]? = some (.cells (List.toArray vs) e (0, 0)) ∧ VRs G cs vs ∧ (∀ o, G.F b o = none) ∧ Ones vs
  | .spare g => (∀ g', g < g' → G.T l g' = none) ∧ ∃ b s n, G.T l g = some (b, s, n) ∧
      (n ≠ 0 → ∃ vs e, w.heap[b]? = some (.cells vs e (0, 0)) ∧ s + n ≤ vs.size ∧ (∀ o, s ≤ o → o < s + n → G.F b o = none))
  | .map es st => ∃ b ms, G.ρ l = some b ∧ w.heap[b]? = some (.map ms st.clk) ∧ EntR G es ms.toList ∧ ms.toList.map (·.born) = st.bs
  | .iter s pos => ∃ b, G.ρ l = some b ∧ w.heap[b]? = some (.stringIter ⟨s.toArray⟩ pos)
  | .miter m since seen stepped => ∃ b r, G.ρ l = some b ∧ w.heap[b]? = some (.mapIter r since seen.toArray stepped) ∧ (match m with
      | none => r = none
      | some m => ∃ bm, r = some bm ∧ G.ρ m = some bm)

/-- The block that a place takes. -/
def Ghost.blk (G : Ghost) (l : Nat) : AObj → Option Nat
  | .spare g => match G.T l g with
    | some (b, _, _ + 1) => some b
    | _ => none
  | _ => G.ρ l

structure WR (G : Ghost) (σ : AS) (w : World) : Prop where
  below : Below G.n0 G.w0 w
  drawn : G.trk = true → G.w0.drawn ≤ w.drawn
  n0le : G.n0 ≤ w.heap.size
  frz : ∀ b o v, G.F b o = some v → w.cell? ⟨b, o, none⟩ = some v
  obj : ∀ l x, σ l = some x → ObjR G w l x
  sep : ∀ l l' x x' b, σ l = some x → σ l' = some x' → G.blk l x = some b → G.blk l' x' = some b → l = l'
  own : ∀ l x b, σ l = some x → G.blk l x = some b → G.n0 ≤ b ∧ b < w.heap.size
  fin : ∃ N, ∀ l, N ≤ l → G.ρ l = none ∧ ∀ g, G.T l g = none
  nx : G.det = true → ∀ l, σ.nxt ≤ l → G.ρ l = none ∧ ∀ g, G.T l g = none

/-- What stands in the program's variables. -/
def GOK (γ : Ctx) (G : Ghost) : Prop := γ.det = G.det ∧ γ.trk = G.trk ∧ ∀ g, VR G (γ g) (.pointer (some ⟨g, 0, none⟩))
theorem nw {γ : Ctx} {G : Ghost} {σ : AS} {l : Nat} (hg : GOK γ G) (h : σ l = none ∧ (G.det = true → l = σ.nxt)) : Nw γ σ l := ⟨h.1, fun hd => h.2 (hg.1 ▸ hd)⟩

def ER (G : Ghost) : AEnd → Ending → Prop
  | .ret a, e => ∃ v, e = .returned v ∧ VR G a v
  | .pan a, e => ∃ v, e = .panicked [{ v, recovered := false }] ∧ VR G a v

/-- A call of function f, whether its body lies in the program or the model has it. -/
def CallsX (P : Program) (f : FuncId) (args : Array Value) (w : World) (R : Ending → World → Prop) : Prop :=
  ((callFunc f args).run P w = .ok (.enter f args) w ∧ Calls P f args w R) ∨ ∃ v w', (callFunc f args).run P w = .ok (.value v) w' ∧ R (.returned v) w'

def ACall (P : Program) (γ : Ctx) (f : FuncId) (args : List AV) (σ : AS) (R : AEnd → AS → Prop) : Prop :=
  ∀ G w vs, GOK γ G → WR G σ w → VRs G args vs →
    CallsX P f vs.toArray w fun e w' => ∃ G' r σ', G.le G' ∧ WR G' σ' w' ∧ ER G' r e ∧ R r σ'

/-! ### what the code means -/

structure Env where
  t : List AV
  d : List (FuncId × List AV)

def Env.put (e : Env) (dst : Option Nat) (v : AV) : Env :=
  match dst with
  | some d => { e with t := e.t.set d v }
  | none => e

def lookA (pl : EP) : List (AV × AV) → AV → Option (Option AV)
  | [], _ => some none
  | (k, v) :: es, x => match avEqd pl x k with
    | some true => some (some v)
    | some false => lookA pl es x
    | none => none

def setA (pl : EP) : List (AV × AV) → AV → AV → Option (List (AV × AV))
  | [], x, y => some [(x, y)]
  | (k, v) :: es, x, y => match avEqd pl x k with
    | some true => some ((x, y) :: es)
    | some false => (setA pl es x y).map fun r => (k, v) :: r
    | none => none

/-- What may be appended. -/
def srcA (sz : Nat) : AV → Option (List AV)
  | .slice _ sz' es _ => if sz' = sz ∨ es = [] then some es else none
  | .str s => if sz = 1 then some (s.map bAV) else none
  | _ => none

/-- No more bytes than this are made by append here. -/
def roomMax : Nat := 35184372088832

/-- The entry that has this stamp. -/
def stampAt (b : Nat) : List Nat → List (AV × AV) → Option (AV × AV)
  | c :: bs, e :: es => if c = b then some e else stampAt b bs es
  | _, _ => none
/-- The first entry with this stamp is given this value. -/
def stampSet (b : Nat) (v : AV) : List Nat → List (AV × AV) → Option (List (AV × AV))
  | c :: bs, e :: es => if c = b then some ((e.1, v) :: es) else (stampSet b v bs es).map (e :: ·)
  | _, _ => none
/-- Where a key stands. -/
def keyPos (pl : EP) : List (AV × AV) → AV → Option (Option Nat)
  | [], _ => some none
  | (k, _) :: es, x => match avEqd pl x k with
    | some true => some (some 0)
    | some false => (keyPos pl es x).map fun r => r.map (· + 1)
    | none => none

/-- An entry of a map is made ready for a write: what it holds, its stamp, and the map. -/
def mentA (pl : EP) (z : AV) (es : List (AV × AV)) (st : Stamps) (x : AV) : Option (AV × AV × List (AV × AV) × Stamps) :=
  match keyPos pl es x with
  | some (some i) => match es[i]?, st.bs[i]? with
    | some e, some b => some (e.2, .int .i64 b, es.set i (x, e.2), st)
    | _, _ => none
  | some none => some (z, .int .i64 st.clk, es ++ [(x, z)], st.push)
  | none => none

def stOp (ev : XO → AV) (σ : AS) : IOp → Option (AV × AS)
  | .load ag n x => match ev x with
    | .ptr l o => match σ l with
      | some (.cells cs) => (partA ag cs o n).map fun v => (v, σ)
      | _ => none
    | .iptr cs => (partA ag cs 0 n).map fun v => (v, σ)
    | _ => none
  | .store n x v => match ev x with
    | .ptr l o => match σ l with
      | some (.cells cs) => if (ev v).known = true ∧ (ev v).cells.length = n ∧ o + n ≤ cs.length then some (undefA, σ.upd l (.cells (setCells cs o (ev v).cells))) else none
      | _ => none
    | _ => none
  | .mapget pl ok zero m k => if fitP pl (ev k) = true then match ev m with
    | .map l => match σ l with
      | some (.map es _) => match lookA pl es (ev k) with
        | some (some v) => some (if ok then .tuple [v, .bool true] else v, σ)
        | some none => some (if ok then .tuple [zero, .bool false] else zero, σ)
        | none => none
      | _ => none
    | .nilmap => some (if ok then .tuple [zero, .bool false] else zero, σ)
    | _ => none
    else none
  | .mapset pl m k v => if fitP pl (ev k) = true then match ev m with
    | .map l => match σ l with
      | some (.map es st) => (setA pl es (ev k) (ev v)).map fun es' => (undefA, σ.upd l (.map es' (st.next es.length es'.length)))
      | _ => none
    | _ => none
    else none
  | .maplen m => match ev m with
    | .map l => match σ l with
      | some (.map es _) => some (.int .i64 es.length, σ)
      | _ => none
    | .nilmap => some (.int .i64 0, σ)
    | _ => none
  | .entst m s v => match ev m, ev s with
    | .map l, .int .i64 b => match σ l with
      | some (.map es st) => if 0 ≤ b then (stampSet b.toNat (ev v) st.bs es).map fun es' => (undefA, σ.upd l (.map es' st)) else none
      | _ => none
    | _, _ => none
  | .mentry x => match ev x with
    | .ptr it 0 => match σ it with
      | some (.miter (some l) _ seen stepped) => match σ l with
        | some (.map es st) => if st.clk = stepped then match seen.getLast? with
          | some b => (stampAt b st.bs es).map fun e => (.tuple [e.1, e.2], σ)
          | none => none
          else none
        | _ => none
      | _ => none
    | _ => none
  | .nxt x => match ev x with
    | .ptr l 0 => match σ l with
      | some (.iter s pos) =>
        if pos < s.length then
          let d := Utf8.decode ⟨s.toArray⟩ pos
          some (.tuple [.bool true, .int .i64 pos, .int .i32 d.1], σ.upd l (.iter s (pos + d.2)))
        else some (.tuple [.bool false], σ)
      | _ => none
    | _ => none
  | _ => none

def Opt {α : Type} (x : Option α) (K : α → Prop) : Prop :=
  match x with
  | some a => K a
  | none => False

def AOp (P : Program) (γ : Ctx) (ev : XO → AV) (σ : AS) (K : AV → AS → Prop) (Kp : AV → AS → Prop) : IOp → Prop
  | .p q => Opt (pop ev q) fun v => K v σ
  | .alloc zs => ∀ l, Nw γ σ l → K (.ptr l 0) (σ.upd l (.cells zs))
  | .box x => (ev x).known = true ∧ ∀ l, Nw γ σ l → K (.ptr l 0) (σ.upd l (.cells (ev x).cells))
  | .mkmap => ∀ l, Nw γ σ l → K (.map l) (σ.upd l (.map [] .nil))
  | .rng x => match ev x with
    | .str s => ∀ l, Nw γ σ l → K (.ptr l 0) (σ.upd l (.iter s 0))
    | _ => False
  | .ment pl z m k => fitP pl (ev k) = true ∧ match ev m with
    | .map l => match σ l with
      | some (.map es st) => Opt (mentA pl z es st (ev k)) fun r => K (.tuple [r.1, r.2.1]) (σ.upd l (.map r.2.2.1 r.2.2.2))
      | _ => False
    | _ => False
  | .mrng m => match ev m with
    | .map l => match σ l with
      | some (.map _ st) => ∀ it, Nw γ σ it → K (.ptr it 0) (σ.upd it (.miter (some l) st.clk [] st.clk))
      | _ => False
    | .nilmap => ∀ it, Nw γ σ it → K (.ptr it 0) (σ.upd it (.miter none 0 [] 0))
    | _ => False
  | .mnxt x => match ev x with
    | .ptr it 0 => match σ it with
      | some (.miter none _ _ _) => K (.tuple [.bool false]) σ
      | some (.miter (some l) since seen last) => match σ l with
        | some (.map es st) => since = st.clk ∧ last = st.clk ∧ (∀ b ∈ st.bs, b < st.clk) ∧ ((∀ b ∈ st.bs, b ∈ seen) → K (.tuple [.bool false]) σ) ∧
            ∀ (i b : Nat) (e : AV × AV), st.bs[i]? = some b → b ∉ seen → es[i]? = some e → K (.tuple [.bool true, e.1, e.2]) (σ.upd it (.miter (some l) since (seen ++ [b]) st.clk))
        | _ => False
      | _ => False
    | _ => False
  | .storef s n v => match ev (.tmp s) with
    | .ptr l 0 => match σ l with
      | some (.cells cs) => (ev v).known = true ∧ (ev v).cells.length = n ∧ cs.length = n ∧ K (.iptr (ev v).cells) (σ.del l)
      | _ => False
    | _ => False
  | .append sz bytes x y => match ev x with
    | .slice nl sz' es tok => (sz' = sz ∨ (es = [] ∧ tok = .full)) ∧ Opt (srcA sz (ev y)) fun ys => (es.length + ys.length) * bytes ≤ roomMax ∧
        match tok with
        | .opn t g => σ t = some (.spare g) ∧ K (.slice (nl && ys.isEmpty) sz (es ++ ys) (.opn t (g + 1))) (σ.upd t (.spare (g + 1)))
        | .full => ∀ t, Nw γ σ t → K (.slice (nl && ys.isEmpty) sz (es ++ ys) (.opn t 1)) (σ.upd t (.spare 1))
        | .unk => False
    | _ => False
  | .call f args => ACall P γ f (args.map ev) σ fun r σ' => match r with | .ret v => K v σ' | .pan v => Kp v σ'
  | .callv x args => match ev x with
    | .func (.func f) first cap => ACall P γ f (first ++ args.map ev ++ cap) σ fun r σ' => match r with | .ret v => K v σ' | .pan v => Kp v σ'
    | _ => False
  | .panic x => match ev x with
    | .iface t v => Kp (.iface t v) σ
    | _ => False
  | .defer _ _ => False
  | o => Opt (stOp ev σ o) fun r => K r.1 r.2

inductive AX where
  | normal
  | exit (id : Nat)
  | ret
  | pan (v : AV)

/-- Of the slots, only these are still known. -/
def only (ks : List Nat) : Nat → List AV → List AV
  | _, [] => []
  | k, v :: t => (if ks.contains k = true then v else .any) :: only ks (k + 1) t

/-- One operation, its guard asked. -/
def AI (P : Program) (γ : Ctx) (fz : List Nat) (i : II) (e : Env) (σ : AS) (K : Env → AS → Prop) (Q : AX → Env → AS → Prop) : Prop :=
  let run : Prop := match i.op with
    | .defer x args => match XO.ev γ e.t x with
      | .func (.func f) first cap => K ({ e with d := (f, first ++ args.map (XO.ev γ e.t) ++ cap) :: e.d }.put i.dst undefA) σ
      | _ => False
    | o => AOp P γ (XO.ev γ e.t) σ (fun v σ' => K (e.put i.dst v) σ') (fun v σ' => Q (.pan v) { e with t := only fz 0 e.t } σ') o
  match i.gd with
  | none => run
  | some (g, want) => match e.t.getD g undefA with
    | .bool b => if b = want then run else K (e.put i.dst undefA) σ
    | .tuple [] => K (e.put i.dst undefA) σ
    | _ => False

def ART (P : Program) (γ : Ctx) (fz : List Nat) (Q : AX → Env → AS → Prop) : RT → Env → AS → Prop
  | .done, e, σ => Q .normal e σ
  | .op i k, e, σ => AI P γ fz i e σ (fun e' σ' => ART P γ fz Q k e' σ') Q
  | .br l r, e, σ => ART P γ fz Q l e σ ∧ ART P γ fz Q r e σ

/-- Less is known. -/
def VLe (a b : AV) : Prop := ∀ G v, VR G a v → VR G b v
def VLes : List AV → List AV → Prop
  | [], bs => bs = []
  | a :: as, bs => ∃ b bs', bs = b :: bs' ∧ VLe a b ∧ VLes as bs'
def ELe (e e' : Env) : Prop := VLes e.t e'.t ∧ e'.d = e.d

def AC (P : Program) (γ : Ctx) : IC → Env → AS → (AX → Env → AS → Prop) → Prop
  | .skip, e, σ, Q => Q .normal e σ
  | .ops fz t, e, σ, Q => ART P γ fz Q t e σ
  | .seq a b, e, σ, Q => AC P γ a e σ fun x e' σ' => match x with
    | .normal => AC P γ b e' σ' Q
    | x => Q x e' σ'
  | .cond c a b, e, σ, Q => match XO.ev γ e.t c with
    | .bool t => if t then AC P γ a e σ Q else AC P γ b e σ Q
    | _ => False
  | .block id b, e, σ, Q => AC P γ b e σ fun x e' σ' => match x with
    | .exit j => if j = id then Q .normal e' σ' else Q (.exit j) e' σ'
    | x => Q x e' σ'
  | .loop b, e, σ, Q => ∃ I : Env → AS → Nat → Prop, (∃ e1 σ1 n, ELe e e1 ∧ SubD γ σ1 σ ∧ I e1 σ1 n) ∧ ∀ e0 σ0 n, I e0 σ0 n →
      AC P γ b e0 σ0 fun x e' σ' => match x with
        | .normal => ∃ e1 σ1 m, ELe e' e1 ∧ SubD γ σ1 σ' ∧ m < n ∧ I e1 σ1 m
        | x => Q x e' σ'
  | .exit id, e, σ, Q => Q (.exit id) e σ
  | .ret, e, σ, Q => Q .ret e σ

inductive IRes where
  | tmp (t : Nat)
  | cell (t : Nat) (ag : Bool) (n : Nat)

structure IFn where
  np : Nat
  nt : Nat
  res : List IRes
  body : IC

def IRes.get (t : List AV) (σ : AS) : IRes → Option AV
  | .tmp i => some (t.getD i undefA)
  | .cell i ag n => match t.getD i undefA with
    | .ptr l 0 => match σ l with
      | some (.cells cs) => partA ag cs 0 n
      | _ => none
    | .iptr cs => partA ag cs 0 n
    | _ => none

def resVal (t : List AV) (σ : AS) : List IRes → Option AV
  | [r] => r.get t σ
  | rs => (rs.mapM (IRes.get t σ)).map .tuple

/-- How a function is left: it returns, or a panic is under way. -/
inductive AM where
  | ret
  | pan (v : AV)
def MR (G : Ghost) : AM → FrameMode → Prop
  | .ret, m => m = .returning
  | .pan a, m => ∃ v, m = .panicking [{ v, recovered := false }] ∧ VR G a v
/-- A deferred call of f, which returns. -/
def ACallD (P : Program) (γ : Ctx) (f : FuncId) (args : List AV) (u : AM) (σ : AS) (R : AM → AS → Prop) : Prop :=
  ∀ G w vs m, GOK γ G → WR G σ w → VRs G args vs → MR G u m →
    (callFunc f vs.toArray).run P w = .ok (.enter f vs.toArray) w ∧ CallsD P f vs.toArray m w fun e m' w' => (∃ v, e = .returned v) ∧ ∃ G' u' σ', G.le G' ∧ WR G' σ' w' ∧ MR G' u' (settle m') ∧ R u' σ'

/-- What the deferred calls do, the last one first, and what is left then. -/
def ALeaves (P : Program) (γ : Ctx) (t : List AV) (res : List IRes) (R : AEnd → AS → Prop) : List (FuncId × List AV) → AM → AS → Prop
  | [], .ret, σ => Opt (resVal t σ res) fun v => ∃ σ1, SubD γ σ1 σ ∧ R (.ret v) σ1
  | [], .pan v, σ => ∃ σ1, SubD γ σ1 σ ∧ R (.pan v) σ1
  | d :: ds, u, σ => ACallD P γ d.1 d.2 u σ fun u' σ' => ALeaves P γ t res R ds u' σ'

/-- What must hold where the body is left. -/
def APost (P : Program) (γ : Ctx) (res : List IRes) (R : AEnd → AS → Prop) : AX → Env → AS → Prop
  | .normal, e, σ | .ret, e, σ => ALeaves P γ e.t res R e.d .ret σ
  | .pan v, e, σ => ALeaves P γ e.t res R e.d (.pan v) σ
  | _, _, _ => False

def AFn (P : Program) (γ : Ctx) (i : IFn) (args : List AV) (σ : AS) (R : AEnd → AS → Prop) : Prop :=
  AC P γ i.body { t := args ++ List.replicate (i.nt - args.length) undefA, d := [] } σ (APost P γ i.res R)
end Go.VS
