/-
  VALUE SEMANTICS, PART D. The turning of the model's operations into the intermediate ones.
-/
import Derived.Test.YtbmnhnohahacaaaGreatDoorVsC
namespace Go.VS
open Go.RowKit

def cellTypes (P : Program) : Nat → TypeId → List TypeId
  | 0, _ => []
  | n + 1, t => match P.underlying t with
    | some (.struct fs) => fs.toList.flatMap fun f => cellTypes P n f.type
    | some (.array k e) => (List.replicate k (cellTypes P n e)).flatten
    | _ => [t]

def avCell (P : Program) (t : TypeId) : Value → Option AV
  | .bool b => some (.bool b)
  | .int k n => some (.int k n)
  | .string s => some (.str s.data.toList)
  | .pointer none => some .nilptr
  | .slice none 0 0 => match P.underlying t with
    | some (.slice e) => some (.slice true (P.cellsOf e) [] .full)
    | _ => none
  | .map none => some .nilmap
  | .nilFunc => some .nilFunc
  | .nilIface => some .nilIface
  | _ => none
def avCells (P : Program) : List TypeId → List Value → Option (List AV)
  | [], [] => some []
  | t :: ts, v :: vs => match avCell P t v with
    | some a => (avCells P ts vs).map (a :: ·)
    | none => none
  | _, _ => none
def avVal (P : Program) (t : TypeId) : Value → Option AV
  | .agg cs => (avCells P (cellTypes P 32 t) cs.toList).map .agg
  | v => avCell P t v

def ioOf (P : Program) (t : TypeId) : Operand → Option XO
  | .tmp i => some (.tmp i)
  | .const v => (avVal P t v).map .con
  | .global g => some (.glob g)
  | .func f => some (.con (.func (.func f) [] []))
def iosOf (P : Program) : List TypeId → List Operand → Option (List XO)
  | _, [] => some []
  | ts, x :: xs => match ioOf P (ts.headD 0) x with
    | some y => (iosOf P ts.tail xs).map (y :: ·)
    | none => none
def ioOpt (P : Program) (t : TypeId) : Option Operand → Option (Option XO)
  | none => some none
  | some x => (ioOf P t x).map some

def aggOf (P : Program) (t : TypeId) : Option Bool :=
  match P.underlying t with
  | some (.struct _) | some (.array _ _) => some true
  | some _ => some false
  | none => none
def szOf (P : Program) (t : TypeId) : Option Nat := (P.info? t).map (·.size)
def byOf (P : Program) (t : TypeId) : Option Nat := (P.info? t).map (·.bytes)
def zeroOf (P : Program) (t : TypeId) : Option AV :=
  match P.info? t with
  | some i => match i.zero with
    | some z => avVal P t z
    | none => none
  | none => none

def kindT (P : Program) (t : TypeId) : Option EK :=
  match P.underlying t with
  | some .bool => some .b
  | some (.int _) => some .i
  | some .string => some .s
  | _ => none
/-- A struct of numbers, texts and bools, one cell each, in their row. -/
def flatFields (P : Program) : Nat → List Field → Option (List EK)
  | _, [] => some []
  | k, f :: fs => if f.name ≠ "_" ∧ f.offset = k then match kindT P f.type, flatFields P (k + 1) fs with
    | some q, some r => some (q :: r)
    | _, _ => none
    else none
def planT (P : Program) (t : TypeId) : Option EP :=
  match P.underlying t with
  | some (.struct fs) => if P.stoodInHeld t = false ∧ P.eqGuardType P.depth t = false then (flatFields P 0 fs.toList).map .all else none
  | _ => (kindT P t).map .one

def isNilC : Operand → Bool
  | .const (.pointer none) | .const (.slice none _ _) | .const (.map none) | .const .nilFunc | .const .nilIface => true
  | _ => false
def nilT (P : Program) (t : TypeId) : Option NK :=
  match P.underlying t with
  | some (.pointer _) => some .p
  | some (.slice _) => some .s
  | some (.map _ _) => some .m
  | some (.func _ _ _) => some .f
  | some (.interface _) => some .i
  | _ => none

def partsB (P : Program) (fs : Array Field) : List (Nat × Operand) → Option (List (Nat × Nat × XO))
  | [] => some []
  | (i, x) :: r => match fs[i]? with
    | some f => match szOf P f.type, ioOf P f.type x, partsB P fs r with
      | some n, some y, some r' => some ((f.offset, n, y) :: r')
      | _, _, _ => none
    | none => none
def partsS (P : Program) (e : TypeId) : Nat → List (Nat × Operand) → Option (List XO)
  | _, [] => some []
  | k, (i, x) :: r => if i = k then match ioOf P e x, partsS P e (k + 1) r with
    | some y, some r' => some (y :: r')
    | _, _ => none
    else none

def callable (P : Program) (f : FuncId) : Bool :=
  match P.funcs[f]? with
  | some fn => fn.name != "runtime.NumGoroutine" && fn.body.isSome
  | none => false

/-- What the compiler of a function is told: variables that are written once, where they are made (with a store, or with none); slots that hold addresses of what is never written. -/
structure Hint where
  once : List Nat
  never : List Nat
  frozen : List Nat

def eqOp : BinOp → Option Bool
  | .eql => some false
  | .neq => some true
  | _ => none

def comp2 (P : Program) (t u : TypeId) (x y : Operand) (f : XO → XO → IOp) : Option IOp :=
  match ioOf P t x, ioOf P u y with
  | some a, some b => some (f a b)
  | _, _ => none

def compBin (P : Program) (op : BinOp) (t : TypeId) (x y : Operand) (yt : TypeId) : Option IOp :=
  match P.underlying t with
  | some (.int _) => comp2 P t yt x y fun a b => .p (.bin op a b)
  | some .string => comp2 P t yt x y fun a b => .p (.bin op a b)
  | _ => match eqOp op with
    | some neg => match planT P t with
      | some pl => comp2 P t t x y fun a b => .p (.eqd pl neg a b)
      | none => if (isNilC x || isNilC y) = true then match nilT P t with
        | some nk => comp2 P t t x y fun a b => .p (.eqn nk neg a b)
        | none => none
        else none
    | none => none

def compConv (P : Program) (src dst : TypeId) (x : Operand) : Option IOp :=
  match P.underlying src, P.underlying dst with
  | some (.int _), some (.int k) => (ioOf P src x).map fun x => .p (.cvi k x)
  | some .string, some .string => (ioOf P src x).map fun x => .p (.cvid x)
  | some (.slice e), some .string => match P.underlying e with
    | some (.int .u8) => (ioOf P src x).map fun x => .p (.cvbs x)
    | _ => none
  | some .string, some (.slice e) => match P.underlying e with
    | some (.int .u8) => (ioOf P src x).map fun x => .p (.cvsb x)
    | _ => none
  | some (.int _), some .string => (ioOf P src x).map fun x => .p (.cvis x)
  | _, _ => none

def compLen (P : Program) (x : Operand) (t : TypeId) : Option IOp :=
  match P.underlying t with
  | some .string => (ioOf P t x).map fun x => .p (.lens x)
  | some (.slice _) => (ioOf P t x).map fun x => .p (.lenl x)
  | some (.map _ _) => (ioOf P t x).map .maplen
  | _ => none

def srcT (P : Program) (u : TypeId) : Bool :=
  match P.underlying u with
  | some (.slice _) | some .string => true
  | _ => false

def compApp (P : Program) (x y : Operand) (t u : TypeId) : Option IOp :=
  match P.underlying t with
  | some (.slice e) => match szOf P e, byOf P e, zeroOf P e with
    | some sz, some by', some z => if (0 < by' ∧ by' ≤ 65536 ∧ 0 < sz ∧ z.known = true ∧ z.cells.length = sz) ∧ srcT P u = true then comp2 P t u x y fun a b => .append sz by' a b else none
    | _, _, _ => none
  | _ => none

def compFn (P : Program) (x : Operand) (args : List XO) : Option IOp :=
  match x with
  | .func f => some (.call f args)
  | x => (ioOf P 0 x).map fun y => .callv y args

def compCall (P : Program) (c : Call) : Option IOp :=
  match c.callee with
  | .builtin .len => match c.args.toList, c.argTypes.toList with
    | [x], [t] => compLen P x t
    | _, _ => none
  | .builtin .append => match c.args.toList, c.argTypes.toList with
    | [x, y], [t, u] => compApp P x y t u
    | _, _ => none
  | .builtin .min => match c.args.toList, c.argTypes.toList with
    | [x, y], [t, u] => comp2 P t u x y fun a b => .p (.min2 false a b)
    | _, _ => none
  | .builtin .max => match c.args.toList, c.argTypes.toList with
    | [x, y], [t, u] => comp2 P t u x y fun a b => .p (.min2 true a b)
    | _, _ => none
  | .value x => match iosOf P c.argTypes.toList c.args.toList with
    | some a => compFn P x a
    | none => none
  | _ => none

def frozenA (h : Hint) : Operand → Bool
  | .tmp s => h.frozen.contains s
  | .global _ => true
  | _ => false

def compOp (P : Program) (h : Hint) (o : Oper) : Option IOp :=
  match o.op with
  | .move x | .assign x => (ioOf P o.type x).map fun x => .p (.val x)
  | .pick c a b => match ioOf P 0 c, ioOf P o.type a, ioOf P o.type b with
    | some c, some a, some b => some (.p (.pick c a b))
    | _, _, _ => none
  | .alloc t => match zeroOf P t with
    | some z => match o.dst with
      | some d => if h.never.contains d then some (.p (.boxi (.con z))) else if z.known then some (.alloc z.cells) else none
      | none => none
    | none => none
  | .box t x => match ioOf P t x with
    | some x => match o.dst with
      | some d => if h.never.contains d then some (.p (.boxi x)) else some (.box x)
      | none => none
    | none => none
  | .build t parts => match P.underlying t, zeroOf P t with
    | some (.struct fs), some z => if fs.all (fun f => (szOf P f.type).isSome) = true ∧ z.known = true then (partsB P fs parts.toList).map fun ps => .p (.build z.cells ps) else none
    | _, _ => none
  | .buildSlice t n parts => match P.underlying t with
    | some (.slice e) => match szOf P e, zeroOf P e with
      | some sz, some z => if n * sz ≤ 16777216 ∧ z.known = true ∧ z.cells.length = sz ∧ 0 < sz ∧ parts.size = n then (partsS P e 0 parts.toList).map fun ps => .p (.mks sz ps) else none
      | _, _ => none
    | _ => none
  | .load t x => match aggOf P t, szOf P t, ioOf P 0 x with
    | some ag, some n, some y => if frozenA h x = true then some (.p (.loadi ag n y)) else some (.load ag n y)
    | _, _, _ => none
  | .store t x v => match szOf P t, ioOf P 0 x, ioOf P t v with
    | some n, some y, some v => match x with
      | .tmp s => if h.once.contains s then some (.storef s n v) else some (.store n y v)
      | _ => some (.store n y v)
    | _, _, _ => none
  | .nilCheck x => (ioOf P 0 x).map fun x => .p (.nilchk x)
  | .binOp op t x y yt => compBin P op t x y yt
  | .unOp op t x => (ioOf P t x).map fun x => .p (.un op x)
  | .convert src dst x => compConv P src dst x
  | .makeInterface t x => match P.underlying t with
    | some (.interface _) => none
    | some _ => (ioOf P t x).map fun x => .p (.ifc t x)
    | none => none
  | .makeFunc fn a b => match iosOf P [] a.toList, iosOf P [] b.toList with
    | some a, some b => some (.p (.mkf fn a b))
    | _, _ => none
  | .makeMap _ none => some .mkmap
  | .slice t x lo hi mx => match P.underlying t with
    | some .string => match ioOf P t x, ioOpt P 0 lo, ioOpt P 0 hi, mx with
      | some x, some lo, some hi, none => some (.p (.sls x lo hi))
      | _, _, _, _ => none
    | some (.slice e) => match szOf P e, ioOf P t x, ioOpt P 0 lo, ioOpt P 0 hi, ioOpt P 0 mx with
      | some sz, some x, some lo, some hi, some mx => if mx.isSome && hi.isNone then none else some (.p (.slc sz x lo hi mx))
      | _, _, _, _, _ => none
    | _ => none
  | .fieldAddr s x f => match P.underlying s with
    | some (.struct fs) => match fs[f]? with
      | some fd => match szOf P fd.type, ioOf P 0 x with
        | some n, some x => if n = 0 then none else some (.p (.faddr fd.offset x))
        | _, _ => none
      | none => none
    | _ => none
  | .field t x f => match P.underlying t with
    | some (.struct fs) => match fs[f]? with
      | some fd => match aggOf P fd.type, szOf P fd.type, ioOf P t x with
        | some ag, some n, some x => some (.p (.fld ag fd.offset n x))
        | _, _, _ => none
      | none => none
    | _ => none
  | .indexAddr t x i => match P.underlying t with
    | some (.slice e) => match szOf P e, ioOf P t x, ioOf P 0 i with
      | some sz, some x, some i => some (.p (.iaddr sz x i))
      | _, _, _ => none
    | some (.array len e) => match szOf P e, ioOf P t x, ioOf P 0 i with
      | some sz, some x, some i => if 0 < sz then some (.p (.iaddra sz len x i)) else none
      | _, _, _ => none
    | _ => none
  | .index t x i => match P.underlying t with
    | some .string => match ioOf P t x, ioOf P 0 i with
      | some x, some i => some (.p (.idxs x i))
      | _, _ => none
    | some (.array len e) => match aggOf P e, szOf P e, ioOf P t x, ioOf P 0 i with
      | some ag, some sz, some x, some i => some (.p (.idxa ag sz len x i))
      | _, _, _, _ => none
    | _ => none
  | .lookup t x i ok => match P.underlying t with
    | some (.map k e) => match planT P k, zeroOf P e, ioOf P t x, ioOf P k i with
      | some pl, some z, some x, some i => some (.mapget pl ok z x i)
      | _, _, _, _ => none
    | _ => none
  | .mapUpdate t m k v => match P.underlying t with
    | some (.map kt e) => match planT P kt, ioOf P t m, ioOf P kt k, ioOf P e v with
      | some pl, some m, some k, some v => some (.mapset pl m k v)
      | _, _, _, _ => none
    | _ => none
  | .range t x => match P.underlying t with
    | some .string => (ioOf P t x).map .rng
    | some (.map _ _) => (ioOf P t x).map .mrng
    | _ => none
  | .next x s => if s = true then (ioOf P 0 x).map .nxt else (ioOf P 0 x).map .mnxt
  | .entry x => (ioOf P 0 x).map .mentry
  | .mapEntry t m k => match P.underlying t with
    | some (.map kt e) => match planT P kt, zeroOf P e, ioOf P t m, ioOf P kt k with
      | some pl, some z, some m, some k => some (.ment pl z m k)
      | _, _, _, _ => none
    | _ => none
  | .entryStore t m s v => match P.underlying t with
    | some (.map _ e) => match ioOf P t m, ioOf P 0 s, ioOf P e v with
      | some m, some s, some v => some (.entst m s v)
      | _, _, _ => none
    | _ => none
  | .typeAssert x _ t ok => match P.underlying t, zeroOf P t with
    | some (.interface _), _ => none
    | some _, some z => (ioOf P 0 x).map fun x => .p (.asrt ok t z x)
    | _, _ => none
  | .extract x i => (ioOf P 0 x).map fun x => .p (.ext i x)
  | .call c => compCall P c
  | .defer c => match c.callee with
    | .value x => match ioOf P 0 x, iosOf P c.argTypes.toList c.args.toList with
      | some y, some a => some (.defer y a)
      | _, _ => none
    | _ => none
  | .panic x => (ioOf P 0 x).map .panic
  | _ => none

/-! ### constants are what they are -/

theorem avCell_ok {P : Program} {t : TypeId} {v : Value} {a : AV} (h : avCell P t v = some a) (G : Ghost) : VR G a v := by
  unfold avCell at h
  split at h <;> first
    | (simp only [Option.some.injEq] at h; subst h; simp [VR]; done)
    | skip
  · split at h
    · simp only [Option.some.injEq] at h; subst h
      simp only [VR]
      exact ⟨none, 0, [], rfl, rfl, rfl, by simp [VRf], ⟨rfl, rfl⟩⟩
    · cases h
  · cases h
theorem avCell_ones {P : Program} {t : TypeId} {v : Value} {a : AV} (h : avCell P t v = some a) : v.oneCell' = true := by
  unfold avCell at h
  split at h <;> first | rfl | cases h
theorem avCells_ok {P : Program} (G : Ghost) : ∀ {ts : List TypeId} {vs : List Value} {as : List AV}, avCells P ts vs = some as → VRs G as vs ∧ Ones vs
  | [], [], as, h => by simp only [avCells, Option.some.injEq] at h; subst h; exact ⟨VRs.nil, Ones.nil⟩
  | [], _ :: _, as, h => by simp [avCells] at h
  | _ :: _, [], as, h => by simp [avCells] at h
  | t :: ts, v :: vs, as, h => by
    simp only [avCells] at h
    split at h
    · rename_i a ha
      cases hr : avCells P ts vs with
      | none => simp [hr] at h
      | some r =>
        simp only [hr, Option.map_some, Option.some.injEq] at h; subst h
        obtain ⟨h1, h2⟩ := avCells_ok G hr
        exact ⟨VRs.cons (avCell_ok ha G) h1, fun x hx => (List.mem_cons.1 hx).elim (fun e => e ▸ avCell_ones ha) (h2 x)⟩
    · cases h
theorem avVal_ok {P : Program} {t : TypeId} {v : Value} {a : AV} (h : avVal P t v = some a) (G : Ghost) : VR G a v := by
  unfold avVal at h
  split at h
  · rename_i cs
    cases hr : avCells P (cellTypes P 32 t) cs.toList with
    | none => simp [hr] at h
    | some r =>
      simp only [hr, Option.map_some, Option.some.injEq] at h; subst h
      obtain ⟨h1, h2⟩ := avCells_ok G hr
      simp only [VR]
      exact ⟨cs.toList, by simp, h1, h2⟩
  · exact avCell_ok h G

section
variable {P : Program} {γ : Ctx} {G : Ghost} {t : List AV} {a : Act}

theorem ev_tmp (h : VRs G t a.tmps.toList) (i : Nat) : VR G (XO.ev γ t (.tmp i)) (a.eval (.tmp i)) := by
  simp only [XO.ev, Act.eval]
  cases hi : t[i]? with
  | some x =>
    obtain ⟨v, hv, hr⟩ := h.get hi
    simp only [List.getD, hi, Option.getD_some]
    rw [show a.tmps.getD i undef = v by simp [Array.getD_eq_getD_getElem?, ← Array.getElem?_toList, hv]]
    exact hr
  | none =>
    have hl : t.length ≤ i := List.getElem?_eq_none_iff.1 hi
    have : a.tmps.toList[i]? = none := by rw [List.getElem?_eq_none_iff, h.length]; exact hl
    simp only [List.getD, hi, Option.getD_none]
    rw [show a.tmps.getD i undef = undef by simp [Array.getD_eq_getD_getElem?, ← Array.getElem?_toList, this]]
    simp [undefA, undef, VR, VRs]

theorem io_ok (hg : GOK γ G) (h : VRs G t a.tmps.toList) {ty : TypeId} {x : Operand} {y : XO} (hc : ioOf P ty x = some y) : VR G (XO.ev γ t y) (a.eval x) := by
  cases x with
  | tmp i => simp only [ioOf, Option.some.injEq] at hc; subst hc; exact ev_tmp h i
  | const v =>
    simp only [ioOf] at hc
    cases hv : avVal P ty v with
    | none => simp [hv] at hc
    | some w => simp only [hv, Option.map_some, Option.some.injEq] at hc; subst hc; exact avVal_ok hv G
  | global g => simp only [ioOf, Option.some.injEq] at hc; subst hc; exact hg.2.2 g
  | func f => simp only [ioOf, Option.some.injEq] at hc; subst hc; simp [XO.ev, Act.eval, VR, VRs]

theorem ios_ok (hg : GOK γ G) (h : VRs G t a.tmps.toList) : ∀ {xs : List Operand} {ts : List TypeId} {ys : List XO}, iosOf P ts xs = some ys →
    VRs G (ys.map (XO.ev γ t)) (xs.map a.eval)
  | [], ts, ys, hc => by simp only [iosOf, Option.some.injEq] at hc; subst hc; exact VRs.nil
  | x :: xs, ts, ys, hc => by
    simp only [iosOf] at hc
    split at hc
    · rename_i y hy
      cases hr : iosOf P ts.tail xs with
      | none => simp [hr] at hc
      | some r =>
        simp only [hr, Option.map_some, Option.some.injEq] at hc; subst hc
        exact VRs.cons (io_ok hg h hy) (ios_ok hg h hr)
    · cases hc
end
end Go.VS
