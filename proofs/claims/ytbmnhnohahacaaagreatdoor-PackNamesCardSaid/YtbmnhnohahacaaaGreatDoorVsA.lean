/-
  VALUE SEMANTICS, PART A. Abstract values: what a call reads and never writes is told by its content, without memory; what is written lies in named places. The relation to the model's values and worlds, and that it stays when more is known.
-/
import Derived.WalkKit
import Derived.Below
import Derived.Defers
import Derived.Recover
import Derived.Orders
namespace Go.VS
open Go.RowKit

/-- A slice's spare room: none; its own (place t, in state g); not known. -/
inductive Tok where
  | full
  | opn (t g : Nat)
  | unk
  deriving DecidableEq

/-- Abstract values. -/
inductive AV where
  | any
  | bool (b : Bool)
  | int (k : IntKind) (n : Int)
  | str (s : List UInt8)
  | nilptr
  | ptr (l off : Nat)
  | iptr (cs : List AV)
  | slice (nl : Bool) (sz : Nat) (es : List AV) (tok : Tok)
  | nilmap
  | map (l : Nat)
  | func (fn : Fn) (first captured : List AV)
  | nilFunc
  | iface (t : TypeId) (v : AV)
  | nilIface
  | agg (cs : List AV)
  | tuple (vs : List AV)

instance : Inhabited AV := ⟨.any⟩

def AV.cells : AV → List AV
  | .agg cs => cs
  | v => [v]

/-- What is known beside the values: what lies frozen in memory (block, cell), where named places lie, where spare room lies. -/
structure Ghost where
  n0 : Nat
  w0 : World
  det : Bool
  trk : Bool
  F : Nat → Nat → Option Value
  ρ : Nat → Option Nat
  T : Nat → Nat → Option (Nat × Nat × Nat)

def Ghost.frz (G : Ghost) (b o : Nat) (vs : List Value) : Prop := ∀ i v, vs[i]? = some v → G.F b (o + i) = some v

structure Ghost.le (G G' : Ghost) : Prop where
  n0 : G'.n0 = G.n0
  w0 : G'.w0 = G.w0
  det : G'.det = G.det
  trk : G'.trk = G.trk
  F : ∀ b o v, G.F b o = some v → G'.F b o = some v
  ρ : ∀ l b, G.ρ l = some b → G'.ρ l = some b
  T : ∀ t g x, G.T t g = some x → G'.T t g = some x

theorem Ghost.le.refl (G : Ghost) : G.le G := ⟨rfl, rfl, rfl, rfl, fun _ _ _ h => h, fun _ _ h => h, fun _ _ _ h => h⟩
theorem Ghost.le.trans {A B C : Ghost} (h : A.le B) (k : B.le C) : A.le C :=
  ⟨k.n0.trans h.n0, k.w0.trans h.w0, k.det.trans h.det, k.trk.trans h.trk, fun b o v e => k.F _ _ _ (h.F b o v e), fun l b e => k.ρ _ _ (h.ρ l b e), fun t g x e => k.T _ _ _ (h.T t g x e)⟩
theorem Ghost.frz.mono {G G' : Ghost} (h : G.le G') {b o : Nat} {vs : List Value} (hf : G.frz b o vs) : G'.frz b o vs :=
  fun i v e => h.F _ _ _ (hf i v e)
theorem Ghost.frz_nil (G : Ghost) (b o : Nat) : G.frz b o [] := fun i v e => by simp at e
theorem Ghost.frz_append {G : Ghost} {b o : Nat} {xs ys : List Value} : G.frz b o (xs ++ ys) ↔ G.frz b o xs ∧ G.frz b (o + xs.length) ys := by
  constructor
  · intro h
    refine ⟨fun i v e => h i v ?_, fun i v e => ?_⟩
    · rw [List.getElem?_append_left (List.getElem?_eq_some_iff.1 e).1]; exact e
    · have := h (xs.length + i) v (by rw [List.getElem?_append_right (by omega)]; simpa using e)
      rwa [Nat.add_assoc]
  · rintro ⟨h1, h2⟩ i v e
    by_cases hi : i < xs.length
    · rw [List.getElem?_append_left hi] at e; exact h1 i v e
    · rw [List.getElem?_append_right (by omega)] at e
      have := h2 (i - xs.length) v e
      rwa [show o + xs.length + (i - xs.length) = o + i by omega] at this

/-- How a slice's capacity stands to its spare room. -/
def TokR (G : Ghost) (tok : Tok) (base : Option Addr) (sz len cap : Nat) : Prop :=
  match tok with
  | .full => cap = len
  | .unk => len ≤ cap
  | .opn t g => len ≤ cap ∧ ∃ b s n, G.T t g = some (b, s, n) ∧ n = (cap - len) * sz ∧ (n = 0 ∨ ∃ o, base = some ⟨b, o, none⟩ ∧ s = o + len * sz)

def BaseR (G : Ghost) (base : Option Addr) (len cap : Nat) (cs : List Value) : Prop :=
  match base with
  | none => len = 0 ∧ cap = 0
  | some a => (0 < len → a.spot = none) ∧ G.frz a.block a.off cs

/-- Each takes one cell. -/
def Ones (vs : List Value) : Prop := ∀ x, x ∈ vs → x.oneCell' = true

mutual
def VR (G : Ghost) : AV → Value → Prop
  | .any, _ => True
  | .bool b, v => v = .bool b
  | .int k n, v => v = .int k n
  | .str s, v => v = .string ⟨s.toArray⟩
  | .nilptr, v => v = .pointer none
  | .ptr l off, v => ∃ b, G.ρ l = some b ∧ v = .pointer (some ⟨b, off, none⟩)
  | .iptr cs, v => ∃ b o vs, v = .pointer (some ⟨b, o, none⟩) ∧ VRs G cs vs ∧ G.frz b o vs ∧ Ones vs
  | .slice nl sz es tok, v => ∃ base cap cs, v = .slice base es.length cap ∧ base.isNone = nl ∧ TokR G tok base sz es.length cap ∧
      VRf G sz es cs ∧ BaseR G base es.length cap cs
  | .nilmap, v => v = .map none
  | .map l, v => ∃ b, G.ρ l = some b ∧ v = .map (some b)
  | .func fn f c, v => ∃ vf vc, v = .func fn (List.toArray vf) (List.toArray vc) ∧ VRs G f vf ∧ VRs G c vc
  | .nilFunc, v => v = .nilFunc
  | .iface t a, v => ∃ u, v = .iface t u ∧ VR G a u
  | .nilIface, v => v = .nilIface
  | .agg cs, v => ∃ vs, v = .agg (List.toArray vs) ∧ VRs G cs vs ∧ Ones vs
  | .tuple cs, v => ∃ vs, v = .tuple (List.toArray vs) ∧ VRs G cs vs
def VRs (G : Ghost) : List AV → List Value → Prop
  | [], vs => vs = []
  | a :: as, vs => ∃ v vs', vs = v :: vs' ∧ VR G a v ∧ VRs G as vs'
def VRf (G : Ghost) (sz : Nat) : List AV → List Value → Prop
  | [], cs => cs = []
  | a :: as, cs => ∃ v cs', VR G a v ∧ (v.cells.size = sz ∧ Ones v.cells.toList) ∧ cs = v.cells.toList ++ cs' ∧ VRf G sz as cs'
end

theorem TokR.mono {G G' : Ghost} (h : G.le G') {tok : Tok} {base : Option Addr} {sz len cap : Nat} (k : TokR G tok base sz len cap) : TokR G' tok base sz len cap := by
  cases tok with
  | full => exact k
  | unk => exact k
  | opn t g => obtain ⟨h1, b, s, n, h2, h3⟩ := k; exact ⟨h1, b, s, n, h.T _ _ _ h2, h3⟩
theorem BaseR.mono {G G' : Ghost} (h : G.le G') {base : Option Addr} {len cap : Nat} {cs : List Value} (k : BaseR G base len cap cs) : BaseR G' base len cap cs := by
  cases base with
  | none => exact k
  | some a => exact ⟨k.1, k.2.mono h⟩

mutual
theorem VR.mono {G G' : Ghost} (h : G.le G') : ∀ (a : AV) (v : Value), VR G a v → VR G' a v
  | .any, _, _ => by simp [VR]
  | .bool b, v, k => by simp only [VR] at *; exact k
  | .int _ _, v, k => by simp only [VR] at *; exact k
  | .str s, v, k => by simp only [VR] at *; exact k
  | .nilptr, v, k => by simp only [VR] at *; exact k
  | .ptr l off, v, k => by simp only [VR] at *; obtain ⟨b, h1, h2⟩ := k; exact ⟨b, h.ρ _ _ h1, h2⟩
  | .iptr cs, v, k => by simp only [VR] at *; obtain ⟨b, o, vs, h1, h2, h3, h4⟩ := k; exact ⟨b, o, vs, h1, VRs.mono h cs vs h2, h3.mono h, h4⟩
  | .slice nl sz es tok, v, k => by
    simp only [VR] at *
    obtain ⟨base, cap, cs, h1, h2, h3, h4, h5⟩ := k
    exact ⟨base, cap, cs, h1, h2, h3.mono h, VRf.mono h sz es cs h4, h5.mono h⟩
  | .nilmap, v, k => by simp only [VR] at *; exact k
  | .map l, v, k => by simp only [VR] at *; obtain ⟨b, h1, h2⟩ := k; exact ⟨b, h.ρ _ _ h1, h2⟩
  | .func fn f c, v, k => by simp only [VR] at *; obtain ⟨vf, vc, h1, h2, h3⟩ := k; exact ⟨vf, vc, h1, VRs.mono h f vf h2, VRs.mono h c vc h3⟩
  | .nilFunc, v, k => by simp only [VR] at *; exact k
  | .iface t a, v, k => by simp only [VR] at *; obtain ⟨u, h1, h2⟩ := k; exact ⟨u, h1, VR.mono h a u h2⟩
  | .nilIface, v, k => by simp only [VR] at *; exact k
  | .agg cs, v, k => by simp only [VR] at *; obtain ⟨vs, h1, h2, h3⟩ := k; exact ⟨vs, h1, VRs.mono h cs vs h2, h3⟩
  | .tuple cs, v, k => by simp only [VR] at *; obtain ⟨vs, h1, h2⟩ := k; exact ⟨vs, h1, VRs.mono h cs vs h2⟩
theorem VRs.mono {G G' : Ghost} (h : G.le G') : ∀ (as : List AV) (vs : List Value), VRs G as vs → VRs G' as vs
  | [], vs, k => by simp only [VRs] at *; exact k
  | a :: as, vs, k => by
    simp only [VRs] at *
    obtain ⟨v, vs', h1, h2, h3⟩ := k
    exact ⟨v, vs', h1, VR.mono h a v h2, VRs.mono h as vs' h3⟩
theorem VRf.mono {G G' : Ghost} (h : G.le G') (sz : Nat) : ∀ (as : List AV) (vs : List Value), VRf G sz as vs → VRf G' sz as vs
  | [], vs, k => by simp only [VRf] at *; exact k
  | a :: as, vs, k => by
    simp only [VRf] at *
    obtain ⟨v, vs', h1, h2, h3, h4⟩ := k
    exact ⟨v, vs', VR.mono h a v h1, h2, h3, VRf.mono h sz as vs' h4⟩
end

/-- Of these something is known, and they fit into variables. -/
def AV.known : AV → Bool
  | .any | .tuple _ => false
  | _ => true

theorem Ones.nil : Ones [] := fun x hx => by simp at hx
theorem Ones.one {v : Value} (h : v.oneCell' = true) : Ones [v] := fun x hx => by simp at hx; subst hx; exact h
theorem Ones.append {a b : List Value} (h : Ones a) (k : Ones b) : Ones (a ++ b) := fun x hx => (List.mem_append.1 hx).elim (h x) (k x)
theorem Ones.sub {a b : List Value} (h : Ones b) (hs : ∀ x, x ∈ a → x ∈ b) : Ones a := fun x hx => h x (hs x hx)

section lists
variable {G : Ghost}
theorem VRs.length : ∀ {as : List AV} {vs : List Value}, VRs G as vs → vs.length = as.length
  | [], vs, h => by simp only [VRs] at h; subst h; rfl
  | a :: as, vs, h => by simp only [VRs] at h; obtain ⟨v, vs', rfl, _, h3⟩ := h; simp [VRs.length h3]
theorem VRs.get : ∀ {as : List AV} {vs : List Value} {i : Nat} {a : AV}, VRs G as vs → as[i]? = some a → ∃ v, vs[i]? = some v ∧ VR G a v
  | [], _, _, _, _, e => by simp at e
  | a :: as, vs, 0, b, h, e => by simp only [VRs] at h; obtain ⟨v, vs', rfl, h2, _⟩ := h; simp at e; subst e; exact ⟨v, rfl, h2⟩
  | a :: as, vs, i + 1, b, h, e => by simp only [VRs] at h; obtain ⟨v, vs', rfl, _, h3⟩ := h; simp at e; simpa using VRs.get h3 e
theorem VRs.append {as bs : List AV} {vs us : List Value} (h : VRs G as vs) (k : VRs G bs us) : VRs G (as ++ bs) (vs ++ us) := by
  induction as generalizing vs with
  | nil => simp only [VRs] at h; subst h; simpa using k
  | cons a as ih => simp only [VRs] at h; obtain ⟨v, vs', rfl, h2, h3⟩ := h; simp only [List.cons_append, VRs]; exact ⟨v, vs' ++ us, rfl, h2, ih h3⟩
theorem VRs.append_inv {as bs : List AV} {ws : List Value} (h : VRs G (as ++ bs) ws) : ∃ vs us, ws = vs ++ us ∧ VRs G as vs ∧ VRs G bs us := by
  induction as generalizing ws with
  | nil => exact ⟨[], ws, rfl, by simp [VRs], by simpa using h⟩
  | cons a as ih =>
    simp only [List.cons_append, VRs] at h
    obtain ⟨v, vs', rfl, h2, h3⟩ := h
    obtain ⟨vs, us, rfl, h4, h5⟩ := ih h3
    exact ⟨v :: vs, us, rfl, by simp only [VRs]; exact ⟨v, vs, rfl, h2, h4⟩, h5⟩
theorem VRs.take {as : List AV} {vs : List Value} (h : VRs G as vs) (n : Nat) : VRs G (as.take n) (vs.take n) := by
  induction as generalizing vs n with
  | nil => simp only [VRs] at h; subst h; simp [VRs]
  | cons a as ih =>
    simp only [VRs] at h; obtain ⟨v, vs', rfl, h2, h3⟩ := h
    cases n with
    | zero => simp [VRs]
    | succ n => simp only [List.take_succ_cons, VRs]; exact ⟨v, _, rfl, h2, ih h3 n⟩
theorem VRs.drop {as : List AV} {vs : List Value} (h : VRs G as vs) (n : Nat) : VRs G (as.drop n) (vs.drop n) := by
  induction as generalizing vs n with
  | nil => simp only [VRs] at h; subst h; simp [VRs]
  | cons a as ih =>
    have h' := h
    simp only [VRs] at h; obtain ⟨v, vs', rfl, h2, h3⟩ := h
    cases n with
    | zero => simpa using h'
    | succ n => simpa using ih h3 n
theorem VRs.set {as : List AV} {vs : List Value} (h : VRs G as vs) (n : Nat) {a : AV} {v : Value} (hv : VR G a v) : VRs G (as.set n a) (vs.set n v) := by
  induction as generalizing vs n with
  | nil => simp only [VRs] at h; subst h; simp [VRs]
  | cons b as ih =>
    simp only [VRs] at h; obtain ⟨u, vs', rfl, h2, h3⟩ := h
    cases n with
    | zero => simp only [List.set_cons_zero, VRs]; exact ⟨v, vs', rfl, hv, h3⟩
    | succ n => simp only [List.set_cons_succ, VRs]; exact ⟨u, _, rfl, h2, ih h3 n⟩
theorem VRs.replicate {a : AV} {v : Value} (h : VR G a v) : ∀ n : Nat, VRs G (List.replicate n a) (List.replicate n v)
  | 0 => by simp [VRs]
  | n + 1 => by simp only [List.replicate_succ, VRs]; exact ⟨v, _, rfl, h, VRs.replicate h n⟩
theorem VRs.cons {a : AV} {as : List AV} {v : Value} {vs : List Value} (h : VR G a v) (k : VRs G as vs) : VRs G (a :: as) (v :: vs) := by
  simp only [VRs]; exact ⟨v, vs, rfl, h, k⟩
theorem VRs.nil : VRs G [] [] := by simp [VRs]
theorem VRs.cons_inv {a : AV} {as : List AV} {ws : List Value} (h : VRs G (a :: as) ws) : ∃ v vs, ws = v :: vs ∧ VR G a v ∧ VRs G as vs := by
  simpa only [VRs] using h
theorem VRs.nil_inv {ws : List Value} (h : VRs G [] ws) : ws = [] := by simpa only [VRs] using h

/-- The cells of a value. -/
theorem VR.cells {a : AV} {v : Value} (h : VR G a v) (hany : a ≠ .any) : VRs G a.cells v.cells.toList := by
  cases a with
  | any => exact absurd rfl hany
  | agg cs => simp only [VR] at h; obtain ⟨vs, rfl, h2, _⟩ := h; simpa [AV.cells, Value.cells] using h2
  | bool b => simp only [VR] at h; subst h; simp [AV.cells, Value.cells, VRs, VR]
  | int k n => simp only [VR] at h; subst h; simp [AV.cells, Value.cells, VRs, VR]
  | str s => simp only [VR] at h; subst h; simp [AV.cells, Value.cells, VRs, VR]
  | nilptr => simp only [VR] at h; subst h; simp [AV.cells, Value.cells, VRs, VR]
  | ptr l off => have h' := h; simp only [VR] at h; obtain ⟨b, h1, rfl⟩ := h; simp only [AV.cells, Value.cells, VRs]; exact ⟨_, [], rfl, h', rfl⟩
  | iptr cs => have h' := h; simp only [VR] at h; obtain ⟨b, o, vs, rfl, h1⟩ := h; simp only [AV.cells, Value.cells, VRs]; exact ⟨_, [], rfl, h', rfl⟩
  | slice nl sz es tok => have h' := h; simp only [VR] at h; obtain ⟨b, o, vs, rfl, h1⟩ := h; simp only [AV.cells, Value.cells, VRs]; exact ⟨_, [], rfl, h', rfl⟩
  | nilmap => simp only [VR] at h; subst h; simp [AV.cells, Value.cells, VRs, VR]
  | map l => have h' := h; simp only [VR] at h; obtain ⟨b, h1, rfl⟩ := h; simp only [AV.cells, Value.cells, VRs]; exact ⟨_, [], rfl, h', rfl⟩
  | func fn f c => have h' := h; simp only [VR] at h; obtain ⟨b, o, rfl, h1⟩ := h; simp only [AV.cells, Value.cells, VRs]; exact ⟨_, [], rfl, h', rfl⟩
  | nilFunc => simp only [VR] at h; subst h; simp [AV.cells, Value.cells, VRs, VR]
  | iface t a => have h' := h; simp only [VR] at h; obtain ⟨b, rfl, h1⟩ := h; simp only [AV.cells, Value.cells, VRs]; exact ⟨_, [], rfl, h', rfl⟩
  | nilIface => simp only [VR] at h; subst h; simp [AV.cells, Value.cells, VRs, VR]
  | tuple vs => have h' := h; simp only [VR] at h; obtain ⟨b, rfl, h1⟩ := h; simp only [AV.cells, Value.cells, VRs]; exact ⟨_, [], rfl, h', rfl⟩

theorem VR.ones {a : AV} {v : Value} (h : VR G a v) (hk : a.known = true) : Ones v.cells.toList := by
  cases a with
  | any => cases hk
  | tuple vs => cases hk
  | agg cs => simp only [VR] at h; obtain ⟨vs, rfl, _, h3⟩ := h; simpa [Value.cells] using h3
  | bool b => simp only [VR] at h; subst h; simpa [Value.cells] using Ones.one rfl
  | int k n => simp only [VR] at h; subst h; simpa [Value.cells] using Ones.one rfl
  | str s => simp only [VR] at h; subst h; simpa [Value.cells] using Ones.one rfl
  | nilptr => simp only [VR] at h; subst h; simpa [Value.cells] using Ones.one rfl
  | ptr l off => simp only [VR] at h; obtain ⟨b, h1, rfl⟩ := h; simpa [Value.cells] using Ones.one rfl
  | iptr cs => simp only [VR] at h; obtain ⟨b, o, vs, rfl, h1⟩ := h; simpa [Value.cells] using Ones.one rfl
  | slice nl sz es tok => simp only [VR] at h; obtain ⟨b, o, vs, rfl, h1⟩ := h; simpa [Value.cells] using Ones.one rfl
  | nilmap => simp only [VR] at h; subst h; simpa [Value.cells] using Ones.one rfl
  | map l => simp only [VR] at h; obtain ⟨b, h1, rfl⟩ := h; simpa [Value.cells] using Ones.one rfl
  | func fn f c => simp only [VR] at h; obtain ⟨b, o, rfl, h1⟩ := h; simpa [Value.cells] using Ones.one rfl
  | nilFunc => simp only [VR] at h; subst h; simpa [Value.cells] using Ones.one rfl
  | iface t a => simp only [VR] at h; obtain ⟨b, rfl, h1⟩ := h; simpa [Value.cells] using Ones.one rfl
  | nilIface => simp only [VR] at h; subst h; simpa [Value.cells] using Ones.one rfl
theorem VRf.length {sz : Nat} : ∀ {es : List AV} {cs : List Value}, VRf G sz es cs → cs.length = es.length * sz
  | [], cs, h => by simp only [VRf] at h; subst h; simp
  | a :: as, cs, h => by
    simp only [VRf] at h; obtain ⟨v, cs', _, h2, rfl, h4⟩ := h
    simp [VRf.length h4, h2.1, Nat.add_mul]; omega
theorem VRf.append {sz : Nat} {es fs : List AV} {cs ds : List Value} (h : VRf G sz es cs) (k : VRf G sz fs ds) : VRf G sz (es ++ fs) (cs ++ ds) := by
  induction es generalizing cs with
  | nil => simp only [VRf] at h; subst h; simpa using k
  | cons a es ih =>
    simp only [VRf] at h; obtain ⟨v, cs', h1, h2, rfl, h4⟩ := h
    simp only [List.cons_append, VRf]; exact ⟨v, cs' ++ ds, h1, h2, by simp, ih h4⟩
theorem VRf.append_inv {sz : Nat} {es fs : List AV} {cs : List Value} (h : VRf G sz (es ++ fs) cs) : ∃ c1 c2, cs = c1 ++ c2 ∧ VRf G sz es c1 ∧ VRf G sz fs c2 := by
  induction es generalizing cs with
  | nil => exact ⟨[], cs, rfl, by simp [VRf], by simpa using h⟩
  | cons a es ih =>
    simp only [List.cons_append, VRf] at h
    obtain ⟨v, cs', h1, h2, rfl, h4⟩ := h
    obtain ⟨c1, c2, rfl, h5, h6⟩ := ih h4
    exact ⟨v.cells.toList ++ c1, c2, by simp, by simp only [VRf]; exact ⟨v, c1, h1, h2, rfl, h5⟩, h6⟩
/-- One element, and where its cells stand. -/
theorem VRf.get {sz : Nat} : ∀ {es : List AV} {cs : List Value} {i : Nat} {e : AV}, VRf G sz es cs → es[i]? = some e →
    ∃ v c1 c2, VR G e v ∧ (v.cells.size = sz ∧ Ones v.cells.toList) ∧ cs = c1 ++ v.cells.toList ++ c2 ∧ c1.length = i * sz
  | [], _, _, _, _, e => by simp at e
  | a :: as, cs, 0, b, h, e => by
    simp only [VRf] at h; obtain ⟨v, cs', h1, h2, rfl, h4⟩ := h
    simp at e; subst e; exact ⟨v, [], cs', h1, h2, by simp, by simp⟩
  | a :: as, cs, i + 1, b, h, e => by
    simp only [VRf] at h; obtain ⟨v, cs', h1, h2, rfl, h4⟩ := h
    simp at e
    obtain ⟨u, c1, c2, h5, h6, rfl, h7⟩ := VRf.get h4 e
    exact ⟨u, v.cells.toList ++ c1, c2, h5, h6, by simp, by simp [h7, h2.1, Nat.add_mul]; omega⟩
theorem VRf.snoc {sz : Nat} {es : List AV} {cs : List Value} {e : AV} {v : Value} (h : VRf G sz es cs) (he : VR G e v) (hs : v.cells.size = sz ∧ Ones v.cells.toList) :
    VRf G sz (es ++ [e]) (cs ++ v.cells.toList) := h.append (by simp only [VRf]; exact ⟨v, [], he, hs, by simp, rfl⟩)
theorem VRf.take_drop {sz : Nat} {es : List AV} {cs : List Value} (h : VRf G sz es cs) (n : Nat) :
    VRf G sz (es.take n) (cs.take (n * sz)) ∧ VRf G sz (es.drop n) (cs.drop (n * sz)) := by
  have hh : VRf G sz (es.take n ++ es.drop n) cs := by rwa [List.take_append_drop]
  obtain ⟨c1, c2, rfl, h1, h2⟩ := hh.append_inv
  by_cases hn : n ≤ es.length
  · have e1 : c1.length = n * sz := by rw [h1.length, List.length_take, Nat.min_eq_left hn]
    rw [← e1]; simp [h1, h2]
  · have hn' : es.length ≤ n := by omega
    have : es.drop n = [] := List.drop_eq_nil_of_le hn'
    rw [this] at h2 ⊢
    simp only [VRf] at h2; subst h2
    have e1 : c1.length ≤ n * sz := by rw [h1.length]; exact Nat.mul_le_mul_right _ (List.length_take_le _ _)
    simp [List.take_of_length_le e1, List.drop_eq_nil_of_le e1, h1, VRf]
theorem VRf.ones {sz : Nat} : ∀ {es : List AV} {cs : List Value}, VRf G sz es cs → Ones cs
  | [], cs, h => by simp only [VRf] at h; subst h; intro x hx; simp at hx
  | a :: as, cs, h => by
    simp only [VRf] at h; obtain ⟨v, cs', _, h2, rfl, h4⟩ := h
    intro x hx
    rcases List.mem_append.1 hx with hx | hx
    · exact h2.2 x hx
    · exact VRf.ones h4 x hx
theorem VRf.retag {sz sz' : Nat} {cs : List Value} (h : VRf G sz [] cs) : VRf G sz' [] cs := by simpa only [VRf] using h
end lists
end Go.VS
