/-
  VALUE SEMANTICS, PART K2. The evaluator once more: variables in a tree, every recursion by its recursor: what the kernel goes through fast.
-/
import Derived.Test.YtbmnhnohahacaaaGreatDoorVsZ
namespace Go.VS
open Go.RowKit
set_option linter.unusedSimpArgs false
set_option linter.unusedVariables false

/-! ### variables, in a tree -/
inductive TV where
  | nil
  | node (l : TV) (v : AV) (r : TV)

noncomputable def tvGet (v : AV) (gl gr : Nat → AV) (k : Nat) : AV := Nat.rec v (fun m _ => (bif Nat.beq (Nat.mod m 2) 0 then gl else gr) (Nat.div m 2)) k
noncomputable def TV.get (t : TV) : Nat → AV := TV.rec (motive := fun _ => Nat → AV) (fun _ => undefA) (fun _ v _ gl gr => tvGet v gl gr) t
noncomputable def tvSet (l : TV) (v : AV) (r : TV) (sl sr : Nat → AV → TV) (k : Nat) (x : AV) : TV :=
  Nat.rec (TV.node l x r) (fun m _ => bif Nat.beq (Nat.mod m 2) 0 then TV.node (sl (Nat.div m 2) x) v r else TV.node l v (sr (Nat.div m 2) x)) k
noncomputable def TV.set (t : TV) : Nat → AV → TV := TV.rec (motive := fun _ => Nat → AV → TV) (fun _ _ => .nil) (fun l v r sl sr => tvSet l v r sl sr) t
noncomputable def tvMk (ih : Nat → (Nat → AV) → TV) (n : Nat) (f : Nat → AV) : TV :=
  bif Nat.beq n 0 then .nil else .node (ih (Nat.div n 2) fun m => f (2 * m + 1)) (f 0) (ih (Nat.div (n - 1) 2) fun m => f (2 * m + 2))
noncomputable def TV.mk (fuel : Nat) : Nat → (Nat → AV) → TV := Nat.rec (motive := fun _ => Nat → (Nat → AV) → TV) (fun _ _ => .nil) (fun _ ih => tvMk ih) fuel

def TV.Sh : TV → Nat → Prop
  | .nil, n => n = 0
  | .node l _ r, n => 0 < n ∧ l.Sh (n / 2) ∧ r.Sh ((n - 1) / 2)

theorem TV.get_nil (k : Nat) : TV.nil.get k = undefA := rfl
theorem TV.get_zero (l r : TV) (v : AV) : (TV.node l v r).get 0 = v := rfl
theorem TV.get_succ (l r : TV) (v : AV) (m : Nat) : (TV.node l v r).get (m + 1) = if m % 2 = 0 then l.get (m / 2) else r.get (m / 2) := by
  show (bif Nat.beq (Nat.mod m 2) 0 then l.get else r.get) (Nat.div m 2) = _
  by_cases h : m % 2 = 0
  · rw [if_pos h, show Nat.mod m 2 = m % 2 from rfl, h]; rfl
  · rw [if_neg h]
    have : Nat.beq (Nat.mod m 2) 0 = false := by rw [Bool.eq_false_iff, ne_eq, Nat.beq_eq]; exact h
    rw [this]; rfl
theorem TV.set_zero (l r : TV) (v x : AV) : (TV.node l v r).set 0 x = .node l x r := rfl
theorem TV.set_succ (l r : TV) (v x : AV) (m : Nat) : (TV.node l v r).set (m + 1) x = if m % 2 = 0 then .node (l.set (m / 2) x) v r else .node l v (r.set (m / 2) x) := by
  show (bif Nat.beq (Nat.mod m 2) 0 then TV.node (l.set (Nat.div m 2) x) v r else TV.node l v (r.set (Nat.div m 2) x)) = _
  by_cases h : m % 2 = 0
  · rw [if_pos h, show Nat.mod m 2 = m % 2 from rfl, h]; rfl
  · rw [if_neg h]
    have : Nat.beq (Nat.mod m 2) 0 = false := by rw [Bool.eq_false_iff, ne_eq, Nat.beq_eq]; exact h
    rw [this]; rfl
theorem TV.set_sh : ∀ {t : TV} {n : Nat} (k : Nat) (x : AV), t.Sh n → (t.set k x).Sh n
  | .nil, n, k, x, h => h
  | .node l v r, n, 0, x, h => by rw [TV.set_zero]; exact h
  | .node l v r, n, m + 1, x, h => by
    rw [TV.set_succ]
    obtain ⟨h1, h2, h3⟩ := h
    split
    · exact ⟨h1, TV.set_sh _ x h2, h3⟩
    · exact ⟨h1, h2, TV.set_sh _ x h3⟩
theorem TV.get_set : ∀ {t : TV} {n : Nat} (k j : Nat) (x : AV), t.Sh n → (t.set k x).get j = if j = k ∧ k < n then x else t.get j
  | .nil, n, k, j, x, h => by
    have h' : n = 0 := h
    subst h'
    rw [if_neg (by omega)]; rfl
  | .node l v r, n, 0, j, x, h => by
    rw [TV.set_zero]
    cases j with
    | zero => rw [if_pos ⟨rfl, h.1⟩]; rfl
    | succ j => rw [if_neg (by omega), TV.get_succ, TV.get_succ]
  | .node l v r, n, m + 1, j, x, h => by
    obtain ⟨h1, h2, h3⟩ := h
    rw [TV.set_succ]
    by_cases hm : m % 2 = 0
    · rw [if_pos hm]
      cases j with
      | zero => rw [if_neg (by omega)]; rfl
      | succ j =>
        rw [TV.get_succ, TV.get_succ]
        by_cases hj : j % 2 = 0
        · rw [if_pos hj, if_pos hj, TV.get_set _ _ x h2]
          by_cases e : j = m
          · subst e
            by_cases hn : j + 1 < n
            · rw [if_pos ⟨rfl, by omega⟩, if_pos ⟨rfl, hn⟩]
            · rw [if_neg (by omega), if_neg (by omega)]
          · rw [if_neg (by omega), if_neg (by omega)]
        · rw [if_neg hj, if_neg hj, if_neg (by omega)]
    · rw [if_neg hm]
      cases j with
      | zero => rw [if_neg (by omega)]; rfl
      | succ j =>
        rw [TV.get_succ, TV.get_succ]
        by_cases hj : j % 2 = 0
        · rw [if_pos hj, if_pos hj, if_neg (by omega)]
        · rw [if_neg hj, if_neg hj, TV.get_set _ _ x h3]
          by_cases e : j = m
          · subst e
            by_cases hn : j + 1 < n
            · rw [if_pos ⟨rfl, by omega⟩, if_pos ⟨rfl, hn⟩]
            · rw [if_neg (by omega), if_neg (by omega)]
          · rw [if_neg (by omega), if_neg (by omega)]
theorem TV.mk_sh : ∀ (fuel n : Nat) (f : Nat → AV), n < 2 ^ fuel → (TV.mk fuel n f).Sh n ∧ ∀ k, (TV.mk fuel n f).get k = if k < n then f k else undefA
  | 0, n, f, h => by
    have : n = 0 := by simpa using h
    subst this
    exact ⟨rfl, fun k => by rw [if_neg (by omega)]; rfl⟩
  | fuel + 1, n, f, h => by
    have e : TV.mk (fuel + 1) n f = bif Nat.beq n 0 then .nil else .node (TV.mk fuel (Nat.div n 2) fun m => f (2 * m + 1)) (f 0) (TV.mk fuel (Nat.div (n - 1) 2) fun m => f (2 * m + 2)) := rfl
    by_cases hn : n = 0
    · subst hn
      rw [e]
      exact ⟨rfl, fun k => by rw [if_neg (by omega)]; rfl⟩
    · have hb : Nat.beq n 0 = false := by rw [Bool.eq_false_iff, ne_eq, Nat.beq_eq]; exact hn
      rw [e, hb, cond_false]
      rw [Nat.pow_succ] at h
      obtain ⟨a1, a2⟩ := TV.mk_sh fuel (n / 2) (fun m => f (2 * m + 1)) (by omega)
      obtain ⟨b1, b2⟩ := TV.mk_sh fuel ((n - 1) / 2) (fun m => f (2 * m + 2)) (by omega)
      refine ⟨⟨by omega, a1, b1⟩, fun k => ?_⟩
      cases k with
      | zero => rw [if_pos (by omega)]; rfl
      | succ k =>
        rw [TV.get_succ]
        have d1 : Nat.div n 2 = n / 2 := rfl
        have d2 : Nat.div (n - 1) 2 = (n - 1) / 2 := rfl
        rw [d1, d2]
        by_cases hk : k % 2 = 0
        · rw [if_pos hk, a2]
          have e2 : 2 * (k / 2) + 1 = k + 1 := by omega
          rw [e2]
          by_cases h1 : k + 1 < n
          · rw [if_pos h1, if_pos (by omega)]
          · rw [if_neg h1, if_neg (by omega)]
        · rw [if_neg hk, b2]
          have e2 : 2 * (k / 2) + 2 = k + 1 := by omega
          rw [e2]
          by_cases h1 : k + 1 < n
          · rw [if_pos h1, if_pos (by omega)]
          · rw [if_neg h1, if_neg (by omega)]

structure ET where
  t : TV
  n : Nat
  d : List (FuncId × List AV)
noncomputable def ET.as (e : ET) : Env := ⟨(List.range e.n).map e.t.get, e.d⟩
noncomputable def ET.putV (e : ET) (d : Nat) (v : AV) : ET := ⟨e.t.set d v, e.n, e.d⟩
noncomputable def ET.put (e : ET) (dst : Option Nat) (v : AV) : ET := Option.rec e (fun d => e.putV d v) dst
theorem ET.as_get (e : ET) (h : e.t.Sh e.n) (i : Nat) : e.as.t.getD i undefA = e.t.get i := by
  simp only [ET.as, List.getD_eq_getElem?_getD, List.getElem?_map]
  by_cases hi : i < e.n
  · rw [List.getElem?_range hi]; rfl
  · rw [List.getElem?_eq_none (by simpa using hi)]
    have key : ∀ (t : TV) (n i : Nat), t.Sh n → n ≤ i → t.get i = undefA := by
      intro t
      induction t with
      | nil => intro n i _ _; rfl
      | node l v r ihl ihr =>
        intro n i h hi
        obtain ⟨h1, h2, h3⟩ := h
        cases i with
        | zero => omega
        | succ i =>
          rw [TV.get_succ]
          split
          · exact ihl _ _ h2 (by omega)
          · exact ihr _ _ h3 (by omega)
    rw [key _ _ _ h (by omega)]; rfl
theorem ET.as_put (e : ET) (h : e.t.Sh e.n) (dst : Option Nat) (v : AV) : (e.put dst v).as = e.as.put dst v ∧ (e.put dst v).t.Sh (e.put dst v).n := by
  cases dst with
  | none => exact ⟨rfl, h⟩
  | some d =>
    refine ⟨?_, TV.set_sh d v h⟩
    show (⟨(List.range e.n).map (e.t.set d v).get, e.d⟩ : Env) = ⟨((List.range e.n).map e.t.get).set d v, e.d⟩
    congr 1
    apply List.ext_getElem?
    intro i
    rw [List.getElem?_map, List.getElem?_set]
    by_cases hi : i < e.n
    · rw [List.getElem?_range hi]
      simp only [Option.map_some, List.length_map, List.length_range, List.getElem?_map]
      rw [TV.get_set d i v h]
      by_cases hd : d = i
      · subst hd; rw [if_pos ⟨rfl, hi⟩, if_pos rfl, if_pos hi]
      · rw [if_neg (fun hh => hd hh.1.symm), if_neg hd, List.getElem?_range hi]; rfl
    · rw [List.getElem?_eq_none (by simpa using hi)]
      by_cases hd : d = i
      · subst hd; rw [if_pos rfl, if_neg (by simpa using hi)]; rfl
      · rw [if_neg hd, List.getElem?_eq_none (by simpa using hi)]; rfl

noncomputable def evT (γ : Ctx) (t : TV) (x : XO) : AV := XO.rec (fun i => t.get i) (fun v => v) (fun g => γ.gl g) x
theorem evT_eq (γ : Ctx) (e : ET) (h : e.t.Sh e.n) : evT γ e.t = XO.ev γ e.as.t := by
  funext x
  cases x with
  | tmp i => exact (e.as_get h i).symm
  | con v => rfl
  | glob g => rfl

/-! ### code -/
abbrev OutT := AX × ET × DS
noncomputable def OutT.as (x : OutT) : Out := (x.1, x.2.1.as, x.2.2)
def shO (x : OutT) : Prop := x.2.1.t.Sh x.2.1.n

noncomputable def gdW (want : Bool) (v : AV) : Option Bool := match v with
  | .bool b => some (bif want then b else !b)
  | .tuple [] => some false
  | _ => none
noncomputable def gdT (g : Option (Nat × Bool)) (t : TV) : Option Bool := Option.rec (some true) (fun p => gdW p.2 (t.get p.1)) g
theorem gdT_eq (g : Option (Nat × Bool)) (e : ET) (h : e.t.Sh e.n) : gdT g e.t = gdV g e.as.t := by
  cases g with
  | none => rfl
  | some p =>
    obtain ⟨g, w⟩ := p
    show gdW w (e.t.get g) = _
    simp only [gdV, e.as_get h]
    rfl
def ET.ok (e : ET) : Prop := e.t.Sh e.n ∧ e.n < 4096
theorem ET.put_ok {e : ET} (h : e.ok) (dst : Option Nat) (v : AV) : (e.put dst v).ok ∧ (e.put dst v).as = e.as.put dst v := by
  obtain ⟨h1, h2⟩ := e.as_put h.1 dst v
  refine ⟨⟨h2, ?_⟩, h1⟩
  cases dst with
  | none => exact h.2
  | some d => exact h.2
noncomputable def ET.only (e : ET) (fz : List Nat) : ET := ⟨TV.mk 12 e.n (fun k => bif fz.contains k then e.t.get k else .any), e.n, e.d⟩
theorem only_get (fz : List Nat) : ∀ (k : Nat) (t : List AV) (i : Nat), (Go.VS.only fz k t)[i]? = (t[i]?).map fun v => if fz.contains (k + i) = true then v else .any
  | k, [], i => by simp [Go.VS.only]
  | k, v :: t, 0 => by simp [Go.VS.only]
  | k, v :: t, i + 1 => by
    simp only [Go.VS.only, List.getElem?_cons_succ]
    rw [only_get fz (k + 1) t i, show k + 1 + i = k + (i + 1) by omega]
theorem ET.only_ok {e : ET} (h : e.ok) (fz : List Nat) : (e.only fz).ok ∧ (e.only fz).as = { e.as with t := Go.VS.only fz 0 e.as.t } := by
  obtain ⟨h1, h2⟩ := TV.mk_sh 12 e.n (fun k => bif fz.contains k then e.t.get k else .any) h.2
  refine ⟨⟨h1, h.2⟩, ?_⟩
  show (⟨(List.range e.n).map (TV.mk 12 e.n (fun k => bif fz.contains k then e.t.get k else .any)).get, e.d⟩ : Env) = ⟨Go.VS.only fz 0 ((List.range e.n).map e.t.get), e.d⟩
  congr 1
  apply List.ext_getElem?
  intro i
  rw [only_get, List.getElem?_map, List.getElem?_map]
  by_cases hi : i < e.n
  · rw [List.getElem?_range hi]
    simp only [Option.map_some, Nat.zero_add]
    rw [h2, if_pos hi]
    cases fz.contains i <;> rfl
  · rw [List.getElem?_eq_none (by simpa using hi)]; rfl

noncomputable def endT (fz : List Nat) (dst : Option Nat) (e : ET) (k : ET → DS → Option (List OutT)) (x : AEnd × DS) : Option (List OutT) := match x.1 with
  | .ret v => k (e.put dst v) x.2
  | .pan v => some [(.pan v, e.only fz, x.2)]
noncomputable def deferT (γ : Ctx) (i : II) (e : ET) : Option ET := match i.op with
  | .defer x args => match evT γ e.t x with
    | .func (.func f) first cap => some ((⟨e.t, e.n, (f, first ++ args.map (evT γ e.t) ++ cap) :: e.d⟩ : ET).put i.dst undefA)
    | _ => none
  | _ => none
noncomputable def dfT (k : ET → DS → Option (List OutT)) (s : DS) (x : Option ET) : Option (List OutT) := Option.rec none (fun e => k e s) x
/-- How an operation's way on is gone. -/
noncomputable def goT (γ : Ctx) (call : BCall) (fz : List Nat) (i : II) (k : ET → DS → Option (List OutT)) (e : ET) (s : DS) : Option (List OutT) :=
  bif Nat.blt s.n DS.max then (bif isDf i.op then dfT k s (deferT γ i e) else cat1 (endT fz i.dst e k) (bOpF call (evT γ e.t) s i.op)) else none
noncomputable def opT (γ : Ctx) (call : BCall) (fz : List Nat) (i : II) (k : ET → DS → Option (List OutT)) (e : ET) (s : DS) : Option (List OutT) :=
  Option.rec none (fun b => bif b then goT γ call fz i k e s else k (e.put i.dst undefA) s) (gdT i.gd e.t)
noncomputable def brT (l r : ET → DS → Option (List OutT)) (e : ET) (s : DS) : Option (List OutT) := match l e s, r e s with
  | some a, some b => some (a ++ b)
  | _, _ => none
noncomputable def rtT (γ : Ctx) (call : BCall) (fz : List Nat) (t : RT) : ET → DS → Option (List OutT) :=
  RT.rec (motive := fun _ => ET → DS → Option (List OutT)) (fun e s => some [(.normal, e, s)]) (fun i _ ih => opT γ call fz i ih) (fun _ _ ihl ihr => brT ihl ihr) t

/-- A run over trees is one over lists. -/
def RunR (a : Option (List OutT)) (b : Option (List Out)) : Prop := ∀ l, a = some l → b = some (l.map OutT.as) ∧ ∀ x ∈ l, x.2.1.ok
theorem RunR.none (b : Option (List Out)) : RunR none b := fun l h => by cases h
theorem RunR.one {ax : AX} {e : ET} {s : DS} (h : e.ok) : RunR (some [(ax, e, s)]) (some [(ax, e.as, s)]) := fun l hl => by
  simp only [Option.some.injEq] at hl; subst hl
  exact ⟨rfl, fun x hx => by simp at hx; subst hx; exact h⟩
theorem RunR.catE {α : Type} {f : α → Option (List OutT)} {g : α → Option (List Out)} (h : ∀ x, RunR (f x) (g x)) : ∀ l : List α, RunR (Go.VS.catE f l) (Go.VS.catE g l)
  | [], r, hr => by simp only [Go.VS.catE, Option.some.injEq] at hr; subst hr; exact ⟨rfl, fun x hx => by simp at hx⟩
  | x :: xs, r, hr => by
    simp only [Go.VS.catE] at hr ⊢
    split at hr
    · rename_i a b h1 h2
      simp only [Option.some.injEq] at hr; subst hr
      obtain ⟨k1, k2⟩ := h x a h1
      obtain ⟨k3, k4⟩ := RunR.catE h xs b h2
      rw [k1, k3]
      exact ⟨by simp, fun y hy => (List.mem_append.1 hy).elim (k2 y) (k4 y)⟩
    · cases hr
theorem RunR.cat1 {α : Type} {f : α → Option (List OutT)} {g : α → Option (List Out)} (h : ∀ x, RunR (f x) (g x)) (o : Option (List α)) : RunR (Go.VS.cat1 f o) (Go.VS.cat1 g o) := by
  cases o with
  | none => exact RunR.none _
  | some l => rw [cat1_eq, cat1_eq]; exact RunR.catE h l
theorem RunR.cat1' {f : OutT → Option (List OutT)} {g : Out → Option (List Out)} (h : ∀ x : OutT, x.2.1.ok → RunR (f x) (g x.as)) {a : Option (List OutT)} {b : Option (List Out)} (hab : RunR a b) : RunR (Go.VS.cat1 f a) (Go.VS.cat1 g b) := by
  cases a with
  | none => exact RunR.none _
  | some l =>
    obtain ⟨h1, h2⟩ := hab l rfl
    rw [h1, cat1_eq, cat1_eq]
    clear hab h1
    simp only
    induction l with
    | nil => intro r hr; simp only [Go.VS.catE, Option.some.injEq] at hr; subst hr; exact ⟨rfl, fun x hx => by simp at hx⟩
    | cons x xs ih =>
      intro r hr
      simp only [Go.VS.catE, List.map_cons] at hr ⊢
      split at hr
      · rename_i a b h1 h3
        simp only [Option.some.injEq] at hr; subst hr
        obtain ⟨k1, k2⟩ := h x (h2 x (by simp)) a h1
        obtain ⟨k3, k4⟩ := ih (fun y hy => h2 y (by simp [hy])) b h3
        rw [k1, k3]
        exact ⟨by simp, fun y hy => (List.mem_append.1 hy).elim (k2 y) (k4 y)⟩
      · cases hr

theorem rtT_ok (γ : Ctx) (call : BCall) (fz : List Nat) : ∀ (t : RT) (e : ET) (s : DS), e.ok → RunR (rtT γ call fz t e s) (bRTF γ call fz t e.as s)
  | .done, e, s, h => RunR.one h
  | .br l r, e, s, h => by
    have ihl := rtT_ok γ call fz l e s h
    have ihr := rtT_ok γ call fz r e s h
    show RunR (brT (rtT γ call fz l) (rtT γ call fz r) e s) _
    unfold brT
    simp only [bRTF]
    intro x hx
    split at hx
    · rename_i a b h1 h2
      simp only [Option.some.injEq] at hx; subst hx
      obtain ⟨k1, k2⟩ := ihl a h1
      obtain ⟨k3, k4⟩ := ihr b h2
      rw [k1, k3]
      exact ⟨by simp, fun y hy => (List.mem_append.1 hy).elim (k2 y) (k4 y)⟩
    · cases hx
  | .op i k, e, s, h => by
    have ih := fun e s h => rtT_ok γ call fz k e s h
    show RunR (opT γ call fz i (rtT γ call fz k) e s) _
    unfold opT
    simp only [bRTF]
    rw [gdT_eq i.gd e h.1]
    cases gdV i.gd e.as.t with
    | none => exact RunR.none _
    | some b =>
      cases b with
      | false =>
        show RunR (rtT γ call fz k (e.put i.dst undefA) s) (bRTF γ call fz k (e.as.put i.dst undefA) s)
        obtain ⟨h1, h2⟩ := ET.put_ok h i.dst undefA
        rw [← h2]; exact ih _ _ h1
      | true =>
        show RunR (goT γ call fz i (rtT γ call fz k) e s) _
        unfold goT
        cases Nat.blt s.n DS.max with
        | false => exact RunR.none _
        | true =>
          simp only [cond_true]
          cases hd : isDf i.op with
          | true =>
            simp only [cond_true]
            have hde : ∀ e', deferT γ i e = some e' → e'.ok ∧ deferV γ i e.as = some e'.as := fun e' he => by
              unfold deferT at he
              unfold deferV
              split at he
              · rename_i x args hop
                rw [evT_eq γ e h.1] at he
                split at he
                · rename_i f first cap hx
                  simp only [Option.some.injEq] at he; subst he
                  have h' : (⟨e.t, e.n, (f, first ++ args.map (XO.ev γ e.as.t) ++ cap) :: e.d⟩ : ET).ok := h
                  obtain ⟨h1, h2⟩ := ET.put_ok h' i.dst undefA
                  refine ⟨h1, ?_⟩
                  simp only [hop, hx]
                  rw [h2]; rfl
                · cases he
              · cases he
            cases hdt : deferT γ i e with
            | none => exact RunR.none _
            | some e' =>
              obtain ⟨h1, h2⟩ := hde e' hdt
              rw [h2]
              exact ih _ _ h1
          | false =>
            simp only [cond_false]
            rw [evT_eq γ e h.1]
            refine RunR.cat1 (fun x => ?_) _
            obtain ⟨r, s'⟩ := x
            cases r with
            | ret v =>
              show RunR (rtT γ call fz k (e.put i.dst v) s') (bRTF γ call fz k (e.as.put i.dst v) s')
              obtain ⟨h1, h2⟩ := ET.put_ok h i.dst v
              rw [← h2]; exact ih _ _ h1
            | pan v =>
              obtain ⟨h1, h2⟩ := ET.only_ok h fz
              show RunR (some [(.pan v, e.only fz, s')]) (some [(.pan v, { e.as with t := Go.VS.only fz 0 e.as.t }, s')])
              rw [← h2]; exact RunR.one h1

noncomputable def nextT (k : ET → DS → Option (List OutT)) (x : OutT) : Option (List OutT) := match x.1 with
  | .normal => k x.2.1 x.2.2
  | y => some [(y, x.2)]
noncomputable def blkT (id : Nat) (x : OutT) : OutT := match x.1 with
  | .exit j => (bif Nat.beq j id then .normal else .exit j, x.2)
  | y => (y, x.2)
noncomputable def loopT (b : ET → DS → Option (List OutT)) (n : Nat) : ET → DS → Option (List OutT) :=
  Nat.rec (motive := fun _ => ET → DS → Option (List OutT)) (fun _ _ => none) (fun _ ih e s => cat1 (nextT ih) (b e s)) n
noncomputable def seqT (a b : ET → DS → Option (List OutT)) (e : ET) (s : DS) : Option (List OutT) := cat1 (nextT b) (a e s)
noncomputable def condB (v : AV) (x y : Unit → Option (List OutT)) : Option (List OutT) := match v with
  | .bool t => bif t then x () else y ()
  | _ => none
noncomputable def condT (γ : Ctx) (c : XO) (a b : ET → DS → Option (List OutT)) (e : ET) (s : DS) : Option (List OutT) := condB (evT γ e.t c) (fun _ => a e s) (fun _ => b e s)
noncomputable def blockT (id : Nat) (b : ET → DS → Option (List OutT)) (e : ET) (s : DS) : Option (List OutT) := Option.rec none (fun l => some (List.map (blkT id) l)) (b e s)
noncomputable def icT (γ : Ctx) (call : BCall) (lf : Nat) (c : IC) : ET → DS → Option (List OutT) :=
  IC.rec (motive := fun _ => ET → DS → Option (List OutT)) (fun e s => some [(.normal, e, s)]) (fun fz t => rtT γ call fz t) (fun _ _ iha ihb => seqT iha ihb) (fun c _ _ iha ihb => condT γ c iha ihb)
    (fun id _ ih => blockT id ih) (fun _ ih => loopT ih lf) (fun id e s => some [(.exit id, e, s)]) (fun e s => some [(.ret, e, s)]) c

theorem nextT_ok {k : ET → DS → Option (List OutT)} {k' : Env → DS → Option (List Out)} (h : ∀ e s, e.ok → RunR (k e s) (k' e.as s)) (x : OutT) (hx : x.2.1.ok) : RunR (nextT k x) (nextS k' x.as) := by
  obtain ⟨ax, e, s⟩ := x
  cases ax with
  | normal => exact h e s hx
  | _ => exact RunR.one hx
theorem icT_ok (γ : Ctx) (call : BCall) (lf : Nat) : ∀ (c : IC) (e : ET) (s : DS), e.ok → RunR (icT γ call lf c e s) (bICF γ call lf c e.as s) := by
  intro c
  induction c with
  | skip => exact fun e s h => RunR.one h
  | ops fz t => exact fun e s h => rtT_ok γ call fz t e s h
  | seq a b iha ihb =>
    intro e s h
    exact RunR.cat1' (fun x hx => nextT_ok ihb x hx) (iha e s h)
  | cond c a b iha ihb =>
    intro e s h
    show RunR (condB (evT γ e.t c) (fun _ => icT γ call lf a e s) (fun _ => icT γ call lf b e s)) _
    simp only [bICF]
    rw [evT_eq γ e h.1]
    cases XO.ev γ e.as.t c <;> try exact RunR.none _
    rename_i t
    cases t with
    | true => exact iha e s h
    | false => exact ihb e s h
  | block id b ih =>
    intro e s h
    show RunR (Option.rec none (fun l => some (List.map (blkT id) l)) (icT γ call lf b e s)) ((bICF γ call lf b e.as s).map (List.map (blkV id)))
    have ih' := ih e s h
    cases hb : icT γ call lf b e s with
    | none => exact RunR.none _
    | some l =>
      obtain ⟨h1, h2⟩ := ih' l hb
      rw [h1]
      intro r hr
      have hr' : List.map (blkT id) l = r := by simpa using hr
      subst hr'
      refine ⟨?_, ?_⟩
      · simp only [Option.map_some, List.map_map]
        congr 1
        apply List.map_congr_left
        intro x _
        obtain ⟨ax, e', s'⟩ := x
        cases ax <;> rfl
      · intro x hx
        obtain ⟨y, hy, rfl⟩ := List.mem_map.1 hx
        obtain ⟨ax, e', s'⟩ := y
        have := h2 _ hy
        cases ax <;> exact this
  | loop b ih =>
    intro e s h
    show RunR (loopT (icT γ call lf b) lf e s) (bLoopF (bICF γ call lf b) lf e.as s)
    have key : ∀ n e s, e.ok → RunR (loopT (icT γ call lf b) n e s) (bLoopF (bICF γ call lf b) n e.as s) := by
      intro n
      induction n with
      | zero => intro e s _; exact RunR.none _
      | succ n ihn =>
        intro e s h
        show RunR (cat1 (nextT (loopT (icT γ call lf b) n)) (icT γ call lf b e s)) (cat1 (nextS (bLoopF (bICF γ call lf b) n)) (bICF γ call lf b e.as s))
        exact RunR.cat1' (fun x hx => nextT_ok ihn x hx) (ih e s h)
    exact key lf e s h
  | exit id => exact fun e s h => RunR.one h
  | ret => exact fun e s h => RunR.one h

/-! ### calls -/
noncomputable def resT1 (t : TV) (s : DS) (r : IRes) : Option AV := match r with
  | .tmp i => some (t.get i)
  | .cell i ag n => match t.get i with
    | .ptr l 0 => match s.at l with
      | some (.cells cs) => partA ag cs 0 n
      | _ => none
    | .iptr cs => partA ag cs 0 n
    | _ => none
theorem resT1_eq (e : ET) (h : e.t.Sh e.n) (s : DS) (r : IRes) : resT1 e.t s r = r.get e.as.t s.as := by
  cases r with
  | tmp i => simp only [resT1, IRes.get, e.as_get h]
  | cell i ag n => simp only [resT1, IRes.get, e.as_get h]; rfl
noncomputable def resTs (t : TV) (s : DS) : List IRes → Option (List AV)
  | [] => some []
  | r :: rs => match resT1 t s r, resTs t s rs with
    | some v, some vs => some (v :: vs)
    | _, _ => none
noncomputable def resT (t : TV) (s : DS) : List IRes → Option AV
  | [r] => resT1 t s r
  | rs => (resTs t s rs).map .tuple
theorem resTs_eq (e : ET) (h : e.t.Sh e.n) (s : DS) : ∀ rs, resTs e.t s rs = rs.mapM (IRes.get e.as.t s.as)
  | [] => by simp [resTs]
  | r :: rs => by
    rw [List.mapM_cons]
    simp only [resTs, resT1_eq e h, resTs_eq e h s rs]
    cases r.get e.as.t s.as with
    | none => rfl
    | some v => cases rs.mapM (IRes.get e.as.t s.as) <;> rfl
theorem resT_eq (e : ET) (h : e.t.Sh e.n) (s : DS) (rs : List IRes) : resT e.t s rs = resVal e.as.t s.as rs := by
  cases rs with
  | nil => simp only [resT, resVal, resTs_eq e h]
  | cons r rs =>
    cases rs with
    | nil => simp only [resT, resVal, resT1_eq e h]
    | cons r' rs => simp only [resT, resVal, resTs_eq e h]
noncomputable def leaveT (pd : DPrim) (res : List IRes) (t : TV) : List (FuncId × List AV) → AM → DS → Option (List (AEnd × DS)) :=
  List.rec (motive := fun _ => AM → DS → Option (List (AEnd × DS))) (fun u s => AM.rec (Option.rec none (fun v => some [(.ret v, s)]) (resT t s res)) (fun v => some [(.pan v, s)]) u)
    (fun d _ ih u s => Option.rec none (fun r => ih r.1 r.2) (pd d.1 d.2 u s))
theorem leaveT_eq (pd : DPrim) (res : List IRes) (e : ET) (h : e.t.Sh e.n) : ∀ (ds : List (FuncId × List AV)) (u : AM) (s : DS), leaveT pd res e.t ds u s = leaveB pd res e.as.t ds u s
  | [], .ret, s => by
    show (Option.rec none (fun v => some [(.ret v, s)]) (resT e.t s res) : Option (List (AEnd × DS))) = _
    rw [resT_eq e h]
    simp only [leaveB]
    cases resVal e.as.t s.as res <;> rfl
  | [], .pan v, s => rfl
  | d :: ds, u, s => by
    show (Option.rec none (fun r : AM × DS => leaveT pd res e.t ds r.1 r.2) (pd d.1 d.2 u s) : Option (List (AEnd × DS))) = _
    simp only [leaveB]
    cases pd d.1 d.2 u s with
    | none => rfl
    | some r => exact leaveT_eq pd res e h ds r.1 r.2
noncomputable def postT (pd : DPrim) (res : List IRes) (x : OutT) : Option (List (AEnd × DS)) := match x.1 with
  | .normal => leaveT pd res x.2.1.t x.2.1.d .ret x.2.2
  | .ret => leaveT pd res x.2.1.t x.2.1.d .ret x.2.2
  | .pan v => leaveT pd res x.2.1.t x.2.1.d (.pan v) x.2.2
  | .exit _ => none
theorem postT_eq (pd : DPrim) (res : List IRes) (x : OutT) (h : x.2.1.ok) : postT pd res x = bPost pd res x.as := by
  obtain ⟨ax, e, s⟩ := x
  cases ax with
  | normal => exact leaveT_eq pd res e h.1 e.d .ret s
  | ret => exact leaveT_eq pd res e h.1 e.d .ret s
  | exit id => rfl
  | pan v => exact leaveT_eq pd res e h.1 e.d (.pan v) s

noncomputable def argAt (args : List AV) (k : Nat) : AV := List.rec (motive := fun _ => Nat → AV) (fun _ => undefA) (fun a _ ih k => Nat.rec a (fun m _ => ih m) k) args k
theorem argAt_eq : ∀ (args : List AV) (k : Nat), argAt args k = args.getD k undefA
  | [], k => by simp [argAt]
  | a :: args, 0 => rfl
  | a :: args, k + 1 => by
    show argAt args k = _
    rw [argAt_eq args k]; simp
noncomputable def startT (i : IFn) (args : List AV) : ET := ⟨TV.mk 12 (max args.length i.nt) (argAt args), max args.length i.nt, []⟩
theorem startT_ok (i : IFn) (args : List AV) (h : max args.length i.nt < 4096) : (startT i args).ok ∧ (startT i args).as = startE i args := by
  obtain ⟨h1, h2⟩ := TV.mk_sh 12 (max args.length i.nt) (argAt args) h
  refine ⟨⟨h1, h⟩, ?_⟩
  show (⟨(List.range (max args.length i.nt)).map (TV.mk 12 (max args.length i.nt) (argAt args)).get, []⟩ : Env) = ⟨args ++ List.replicate (i.nt - args.length) undefA, []⟩
  congr 1
  apply List.ext_getElem?
  intro k
  rw [List.getElem?_map]
  by_cases hk : k < max args.length i.nt
  · rw [List.getElem?_range hk]
    simp only [Option.map_some]
    rw [h2, if_pos hk, argAt_eq]
    by_cases ha : k < args.length
    · rw [List.getElem?_append_left ha]; simp [List.getD_eq_getElem?_getD, ha]
    · rw [List.getElem?_append_right (by omega), List.getElem?_replicate, if_pos (by omega)]
      simp [List.getD_eq_getElem?_getD, List.getElem?_eq_none (show args.length ≤ k by omega)]
  · rw [List.getElem?_eq_none (by simpa using hk), List.getElem?_eq_none (by simp; omega)]; rfl

noncomputable def runT (γ : Ctx) (pd : DPrim) (call : BCall) (lf : Nat) (args : List AV) (s : DS) (x : Option IFn) : Option (List (AEnd × DS)) :=
  Option.rec none (fun i => bif Nat.blt (max args.length i.nt) 4096 then Option.rec none (fun l => some (mergeE l)) (cat1 (postT pd i.res) (icT γ call lf i.body (startT i args) s)) else none) x
noncomputable def atT (tb : List (Option IFn)) : Nat → Option IFn := List.rec (motive := fun _ => Nat → Option IFn) (fun _ => none) (fun x _ ih k => Nat.rec x (fun m _ => ih m) k) tb
theorem atT_eq : ∀ (tb : List (Option IFn)) (k : Nat), atT tb k = atF tb k
  | [], k => by cases k <;> rfl
  | x :: tb, 0 => rfl
  | x :: tb, k + 1 => atT_eq tb k
noncomputable def primT (x : Option (AEnd × DS)) (k : Unit → Option (List (AEnd × DS))) : Option (List (AEnd × DS)) := Option.rec (k ()) (fun r => some [r]) x
noncomputable def callT (γ : Ctx) (tb : List (Option IFn)) (pr : Prim) (pd : DPrim) (lf : Nat) (d : Nat) : BCall :=
  Nat.rec (motive := fun _ => BCall) (fun _ _ _ => none) (fun _ ih f args s => primT (pr f args s) fun _ => runT γ pd ih lf args s (atT tb f)) d

theorem callT_ok {P : Program} {γ : Ctx} {tb : List (Option IFn)} {pr : Prim} {pd : DPrim} {lf : Nat} (hm : P.follows .mixedOrders = true) (hd : γ.det = true) (ht : TbOkF P 0 tb) (hp : PrOk P γ pr) (hpd : PrDOk P γ pd) : ∀ d, BOK P γ (callT γ tb pr pd lf d) := by
  intro d
  induction d with
  | zero => intro f args s l h; cases h
  | succ d ih =>
    intro f args s l h R hR
    have h' : primT (pr f args s) (fun _ => runT γ pd (callT γ tb pr pd lf d) lf args s (atT tb f)) = some l := h
    cases hpr : pr f args s with
    | some r =>
      rw [hpr] at h'
      have hl : [r] = l := by simpa [primT] using h'
      subst hl
      exact hp f args s r hpr R (hR r (by simp))
    | none =>
      rw [hpr] at h'
      have h2 : runT γ pd (callT γ tb pr pd lf d) lf args s (atT tb f) = some l := h'
      rw [atT_eq] at h2
      cases hi : atF tb f with
      | none => rw [hi] at h2; cases h2
      | some i =>
        rw [hi] at h2
        have h3 : (bif Nat.blt (max args.length i.nt) 4096 then Option.rec none (fun l => some (mergeE l)) (cat1 (postT pd i.res) (icT γ (callT γ tb pr pd lf d) lf i.body (startT i args) s)) else none : Option (List (AEnd × DS))) = some l := h2
        cases hb : Nat.blt (max args.length i.nt) 4096 with
        | false => rw [hb] at h3; cases h3
        | true =>
          rw [hb, cond_true] at h3
          rw [Nat.blt_eq] at hb
          obtain ⟨k1, k2⟩ := startT_ok i args hb
          have hrun := icT_ok γ (callT γ tb pr pd lf d) lf i.body (startT i args) s k1
          rw [k2] at hrun
          obtain ⟨hh, ks, hc⟩ := atF_ok ht hi
          rw [Nat.zero_add] at hc
          cases hlo : icT γ (callT γ tb pr pd lf d) lf i.body (startT i args) s with
          | none => rw [hlo] at h3; cases h3
          | some lo =>
            obtain ⟨j1, j2⟩ := hrun lo hlo
            rw [bICF_eq] at j1
            rw [hlo, cat1_eq] at h3
            simp only at h3
            have hmap : ∀ lo : List OutT, (∀ x ∈ lo, x.2.1.ok) → catE (postT pd i.res) lo = catE (bPost pd i.res) (lo.map OutT.as) := by
              intro lo
              induction lo with
              | nil => intro _; rfl
              | cons x xs ihx =>
                intro hx
                simp only [catE, List.map_cons]
                rw [postT_eq pd i.res x (hx x (by simp)), ihx (fun y hy => hx y (by simp [hy]))]
            rw [hmap lo j2] at h3
            cases hle : catE (bPost pd i.res) (lo.map OutT.as) with
            | none => rw [hle] at h3; cases h3
            | some le =>
              rw [hle] at h3
              have hl : mergeE le = l := by simpa using h3
              subst hl
              exact bCallF_ok.run_ok hm hd ih hpd hc j1 hle hR
end Go.VS
