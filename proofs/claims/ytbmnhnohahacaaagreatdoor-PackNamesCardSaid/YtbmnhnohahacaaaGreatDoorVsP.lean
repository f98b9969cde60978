/-
  VALUE SEMANTICS, PART P. One operation with its guard, in a frame.
-/
import Derived.Test.YtbmnhnohahacaaaGreatDoorVsO
namespace Go.VS
open Go.RowKit
set_option linter.unusedSimpArgs false
set_option linter.unusedVariables false
set_option maxRecDepth 4000

def DefR (G : Ghost) : List (FuncId × List AV) → List Deferred → Prop
  | [], ds => ds = []
  | (f, as) :: rest, ds => ∃ d ds' cap, ds = d :: ds' ∧ d.target = .fn (.func f) cap ∧ VRs G as (d.args.toList ++ cap.toList) ∧ callable' f ∧ DefR G rest ds'
where callable' (_ : FuncId) : Prop := True

theorem DefR.mono {G G' : Ghost} (h : G.le G') : ∀ {ds : List (FuncId × List AV)} {es : List Deferred}, DefR G ds es → DefR G' ds es
  | [], es, k => k
  | (f, as) :: rest, es, k => by
    obtain ⟨d, ds', cap, h1, h2, h3, h4, h5⟩ := k
    exact ⟨d, ds', cap, h1, h2, VRs.mono h _ _ h3, h4, h5.mono h⟩

structure EnvR (G : Ghost) (e : Env) (a : Act) : Prop where
  t : VRs G e.t a.tmps.toList
  d : DefR G e.d a.defers

theorem EnvR.mono {G G' : Ghost} (h : G.le G') {e : Env} {a : Act} (k : EnvR G e a) : EnvR G' e a := ⟨VRs.mono h _ _ k.t, k.d.mono h⟩

theorem EnvR.put {G : Ghost} {e : Env} {a : Act} (k : EnvR G e a) (dst : Option Nat) {av : AV} {v : Value} (hv : VR G av v) : EnvR G (e.put dst av) (a.put dst v) := by
  cases dst with
  | none => exact k
  | some d => exact ⟨by simp only [Env.put, Act.put, Array.toList_setIfInBounds]; exact k.t.set d hv, k.d⟩

theorem VRs.set_any {G : Ghost} : ∀ {t : List AV} {vs : List Value} (d : Nat), VRs G t vs → VRs G (t.set d .any) vs
  | [], vs, d, h => by simpa using h
  | a :: t, vs, 0, h => by obtain ⟨v, vs', rfl, _, h2⟩ := h.cons_inv; exact VRs.cons (by simp [VR]) h2
  | a :: t, vs, d + 1, h => by obtain ⟨v, vs', rfl, h1, h2⟩ := h.cons_inv; exact VRs.cons h1 (VRs.set_any d h2)
theorem VRs.set_at {G : Ghost} : ∀ {t : List AV} {vs : List Value} {d : Nat} {a : AV} {v : Value}, VRs G t vs → vs[d]? = some v → VR G a v → VRs G (t.set d a) vs
  | [], vs, d, a, v, h, e, hv => by have := h.nil_inv; subst this; simp at e
  | b :: t, vs, 0, a, v, h, e, hv => by obtain ⟨u, vs', rfl, _, h2⟩ := h.cons_inv; simp at e; subst e; exact VRs.cons hv h2
  | b :: t, vs, d + 1, a, v, h, e, hv => by obtain ⟨u, vs', rfl, h1, h2⟩ := h.cons_inv; simp at e; exact VRs.cons h1 (VRs.set_at h2 e hv)
theorem only_ok {G : Ghost} (ks : List Nat) : ∀ (k : Nat) {t : List AV} {vs : List Value}, VRs G t vs → VRs G (only ks k t) vs
  | k, [], vs, h => by simpa [only] using h
  | k, a :: t, vs, h => by
    obtain ⟨v, vs', rfl, h1, h2⟩ := h.cons_inv
    refine VRs.cons ?_ (only_ok ks (k + 1) h2)
    split
    · exact h1
    · simp [VR]

def XR (G : Ghost) : AX → Exit → Prop
  | .normal, x => x = .normal
  | .exit id, x => x = .exit id
  | .ret, x => x = .ret
  | .pan av, x => ∃ v, x = .panic [{ v, recovered := false }] ∧ VR G av v

/-- What is to hold of an exit, said in the model. -/
def QR (G0 : Ghost) (Q : AX → Env → AS → Prop) : Exit → Act → World → Prop := fun x a w =>
  ∃ G ax e σ, G0.le G ∧ WR G σ w ∧ EnvR G e a ∧ XR G ax x ∧ Q ax e σ

theorem QR.mono {G0 G1 : Ghost} (h : G0.le G1) {Q : AX → Env → AS → Prop} {x : Exit} {a : Act} {w : World} (k : QR G1 Q x a w) : QR G0 Q x a w := by
  obtain ⟨G, ax, e, σ, h1, h2⟩ := k
  exact ⟨G, ax, e, σ, h.trans h1, h2⟩

def compGd (ops : Array Oper) : Option (Nat × Bool) → Option (Option (Nat × Bool))
  | none => some none
  | some (j, want) => match ops[j]? with
    | some o => match o.dst with
      | some d => some (some (d, want))
      | none => none
    | none => none

def storeTmp : Op → Bool
  | .store _ (.tmp _) _ => true
  | _ => false

def isDefer : Op → Bool
  | .defer _ => true
  | _ => false

def compII (P : Program) (h : Hint) (ops : Array Oper) (o : Oper) : Option II :=
  match compOp P h o, compGd ops o.guard with
  | some (.storef s n v), some g => if storeTmp o.op = true ∧ o.dst = none ∧ o.guard = none then some ⟨some s, g, .storef s n v⟩ else none
  | some (.defer f as), some g => if isDefer o.op = true then some ⟨o.dst, g, .defer f as⟩ else none
  | some io, some g => some ⟨o.dst, g, io⟩
  | _, _ => none

section
variable {P : Program} {G : Ghost} {σ : AS} {w : World} {γ : Ctx} {e : Env} {a : Act}

theorem upd_del (σ : AS) (l : Nat) (x : AObj) : Sub (σ.del l) ((σ.upd l x).del l) := fun k o hk => by
  simp only [AS.del_at, AS.upd_at] at *
  by_cases h : k = l
  · rw [if_pos h] at hk; cases hk
  · rw [if_neg h] at hk ⊢; rw [if_neg h]; exact hk

theorem storef_ok {h : Hint} {o : Oper} {s n : Nat} {v : XO} (hc : compOp P h o = some (.storef s n v)) (hso : storeTmp o.op = true) (hd : o.dst = none) (hg : GOK γ G) (he : EnvR G e a) (hw : WR G σ w)
    {K : AV → AS → Prop} {Kp : AV → AS → Prop} (hA : AOp P γ (XO.ev γ e.t) σ K Kp (.storef s n v)) {next : Act → World → Prop} {Q : Exit → Act → World → Prop}
    (hn : ∀ G' σ' w' av, G.le G' → WR G' σ' w' → EnvR G' (e.put (some s) av) a → K av σ' → next a w') : o.wp P a w next Q := by
  obtain ⟨dst, op, type, pos, after, guard⟩ := o
  simp only at hd; subst hd
  have hst : ∃ t x, op = .store t (.tmp s) x ∧ szOf P t = some n ∧ ioOf P t x = some v := by
    unfold storeTmp at hso
    split at hso
    · rename_i t s' x hop
      simp only at hop; subst hop
      simp only [compOp] at hc
      split at hc
      · rename_i h1 h2 h3
        split at hc
        · simp only [Option.some.injEq, IOp.storef.injEq] at hc
          obtain ⟨rfl, rfl, rfl⟩ := hc
          exact ⟨_, _, rfl, h1, h3⟩
        · cases hc
      · cases hc
    · cases hso
  obtain ⟨t, x, rfl, h1, h2⟩ := hst
  simp only [AOp] at hA
  split at hA
  · rename_i l hl
    split at hA
    · rename_i cs hs
      obtain ⟨k1, k2, k3, k4⟩ := hA
      have hp := ev_tmp (γ := γ) he.t s
      rw [hl] at hp
      have hv := io_ok hg he.t h2
      obtain ⟨w', r1, r2⟩ := storeAt_ok (P := P) hw hs hp hv k1 k2 h1 (by omega)
      have hsc : setCells cs 0 (XO.ev γ e.t v).cells = (XO.ev γ e.t v).cells := by
        rw [setCells_eq _ _ _ (by omega)]
        simp; omega
      rw [hsc] at r2
      obtain ⟨b, vs, el, G', j1, j2, j3, j4, j5, j6, j7⟩ := r2.freeze (l := l) (cs := (XO.ev γ e.t v).cells) (by simp [AS.upd_at])
      replace j5 := j5.sub (upd_del σ l _) (fun hd => by
        rw [j4.det] at hd
        have := hw.name_lt hd hs
        show max σ.nxt (l + 1) ≤ σ.nxt
        omega)
      unfold Oper.wp
      simp only [execOp, Sem.run_bind, r1, Result.andThen_ok, Sem.run_pure, Oper.upon_skip]
      have hput : a.put none undef = a := rfl
      rw [hput]
      refine hn G' _ w' _ j4 j5 ⟨?_, he.d.mono j4⟩ k4
      simp only [VR] at hp
      obtain ⟨b', hb', hpe⟩ := hp
      rw [j1] at hb'; cases hb'
      have hts : a.tmps.toList[s]? = some (.pointer (some ⟨b, 0, none⟩)) := by
        simp only [Act.eval] at hpe
        rw [Array.getD_eq_getD_getElem?] at hpe
        rw [Array.getElem?_toList]
        cases hh : a.tmps[s]? with
        | none => rw [hh] at hpe; simp [undef] at hpe
        | some z => rw [hh] at hpe; simpa using hpe
      refine (VRs.mono j4 _ _ he.t).set_at hts ?_
      simp only [VR]
      exact ⟨b, 0, vs, rfl, j3 |> VRs.mono j4 _ _, j6, j7⟩
    · exact hA.elim
  · exact hA.elim

theorem defer_ok {h : Hint} {o : Oper} {x : XO} {as : List XO} (hc : compOp P h o = some (.defer x as)) (hio : isDefer o.op = true) (hg : GOK γ G) (he : EnvR G e a) (hw : WR G σ w)
    {f : FuncId} {first cap : List AV} (hx : XO.ev γ e.t x = .func (.func f) first cap) {next : Act → World → Prop} {Q : Exit → Act → World → Prop}
    (hn : ∀ a', EnvR G (({ e with d := (f, first ++ as.map (XO.ev γ e.t) ++ cap) :: e.d } : Env).put o.dst undefA) a' → next a' w) : o.wp P a w next Q := by
  obtain ⟨dst, op, type, pos, after, guard⟩ := o
  unfold isDefer at hio
  split at hio
  · rename_i c hop
    simp only at hop; subst hop
    simp only [compOp] at hc
    split at hc
    · rename_i y hcal
      split at hc
      · rename_i z bs h1 h2
        simp only [Option.some.injEq, IOp.defer.injEq] at hc
        obtain ⟨rfl, rfl⟩ := hc
        have hvx := io_ok hg he.t h1
        have hvs := ios_ok (γ := γ) hg he.t h2
        rw [hx] at hvx; simp only [VR] at hvx
        obtain ⟨vf, vc, hxe, k1, k2⟩ := hvx
        unfold Oper.wp
        simp only [execOp, resolve, hcal, hxe, Deferred.ofValue, Sem.run_bind, Sem.run_pure, Result.andThen_ok]
        rw [Oper.upon_defer]
        have hE : EnvR G ({ e with d := (f, first ++ bs.map (XO.ev γ e.t) ++ cap) :: e.d } : Env) { tmps := a.tmps, defers := { target := Target.fn (Fn.func f) vc.toArray, args := vf.toArray ++ c.args.map a.eval } :: a.defers } :=
          ⟨he.t, _, _, _, rfl, rfl, by simp only [Array.toList_append, Array.toList_map]; exact (k1.append hvs).append k2, trivial, he.d⟩
        exact hn _ (hE.put _ (av := undefA) (v := undef) (by simp [undefA, undef, VR, VRs]))
      · cases hc
    · cases hc
  · cases hio

theorem wanted_ok {ops : Array Oper} {o : Oper} {g : Nat} {want : Bool} {d : Nat} {b : Bool} {o' : Oper} (hgd : o.guard = some (g, want)) (ho : ops[g]? = some o') (hd : o'.dst = some d)
    (ht : VRs G e.t a.tmps.toList) (hv : e.t.getD d undefA = .bool b) : Region.wanted o (yielded ops a.tmps) = (b == want) := by
  have h1 := ev_tmp (γ := Ctx.dflt) ht d
  simp only [XO.ev, hv, VR, Act.eval] at h1
  have h2 : a.tmps[d]? = some (.bool b) := by
    rw [Array.getD_eq_getD_getElem?] at h1
    cases hh : a.tmps[d]? with
    | none => rw [hh] at h1; simp [undef] at h1
    | some z => rw [hh] at h1; simpa using h1
  simp only [Region.wanted, hgd, yielded, ho, Option.bind_some, hd, h2]
  cases b <;> cases want <;> rfl

theorem wanted_un {ops : Array Oper} {o : Oper} {g : Nat} {want : Bool} {d : Nat} {o' : Oper} (hgd : o.guard = some (g, want)) (ho : ops[g]? = some o') (hd : o'.dst = some d)
    (ht : VRs G e.t a.tmps.toList) (hv : e.t.getD d undefA = .tuple []) : Region.wanted o (yielded ops a.tmps) = false := by
  have h1 := ev_tmp (γ := Ctx.dflt) ht d
  simp only [XO.ev, hv, VR, Act.eval] at h1
  obtain ⟨vs, h1, h3⟩ := h1
  have := h3.nil_inv
  subst this
  rw [Array.getD_eq_getD_getElem?] at h1
  simp only [Region.wanted, hgd, yielded, ho, Option.bind_some, hd]
  cases hh : a.tmps[d]? with
  | none => rfl
  | some z => rw [hh] at h1; simp at h1; subst h1; rfl

theorem compGd_spec {ops : Array Oper} {gd : Option (Nat × Bool)} {g : Option (Nat × Bool)} (h : compGd ops gd = some g) :
    (gd = none ∧ g = none) ∨ ∃ j want o d, gd = some (j, want) ∧ ops[j]? = some o ∧ o.dst = some d ∧ g = some (d, want) := by
  unfold compGd at h
  split at h
  · simp only [Option.some.injEq] at h; exact .inl ⟨rfl, h.symm⟩
  · split at h
    · rename_i o ho
      split at h
      · rename_i d hd
        simp only [Option.some.injEq] at h
        exact .inr ⟨_, _, o, d, rfl, ho, hd, h.symm⟩
      · cases h
    · cases h

theorem compII_spec {h : Hint} {ops : Array Oper} {o : Oper} {ii : II} (hc : compII P h ops o = some ii) : ∃ io g, compOp P h o = some io ∧ compGd ops o.guard = some g ∧ ii.op = io ∧ ii.gd = g ∧
    ((∃ s n v, io = .storef s n v ∧ storeTmp o.op = true ∧ o.dst = none ∧ o.guard = none ∧ ii.dst = some s) ∨ ((∀ s n v, io ≠ .storef s n v) ∧ ii.dst = o.dst ∧ (∀ f as, io = .defer f as → isDefer o.op = true))) := by
  unfold compII at hc
  split at hc
  · rename_i s n v g h1 h2
    split at hc
    · rename_i hh
      simp only [Option.some.injEq] at hc; subst hc
      exact ⟨_, g, h1, h2, rfl, rfl, .inl ⟨s, n, v, rfl, hh.1, hh.2.1, hh.2.2, rfl⟩⟩
    · cases hc
  · rename_i f as g h1 h2
    split at hc
    · rename_i hh
      simp only [Option.some.injEq] at hc; subst hc
      exact ⟨_, g, h1, h2, rfl, rfl, .inr ⟨(fun _ _ _ e => by cases e), rfl, fun _ _ _ => hh⟩⟩
    · cases hc
  · rename_i io g h1 h2 h3 h4
    simp only [Option.some.injEq] at hc; subst hc
    exact ⟨io, g, h3, h4, rfl, rfl, .inr ⟨(fun s n v e => h1 _ _ _ e), rfl, fun f as e => absurd e (h2 f as)⟩⟩
  · cases hc

theorem ai_sound {h : Hint} {ops : Array Oper} {i : Nat} {o : Oper} {ii : II} {ks : List Nat} (ho : ops[i]? = some o) (hc : compII P h ops o = some ii) (hg : GOK γ G) (he : EnvR G e a) (hw : WR G σ w)
    {K : Env → AS → Prop} {Q : AX → Env → AS → Prop} (hA : AI P γ ks ii e σ K Q) {next : Act → World → Prop} {G0 : Ghost} (h0 : G0.le G)
    (hn : ∀ G' e' σ' a' w', G.le G' → WR G' σ' w' → EnvR G' e' a' → K e' σ' → next a' w') : wpOp P ops (QR G0 Q) i next a w := by
  obtain ⟨io, g, h1, h2, h3, h4, h5⟩ := compII_spec hc
  have hund : VR G undefA undef := by simp [undefA, undef, VR, VRs]
  -- the operation is carried out
  have hrun : (match ii.op with
    | .defer x args => match XO.ev γ e.t x with
      | .func (.func f) first cap => K (({ e with d := (f, first ++ args.map (XO.ev γ e.t) ++ cap) :: e.d } : Env).put ii.dst undefA) σ
      | _ => False
    | o => AOp P γ (XO.ev γ e.t) σ (fun v σ' => K (e.put ii.dst v) σ') (fun v σ' => Q (.pan v) { e with t := only ks 0 e.t } σ') o) → o.wp P a w next (QR G0 Q) := by
    intro hr
    split at hr
    · rename_i x as hop
      rw [← h3, hop] at h1
      split at hr
      · rename_i f first cap hx
        rcases h5 with ⟨s, n, v, e1, _⟩ | ⟨_, e2, e3⟩
        · rw [← h3, hop] at e1; cases e1
        · rw [e2] at hr
          exact defer_ok h1 (e3 _ _ (h3 ▸ hop)) hg he hw hx fun a' ha' => hn G _ σ a' w (.refl G) hw ha' hr
      · exact hr.elim
    · rename_i hnd
      rcases h5 with ⟨s, n, v, e1, e2, e3, e4, e5⟩ | ⟨e1, e2, _⟩
      · rw [h3, e1] at hr
        rw [e1] at h1
        rw [e5] at hr
        exact storef_ok h1 e2 e3 hg he hw hr fun G' σ' w' av k1 k2 k3 k4 => hn G' _ σ' _ w' k1 k2 k3 k4
      · rw [h3] at hr hnd
        rw [e2] at hr
        refine aop_sound h1 (fun f as => hnd f as) e1 hg he.t hw hr (fun G' σ' w' av v k1 k2 k3 k4 => ?_) (fun G' σ' w' av v k1 k2 k3 k4 => ?_)
        · exact hn G' _ σ' _ w' k1 k2 ((he.mono k1).put _ k3) k4
        · exact ⟨G', .pan av, { e with t := only ks 0 e.t }, σ', h0.trans k1, k2, ⟨only_ok ks 0 (VRs.mono k1 _ _ he.t), he.d.mono k1⟩, ⟨v, rfl, k3⟩, k4⟩
  have hdst : ii.gd ≠ none → ii.dst = o.dst := fun hne => by
    rcases h5 with ⟨s, n, v, e1, e2, e3, e4, e5⟩ | ⟨e1, e2, _⟩
    · rw [e4] at h2; simp only [compGd, Option.some.injEq] at h2; exact absurd (h4.trans h2.symm) hne
    · exact e2
  have hskip : K (e.put ii.dst undefA) σ → ii.gd ≠ none → next (a.put o.dst undef) w := fun hk hne => by
    rw [hdst hne] at hk
    exact hn G _ σ _ w (.refl G) hw (he.put _ hund) hk
  unfold wpOp
  simp only [ho]
  unfold AI at hA
  simp only at hA
  rcases compGd_spec h2 with ⟨g1, g2⟩ | ⟨j, want, o', d, g1, g2, g3, g4⟩
  · rw [g2] at h4
    rw [h4] at hA
    simp only at hA
    rw [show Region.wanted o (yielded ops a.tmps) = true by simp [Region.wanted, g1]]
    rw [if_pos rfl]
    exact .inl (hrun hA)
  · rw [g4] at h4
    rw [h4] at hA hskip
    simp only at hA
    split at hA
    · rename_i b hb
      rw [wanted_ok g1 g2 g3 he.t hb]
      split at hA
      · rename_i hbw
        simp only [hbw, beq_self_eq_true, if_true]
        exact .inl (hrun hA)
      · rename_i hbw
        rw [if_neg (by simpa using hbw)]
        exact hskip hA (by simp)
    · rename_i hb
      rw [wanted_un g1 g2 g3 he.t hb]
      rw [if_neg (by simp)]
      exact hskip hA (by simp)
    · exact hA.elim
end
end Go.VS
