/-
  VALUE SEMANTICS, PART T. Code and functions: what is shown over abstract values holds of the model's calls.
-/
import Derived.Test.YtbmnhnohahacaaaGreatDoorVsS
import Derived.LoopN
import Derived.Scope
namespace Go.VS
open Go.RowKit
set_option linter.unusedSimpArgs false
set_option linter.unusedVariables false
set_option maxRecDepth 4000

def compIIs (P : Program) (h : Hint) (ops : Array Oper) : List Oper → Option (List II)
  | [] => some []
  | o :: r => match compII P h ops o, compIIs P h ops r with
    | some i, some is => some (i :: is)
    | _, _ => none

def compCode (P : Program) (h : Hint) (ks : List Nat) : Code → Option IC
  | .skip | .label _ => some .skip
  | .region _ ops draw => (compIIs P h ops ops.toList).map fun iis => .ops ks (if draw then build ks ops iis ops.size (Array.replicate ops.size false) else chain iis)
  | .seq a b => match compCode P h ks a, compCode P h ks b with
    | some a, some b => some (.seq a b)
    | _, _ => none
  | .cond c a b => match ioOf P 0 c, compCode P h ks a, compCode P h ks b with
    | some c, some a, some b => some (.cond c a b)
    | _, _, _ => none
  | .block id b => (compCode P h ks b).map (.block id)
  | .loop b => (compCode P h ks b).map .loop
  | .exit id => some (.exit id)
  | .scope b => compCode P h ks b
  | .ret => some .ret
  | _ => none

def compRes (P : Program) : List ResultVar → Option (List IRes)
  | [] => some []
  | .tmp t :: r => (compRes P r).map (.tmp t :: ·)
  | .cell a t :: r => match aggOf P t, szOf P t, compRes P r with
    | some ag, some n, some r' => some (.cell a ag n :: r')
    | _, _, _ => none

def compFunc (P : Program) (h : Hint) (ks : List Nat) (f : FuncId) : Option IFn :=
  match P.funcs[f]? with
  | some fn => if fn.name != "runtime.NumGoroutine" then match fn.body with
      | some c => match compCode P h ks c, compRes P fn.results.toList with
        | some b, some r => some ⟨fn.params.size, fn.ntmps, r, b⟩
        | _, _ => none
      | none => none
    else none
  | none => none

section
variable {P : Program} {γ : Ctx} {h : Hint} {ks : List Nat} {ops : Array Oper} {G0 : Ghost}

theorem compIIs_spec : ∀ {os : List Oper} {is : List II}, compIIs P h ops os = some is → is.length = os.length ∧ ∀ (i : Nat) (o : Oper), os[i]? = some o → ∃ ii, is[i]? = some ii ∧ compII P h ops o = some ii
  | [], is, hc => by simp only [compIIs, Option.some.injEq] at hc; subst hc; exact ⟨rfl, fun i o ho => by simp at ho⟩
  | x :: os, is, hc => by
    simp only [compIIs] at hc
    split at hc
    · rename_i i is' h1 h2
      simp only [Option.some.injEq] at hc; subst hc
      obtain ⟨k1, k2⟩ := compIIs_spec h2
      refine ⟨by simp [k1], fun j o ho => ?_⟩
      cases j with
      | zero => simp at ho; subst ho; exact ⟨i, rfl, h1⟩
      | succ j => simp at ho; simpa using k2 j o ho
    · cases hc

theorem QR.imp {Q Q' : AX → Env → AS → Prop} {R : Exit → Act → World → Prop} {x : Exit} {a : Act} {w : World} (k : QR G0 Q x a w) (hq : ∀ G ax e σ, G0.le G → WR G σ w → EnvR G e a → XR G ax x → Q ax e σ → R x a w) : R x a w := by
  obtain ⟨G, ax, e, σ, h1, h2, h3, h4, h5⟩ := k
  exact hq G ax e σ h1 h2 h3 h4 h5

theorem rounds_le {c : Code} {Q : Exit → Act → World → Prop} : ∀ {n m : Nat} {a : Act} {w : World}, n ≤ m → Code.rounds P c Q n a w → Code.rounds P c Q m a w
  | 0, _, _, _, _, h => h.elim
  | n + 1, 0, _, _, hle, _ => by omega
  | n + 1, m + 1, a, w, hle, h => by
    rw [rounds_succ] at h ⊢
    refine wp_mono h fun x a' w' hx => ?_
    cases x with
    | normal => exact rounds_le (by omega) hx
    | _ => exact hx

theorem VLes.ok {G : Ghost} : ∀ {as bs : List AV} {vs : List Value}, VLes as bs → VRs G as vs → VRs G bs vs
  | [], bs, vs, hl, h => by simp only [VLes] at hl; subst hl; exact h
  | a :: as, bs, vs, hl, h => by
    obtain ⟨b, bs', rfl, h1, h2⟩ := hl
    obtain ⟨v, vs', rfl, k1, k2⟩ := h.cons_inv
    exact VRs.cons (h1 G v k1) (h2.ok k2)

theorem EnvR.le {G : Ghost} {e e' : Env} {a : Act} (h : EnvR G e a) (hl : ELe e e') : EnvR G e' a := ⟨hl.1.ok h.t, by rw [hl.2]; exact h.d⟩

theorem ac_sound (hm : P.follows .mixedOrders = true) (hg : GOK γ G0) : ∀ {c : Code} {ic : IC} (hc : compCode P h ks c = some ic) {e : Env} {σ : AS} {a : Act} {w : World} {G : Ghost} {Q : AX → Env → AS → Prop},
    G0.le G → WR G σ w → EnvR G e a → AC P γ ic e σ Q → c.wp P (QR G0 Q) a w := by
  intro c
  induction c with
  | skip =>
    intro ic hc e σ a w G Q h0 hw he hA
    simp only [compCode, Option.some.injEq] at hc; subst hc
    exact wp_skip ⟨G, .normal, e, σ, h0, hw, he, rfl, hA⟩
  | label l =>
    intro ic hc e σ a w G Q h0 hw he hA
    simp only [compCode, Option.some.injEq] at hc; subst hc
    exact wp_label ⟨G, .normal, e, σ, h0, hw, he, rfl, hA⟩
  | region id ops draw =>
    intro ic hc e σ a w G Q h0 hw he hA
    simp only [compCode] at hc
    obtain ⟨iis, h1, h2⟩ := map_some hc
    subst h2
    obtain ⟨k1, k2⟩ := compIIs_spec h1
    have k3 : ∀ (i : Nat) (o : Oper), ops[i]? = some o → ∃ ii, iis[i]? = some ii ∧ compII P h ops o = some ii := fun i o ho => k2 i o (by rw [Array.getElem?_toList]; exact ho)
    simp only [AC] at hA
    cases draw with
    | false =>
      simp only [Bool.false_eq_true, if_false] at hA
      refine wp_region ?_
      rw [List.range_eq_range']
      exact chain_sound k3 (by rw [k1]; simp) ops.size 0 e σ a w G (by omega) h0 (hg.mono h0) hw he (by rw [List.drop_zero]; exact hA)
    | true =>
      simp only [if_true] at hA
      exact wp_region_any hm (any_sound k3 _ _ e σ a _ G h0 (hg.mono h0) hw.drew he (build_spec _ _ _ _ hA))
  | seq x y ihx ihy =>
    intro ic hc e σ a w G Q h0 hw he hA
    simp only [compCode] at hc
    split at hc
    · rename_i ix iy h1 h2
      simp only [Option.some.injEq] at hc; subst hc
      simp only [AC] at hA
      refine wp_seq (wp_mono (ihx h1 h0 hw he hA) fun x' a' w' hx => ?_)
      obtain ⟨G', ax, e', σ', j1, j2, j3, j4, j5⟩ := hx
      cases ax with
      | normal =>
        simp only [XR] at j4; subst j4
        exact ihy h2 j1 j2 j3 j5
      | exit id => simp only [XR] at j4; subst j4; exact ⟨G', .exit id, e', σ', j1, j2, j3, rfl, j5⟩
      | ret => simp only [XR] at j4; subst j4; exact ⟨G', .ret, e', σ', j1, j2, j3, rfl, j5⟩
      | pan v => have j4' := j4; obtain ⟨v', rfl, _⟩ := j4'; exact ⟨G', .pan v, e', σ', j1, j2, j3, j4, j5⟩
    · cases hc
  | cond c x y ihx ihy =>
    intro ic hc e σ a w G Q h0 hw he hA
    simp only [compCode] at hc
    split at hc
    · rename_i ci ix iy h1 h2 h3
      simp only [Option.some.injEq] at hc; subst hc
      simp only [AC] at hA
      have hv := io_ok (hg.mono h0) he.t h1
      split at hA
      · rename_i t ht
        rw [ht] at hv; simp only [VR] at hv
        refine wp_cond hv ?_
        cases t with
        | true => simp only [if_true] at hA ⊢; exact ihx h2 h0 hw he hA
        | false => simp only [Bool.false_eq_true, if_false] at hA ⊢; exact ihy h3 h0 hw he hA
      · exact hA.elim
    · cases hc
  | block id b ih =>
    intro ic hc e σ a w G Q h0 hw he hA
    simp only [compCode] at hc
    obtain ⟨ib, h1, h2⟩ := map_some hc
    subst h2
    simp only [AC] at hA
    refine wp_block (wp_mono (ih h1 h0 hw he hA) fun x' a' w' hx => ?_)
    obtain ⟨G', ax, e', σ', j1, j2, j3, j4, j5⟩ := hx
    cases ax with
    | normal => simp only [XR] at j4; subst j4; exact ⟨G', .normal, e', σ', j1, j2, j3, rfl, j5⟩
    | exit j =>
      simp only [XR] at j4; subst j4
      simp only [Exit.inBlock] at j5 ⊢
      by_cases hj : j = id
      · rw [if_pos hj] at j5 ⊢; exact ⟨G', .normal, e', σ', j1, j2, j3, rfl, j5⟩
      · rw [if_neg hj] at j5 ⊢; exact ⟨G', .exit j, e', σ', j1, j2, j3, rfl, j5⟩
    | ret => simp only [XR] at j4; subst j4; exact ⟨G', .ret, e', σ', j1, j2, j3, rfl, j5⟩
    | pan v => have j4' := j4; obtain ⟨v', rfl, _⟩ := j4'; exact ⟨G', .pan v, e', σ', j1, j2, j3, j4, j5⟩
  | loop b ih =>
    intro ic hc e σ a w G Q h0 hw he hA
    simp only [compCode] at hc
    obtain ⟨ib, h1, h2⟩ := map_some hc
    subst h2
    simp only [AC] at hA
    obtain ⟨I, ⟨e1, σ1, n, k1, k2, k3⟩, hI⟩ := hA
    have key : ∀ (n : Nat) (e : Env) (σ : AS) (a : Act) (w : World) (G : Ghost), G0.le G → WR G σ w → EnvR G e a → I e σ n → Code.rounds P b (QR G0 Q) (n + 1) a w := by
      intro n
      induction n using Nat.strongRecOn with
      | _ n ihn =>
        intro e σ a w G h0 hw he hi
        rw [rounds_succ]
        refine wp_mono (ih h1 h0 hw he (hI e σ n hi)) fun x' a' w' hx => ?_
        obtain ⟨G', ax, e', σ', j1, j2, j3, j4, j5⟩ := hx
        cases ax with
        | normal =>
          simp only [XR] at j4; subst j4
          obtain ⟨e2, σ2, m, i1, i2, i3, i4⟩ := j5
          exact rounds_le (show m + 1 ≤ n by omega) (ihn m i3 e2 σ2 a' w' G' j1 (j2.subD (hg.mono j1).1 i2) (j3.le i1) i4)
        | exit j => simp only [XR] at j4; subst j4; exact ⟨G', .exit j, e', σ', j1, j2, j3, rfl, j5⟩
        | ret => simp only [XR] at j4; subst j4; exact ⟨G', .ret, e', σ', j1, j2, j3, rfl, j5⟩
        | pan v => have j4' := j4; obtain ⟨v', rfl, _⟩ := j4'; exact ⟨G', .pan v, e', σ', j1, j2, j3, j4, j5⟩
    exact wp_loop_rounds (n + 1) (key n e1 σ1 a w G h0 (hw.subD (hg.mono h0).1 k2) (he.le k1) k3)
  | rangeFunc f ps as b ih1 ih2 => intro ic hc; simp [compCode] at hc
  | exit id =>
    intro ic hc e σ a w G Q h0 hw he hA
    simp only [compCode, Option.some.injEq] at hc; subst hc
    exact wp_exit ⟨G, .exit id, e, σ, h0, hw, he, rfl, hA⟩
  | scope b ih =>
    intro ic hc e σ a w G Q h0 hw he hA
    simp only [compCode] at hc
    refine wp_scope_straight (wp_mono (ih hc h0 hw he hA) fun x' a' w' hx => ?_)
    obtain ⟨G', ax, e', σ', j1, j2, j3, j4, j5⟩ := hx
    cases ax with
    | normal => simp only [XR] at j4; subst j4; exact ⟨G', .normal, e', σ', j1, j2, j3, rfl, j5⟩
    | exit j => simp only [XR] at j4; subst j4; exact ⟨G', .exit j, e', σ', j1, j2, j3, rfl, j5⟩
    | ret => simp only [XR] at j4; subst j4; exact ⟨G', .ret, e', σ', j1, j2, j3, rfl, j5⟩
    | pan v => have j4' := j4; obtain ⟨v', rfl, _⟩ := j4'; exact ⟨G', .pan v, e', σ', j1, j2, j3, j4, j5⟩
  | goto l => intro ic hc; simp [compCode] at hc
  | ret =>
    intro ic hc e σ a w G Q h0 hw he hA
    simp only [compCode, Option.some.injEq] at hc; subst hc
    exact wp_ret ⟨G, .ret, e, σ, h0, hw, he, rfl, hA⟩
  | refuse s => intro ic hc; simp [compCode] at hc

/-! ### functions -/

theorem mapM_len' {α β : Type} {f : α → Option β} : ∀ {l : List α} {r : List β}, l.mapM f = some r → l.length = r.length
  | [], r, h => by simp at h; subst h; rfl
  | x :: l, r, h => by
    rw [List.mapM_cons] at h
    cases hx : f x with
    | none => simp [hx] at h
    | some y => cases hr : l.mapM f with
      | none => simp [hx, hr] at h
      | some s => simp [hx, hr] at h; subst h; simp [mapM_len' hr]

def resOne (tmps : Array Value) : ResultVar → Sem Value
  | .tmp t => pure (tmps.getD t undef)
  | .cell a t => do loadVar t (← asAddr (tmps.getD a undef))

theorem res_ok {G : Ghost} {σ : AS} {w : World} {t : List AV} {tmps : Array Value} (hw : WR G σ w) (ht : VRs G t tmps.toList) : ∀ {rs : List ResultVar} {is : List IRes}, compRes P rs = some is →
    ∀ {as : List AV}, is.mapM (IRes.get t σ) = some as → ∃ vs, (rs.mapM (resOne tmps)).run P w = .ok vs w ∧ VRs G as vs := by
  intro rs
  induction rs with
  | nil =>
    intro is hc as ha
    simp only [compRes, Option.some.injEq] at hc; subst hc
    simp at ha; subst ha
    exact ⟨[], by simp, VRs.nil⟩
  | cons r rs ih =>
    intro is hc as ha
    have hev : ∀ i, VR G (t.getD i undefA) (tmps.getD i undef) := fun i => ev_tmp (γ := Ctx.dflt) (a := ⟨tmps, []⟩) ht i
    have go : ∀ {i : IRes} {is' : List IRes} {m : Sem Value}, compRes P rs = some is' → is = i :: is' → (∀ av, i.get t σ = some av → ∃ v, m.run P w = .ok v w ∧ VR G av v) →
        ∃ vs, (do let v ← m; let vs ← rs.mapM (resOne tmps); pure (v :: vs) : Sem (List Value)).run P w = .ok vs w ∧ VRs G as vs := by
      intro i is' m h1 h2 h3
      subst h2
      rw [List.mapM_cons] at ha
      cases hg : i.get t σ with
      | none => simp [hg] at ha
      | some av =>
        cases hr : is'.mapM (IRes.get t σ) with
        | none => simp [hg, hr] at ha
        | some r =>
          simp [hg, hr] at ha
          subst ha
          obtain ⟨v, k1, k2⟩ := h3 av hg
          obtain ⟨vs, k3, k4⟩ := ih h1 hr
          exact ⟨v :: vs, by simp only [Sem.run_bind, k1, Result.andThen_ok, k3, Sem.run_pure], VRs.cons k2 k4⟩
    rw [List.mapM_cons]
    cases r with
    | tmp k =>
      simp only [compRes] at hc
      obtain ⟨is', h1, h2⟩ := map_some hc
      refine go h1 h2.symm fun av hav => ?_
      simp only [IRes.get, Option.some.injEq] at hav; subst hav
      exact ⟨_, by simp only [resOne, Sem.run_pure], hev k⟩
    | cell k ty =>
      simp only [compRes] at hc
      split at hc
      · rename_i ag n r' h1 h2 h3
        simp only [Option.some.injEq] at hc
        refine go h3 hc.symm fun av hav => ?_
        have hk := hev k
        simp only [IRes.get] at hav
        split at hav
        · rename_i l hl
          split at hav
          · rename_i cs hs
            rw [hl] at hk; simp only [VR] at hk
            obtain ⟨b, hb, hxe⟩ := hk
            obtain ⟨b', vs, el, k1, k2, k3, k4, k5⟩ := hw.obj l _ hs
            rw [hb] at k1; cases k1
            have hrow : Row w b 0 vs := fun i v ev => by simp [World.cell?, k2, ev]
            obtain ⟨v, k6, k7⟩ := part_read (P := P) (off := 0) hrow k3 k5 hav h1 h2
            refine ⟨v, ?_, k7⟩
            simp only [resOne, hxe, asAddr, Sem.run_bind, Sem.run_pure, Result.andThen_ok]
            simpa using k6
          · cases hav
        · rename_i cs hl
          rw [hl] at hk; simp only [VR] at hk
          obtain ⟨b, o, vs, hxe, h4, h5, h6⟩ := hk
          obtain ⟨v, k6, k7⟩ := part_read (P := P) (hw.row h5) h4 h6 hav h1 h2
          refine ⟨v, ?_, k7⟩
          simp only [resOne, hxe, asAddr, Sem.run_bind, Sem.run_pure, Result.andThen_ok]
          simpa using k6
        · cases hav
      · cases hc

theorem results_ok {fn : Func} {is : List IRes} {G : Ghost} {σ : AS} {w : World} {t : List AV} {tmps : Array Value} (hw : WR G σ w) (ht : VRs G t tmps.toList) (hc : compRes P fn.results.toList = some is)
    {av : AV} (hr : resVal t σ is = some av) : ∃ v, (results fn tmps).run P w = .ok v w ∧ VR G av v := by
  have hall : ∃ as, is.mapM (IRes.get t σ) = some as ∧ ((∃ a, as = [a] ∧ av = a) ∨ (as.length ≠ 1 ∧ av = .tuple as)) := by
    unfold resVal at hr
    split at hr
    · rename_i r
      exact ⟨[av], by simp [hr], .inl ⟨av, rfl, rfl⟩⟩
    · rename_i hno
      obtain ⟨as, h1, h2⟩ := map_some hr
      refine ⟨as, h1, .inr ⟨fun hl => ?_, h2.symm⟩⟩
      have := mapM_len' h1
      rw [hl] at this
      match is, this with
      | [r], _ => exact hno r rfl
  obtain ⟨as, h1, h2⟩ := hall
  obtain ⟨vs, h3, h4⟩ := res_ok hw ht hc h1
  have he : results fn tmps = (do let vs ← fn.results.mapM (resOne tmps); pure (if h : vs.size = 1 then vs[0] else .tuple vs)) := rfl
  rw [he, Array.mapM_eq_mapM_toList]
  rcases h2 with ⟨a1, rfl, rfl⟩ | ⟨hl, rfl⟩
  · obtain ⟨v, vs', rfl, k1, k2⟩ := h4.cons_inv
    have := k2.nil_inv
    subst this
    exact ⟨v, by simp only [map_eq_pure_bind, Sem.run_bind, h3, Result.andThen_ok, Sem.run_pure]; rfl, k1⟩
  · have hvl : vs.length ≠ 1 := by rw [h4.length]; exact hl
    refine ⟨.tuple vs.toArray, by simp only [map_eq_pure_bind, Sem.run_bind, h3, Result.andThen_ok, Sem.run_pure]; rw [dif_neg (by simpa using hvl)], ?_⟩
    simp only [VR]; exact ⟨vs, rfl, h4⟩

theorem DefR.nil_inv {G : Ghost} {ds : List Deferred} (h : DefR G [] ds) : ds = [] := h

theorem MR.ne_run {G : Ghost} {u : AM} {m : FrameMode} (h : MR G u m) : m ≠ .run := by
  cases u with
  | ret => simp only [MR] at h; subst h; simp
  | pan a => obtain ⟨v, rfl, _⟩ := h; simp

theorem leaves_ok {fn : Func} {r : List IRes} {tmps : Array Value} {t : List AV} {R : AEnd → AS → Prop} (hg : GOK γ G0) (h2 : compRes P fn.results.toList = some r) : ∀ (ds : List (FuncId × List AV)) {ds' : List Deferred} {u : AM} {m : FrameMode} {σ : AS} {w : World} {G : Ghost},
    G0.le G → WR G σ w → VRs G t tmps.toList → DefR G ds ds' → MR G u m → ALeaves P γ t r R ds u σ → Leaves P fn tmps (fun e w' => ∃ G' a σ', G0.le G' ∧ WR G' σ' w' ∧ ER G' a e ∧ R a σ') ds' m w := by
  intro ds
  induction ds with
  | nil =>
    intro ds' u m σ w G h0 hw ht hd hu hA
    have := hd.nil_inv; subst this
    cases u with
    | ret =>
      simp only [MR] at hu; subst hu
      simp only [ALeaves] at hA
      cases hrv : resVal t σ r with
      | none => rw [hrv] at hA; exact hA.elim
      | some av =>
        rw [hrv] at hA
        obtain ⟨σ1, s1, s2⟩ := hA
        obtain ⟨v, k1, k2⟩ := results_ok hw ht h2 hrv
        exact ⟨v, k1, G, .ret av, σ1, h0, hw.subD (hg.mono h0).1 s1, ⟨v, rfl, k2⟩, s2⟩
    | pan a =>
      obtain ⟨v, rfl, hv⟩ := hu
      obtain ⟨σ1, s1, s2⟩ := hA
      exact ⟨G, .pan a, σ1, h0, hw.subD (hg.mono h0).1 s1, ⟨v, rfl, hv⟩, s2⟩
  | cons d ds ih =>
    intro ds' u m σ w G h0 hw ht hd hu hA
    obtain ⟨f, as⟩ := d
    obtain ⟨dd, ds'', cap, rfl, htar, hargs, _, hrest⟩ := hd
    simp only [ALeaves] at hA
    obtain ⟨hent, hc⟩ := hA G w _ m (hg.mono h0) hw hargs hu
    have harr : (dd.args.toList ++ cap.toList).toArray = dd.args ++ cap := by simp
    rw [harr] at hent hc
    refine ⟨hu.ne_run, .func f, cap, f, dd.args ++ cap, htar, by rw [htar]; exact hent, hc.mono ?_⟩
    rintro e m' w' ⟨⟨v, rfl⟩, G', u', σ', j1, j2, j3, j4⟩
    exact ih (h0.trans j1) j2 (VRs.mono j1 _ _ ht) (hrest.mono j1) j3 j4

theorem calls_sound {f : FuncId} {ifn : IFn} (hm : P.follows .mixedOrders = true) (hc : compFunc P h ks f = some ifn) {args : List AV} {σ : AS} {R : AEnd → AS → Prop}
    (hA : AFn P γ ifn args σ R) : ACall P γ f args σ R := by
  intro G w vs hg hw hv
  unfold compFunc at hc
  split at hc
  · rename_i fn hf
    split at hc
    · rename_i hname
      split at hc
      · rename_i c hb
        split at hc
        · rename_i b r h1 h2
          simp only [Option.some.injEq] at hc; subst hc
          have hname' : ¬ fn.name = "runtime.NumGoroutine" := by simpa using hname
          refine .inl ⟨by simp [callFunc, hf, hname', hb], ?_⟩
          refine calls_of_wp_defers hf hb ?_
          have hE : EnvR G { t := args ++ List.replicate (fn.ntmps - args.length) undefA, d := [] } { tmps := vs.toArray ++ Array.replicate (fn.ntmps - vs.toArray.size) undef, defers := [] } := by
            refine ⟨?_, rfl⟩
            simp only [Array.toList_append, List.toList_toArray, Array.toList_replicate, List.size_toArray]
            rw [hv.length]
            exact hv.append (VRs.replicate (by simp [undefA, undef, VR, VRs]) _)
          refine wp_mono (ac_sound hm hg h1 (.refl G) hw hE hA) fun x' a' w' hx => ?_
          obtain ⟨G', ax, e', σ', j1, j2, j3, j4, j5⟩ := hx
          cases ax with
          | normal => simp only [XR] at j4; subst j4; exact leaves_ok (u := .ret) hg h2 e'.d j1 j2 j3.t j3.d rfl j5
          | ret => simp only [XR] at j4; subst j4; exact leaves_ok (u := .ret) hg h2 e'.d j1 j2 j3.t j3.d rfl j5
          | exit j => exact j5.elim
          | pan v =>
            obtain ⟨v', rfl, hv'⟩ := j4
            exact leaves_ok (u := .pan v) hg h2 e'.d j1 j2 j3.t j3.d ⟨v', rfl, hv'⟩ j5
        · cases hc
      · cases hc
    · cases hc
  · cases hc

/-! ### a deferred function that recovers -/

/-- The code of a function that begins by asking for what was thrown: where it lays that, and its code behind. -/
def compRec (P : Program) (h : Hint) (ks : List Nat) (f : FuncId) : Option (Nat × IFn) :=
  match P.funcs[f]? with
  | some fn => if fn.name != "runtime.NumGoroutine" then match fn.body with
      | some (.seq (.region _ ⟨[{ dst := some d, op := .call { callee := .builtin .recover, args := ⟨[]⟩, argTypes := ⟨[]⟩ }, type := _, pos := _, after := _, guard := none }]⟩ false) c) => match compCode P h ks c, compRes P fn.results.toList with
        | some b, some r => some (d, ⟨fn.params.size, fn.ntmps, r, b⟩)
        | _, _ => none
      | _ => none
    else none
  | none => none

/-- What is thrown, as the deferred function is told it. -/
def AM.told : AM → AV
  | .ret => .nilIface
  | .pan v => v

/-- What must hold where such a function is left. -/
def APostD (γ : Ctx) (res : List IRes) (R : AM → AS → Prop) : AX → Env → AS → Prop
  | .normal, e, σ | .ret, e, σ => e.d = [] ∧ Opt (resVal e.t σ res) fun _ => ∃ σ1, SubD γ σ1 σ ∧ R .ret σ1
  | _, _, _ => False

theorem rec_sound {f d : Nat} {ifn : IFn} (hm : P.follows .mixedOrders = true) (hc : compRec P h ks f = some (d, ifn)) {args : List AV} {u : AM} {σ : AS} {R : AM → AS → Prop}
    (hA : AC P γ ifn.body { t := (args ++ List.replicate (ifn.nt - args.length) undefA).set d u.told, d := [] } σ (APostD γ ifn.res R)) : ACallD P γ f args u σ R := by
  intro G w vs m hg hw hv hu
  unfold compRec at hc
  split at hc
  · rename_i fn hf
    split at hc
    · rename_i hname
      split at hc
      · rename_i id d' ty pos after c hb
        split at hc
        · rename_i b r h1 h2
          simp only [Option.some.injEq, Prod.mk.injEq] at hc
          obtain ⟨rfl, rfl⟩ := hc
          have hname' : ¬ fn.name = "runtime.NumGoroutine" := by simpa using hname
          refine ⟨by simp [callFunc, hf, hname', hb], callsD_of_wpS hf hb ?_⟩
          intro c₀ cs hmode
          have hE0 : EnvR G { t := args ++ List.replicate (fn.ntmps - args.length) undefA, d := [] } { tmps := vs.toArray ++ Array.replicate (fn.ntmps - vs.toArray.size) undef, defers := [] } := by
            refine ⟨?_, rfl⟩
            simp only [Array.toList_append, List.toList_toArray, Array.toList_replicate, List.size_toArray]
            rw [hv.length]
            exact hv.append (VRs.replicate (by simp [undefA, undef, VR, VRs]) _)
          -- the rest, told what was thrown
          have rest : ∀ (v : Value) (m' : FrameMode), VR G u.told v → settle m' = .returning →
              c.wpS P (bodyPostS P fn c₀ cs fun e m' w' => (∃ v, e = .returned v) ∧ ∃ G' u' σ', G.le G' ∧ WR G' σ' w' ∧ MR G' u' (settle m') ∧ R u' σ')
                (({ tmps := vs.toArray ++ Array.replicate (fn.ntmps - vs.toArray.size) undef, defers := [] } : Act).put (some d') v) ({ c₀ with mode := m' } :: cs) w := by
            intro v m' hv' hm'
            refine wpS_of_wp (wp_mono (ac_sound hm hg h1 (.refl G) hw (hE0.put (some d') hv') hA) fun x' a' w' hx => ?_)
            obtain ⟨G', ax, e', σ', j1, j2, j3, j4, j5⟩ := hx
            have key : APostD γ r R .ret e' σ' → a'.defers = [] ∧ ∃ u', ({ c₀ with mode := m' } :: cs : List Frame) = { c₀ with mode := u' } :: cs ∧ ∃ v, (results fn a'.tmps).run P w' = .ok v w' ∧ (∃ v', Ending.returned v = .returned v') ∧
                ∃ G' u'' σ', G.le G' ∧ WR G' σ' w' ∧ MR G' u'' (settle u') ∧ R u'' σ' := by
              rintro ⟨hd, hp⟩
              have hd' := j3.d
              rw [hd] at hd'
              refine ⟨hd', m', rfl, ?_⟩
              cases hrv : resVal e'.t σ' r with
              | none => rw [hrv] at hp; exact hp.elim
              | some av =>
                rw [hrv] at hp
                obtain ⟨σ1, s1, s2⟩ := hp
                obtain ⟨v, k1, k2⟩ := results_ok j2 j3.t h2 hrv
                exact ⟨v, k1, ⟨v, rfl⟩, G', .ret, σ1, j1, j2.subD (hg.mono j1).1 s1, hm', s2⟩
            cases ax with
            | normal => simp only [XR] at j4; subst j4; exact key j5
            | ret => simp only [XR] at j4; subst j4; exact key j5
            | exit j => exact j5.elim
            | pan v => exact j5.elim
          refine wpS_seq (wpS_region ?_)
          cases u with
          | ret =>
            simp only [MR] at hu; subst hu
            have hc0 : ({ c₀ with mode := .returning } : Frame) = c₀ := by rw [← hmode]
            have := rest .nilIface .returning (by simp [AM.told, VR]) rfl
            rw [hc0] at this
            simpa [wpOpsS, List.range_succ, Region.wanted, execOp, recoverD, hmode, Exit.thenS, go_sem] using this
          | pan a =>
            obtain ⟨v, rfl, hv'⟩ := hu
            have := rest v (.panicking [{ v, recovered := true }]) (by simpa [AM.told] using hv') rfl
            simpa [wpOpsS, List.range_succ, Region.wanted, execOp, recoverD, hmode, Exit.thenS, go_sem] using this
        · cases hc
      · cases hc
    · cases hc
  · cases hc
end
end Go.VS
