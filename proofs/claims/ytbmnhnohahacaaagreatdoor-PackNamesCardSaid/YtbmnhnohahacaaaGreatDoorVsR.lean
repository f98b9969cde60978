/-
  VALUE SEMANTICS, PART R. The orders of a region: what may be taken first.
-/
import Derived.Test.YtbmnhnohahacaaaGreatDoorVsQ
namespace Go.VS
open Go.RowKit
set_option linter.unusedSimpArgs false
set_option linter.unusedVariables false
set_option maxRecDepth 4000

def tmpOf : XO → Option Nat
  | .tmp t => some t
  | _ => none
def II.looks (x : II) : List Nat :=
  x.op.ios.filterMap tmpOf ++ (match x.gd with
    | some (g, _) => [g]
    | none => [])
def apartII (x y : II) : Bool :=
  (match x.dst with
    | some d => !y.looks.contains d && y.dst != some d
    | none => true) &&
  (match y.dst with
    | some d => !x.looks.contains d
    | none => true)

theorem apartII_spec {x y : II} (h : apartII x y = true) : (∀ d, x.dst = some d → d ∉ y.looks) ∧ (∀ d, x.dst = some d → y.dst ≠ some d) ∧ (∀ d, y.dst = some d → d ∉ x.looks) := by
  refine ⟨fun d hd => ?_, fun d hd => ?_, fun d hd => ?_⟩ <;> simp [apartII, hd] at h
  · exact h.1.1
  · exact h.1.2
  · exact h.2

/-- What yields its value, and does nothing else. -/
def IOp.quiet : IOp → Bool
  | .p _ | .load .. | .mapget .. | .maplen .. => true
  | _ => false
def IOp.pure : IOp → Bool
  | .p _ => true
  | _ => false

def stv (γ : Ctx) (σ : AS) (t : List AV) (v : AV) : IOp → Prop
  | .p q => pop (XO.ev γ t) q = some v
  | o => stOp (XO.ev γ t) σ o = some (v, σ)

/-- It yields this value. -/
def YA (γ : Ctx) (ii : II) (v : AV) (t : List AV) (σ : AS) : Prop :=
  ii.op.quiet = true ∧ match ii.gd with
  | none => stv γ σ t v ii.op
  | some (g, want) => match t.getD g undefA with
    | .bool b => if b = want then stv γ σ t v ii.op else v = undefA
    | .tuple [] => v = undefA
    | _ => False

section
variable {P : Program} {γ : Ctx} {σ : AS} {ks : List Nat} {e : Env} {K : Env → AS → Prop} {Q : AX → Env → AS → Prop}

theorem quiet_same {ev : XO → AV} {o : IOp} (hq : o.quiet = true) {r : AV × AS} (h : stOp ev σ o = some r) : r.2 = σ := by
  cases o <;> simp only [IOp.quiet, Bool.false_eq_true] at hq
  case p => cases h
  case load ag n x =>
    simp only [stOp] at h
    split at h
    · split at h
      · obtain ⟨v, _, hv⟩ := map_some h; rw [← hv]
      · cases h
    · obtain ⟨v, _, hv⟩ := map_some h; rw [← hv]
    · cases h
  case mapget pl ok z m k =>
    simp only [stOp] at h
    split at h
    · split at h
      · split at h
        · split at h
          · simp only [Option.some.injEq] at h; rw [← h]
          · simp only [Option.some.injEq] at h; rw [← h]
          · cases h
        · cases h
      · simp only [Option.some.injEq] at h; rw [← h]
      · cases h
    · cases h
  case maplen m =>
    simp only [stOp] at h
    split at h
    · split at h
      · simp only [Option.some.injEq] at h; rw [← h]
      · cases h
    · simp only [Option.some.injEq] at h; rw [← h]
    · cases h

theorem stv_aop {t : List AV} {v : AV} {o : IOp} (hq : o.quiet = true) (h : stv γ σ t v o) {K Kp : AV → AS → Prop} (hk : K v σ) : AOp P γ (XO.ev γ t) σ K Kp o := by
  cases o <;> simp only [IOp.quiet, Bool.false_eq_true] at hq <;> simp only [stv] at h <;> simp only [AOp, h, Opt] <;> exact hk

theorem aop_stv {t : List AV} {o : IOp} (hq : o.quiet = true) {K Kp : AV → AS → Prop} (h : AOp P γ (XO.ev γ t) σ K Kp o) : ∃ v, stv γ σ t v o ∧ K v σ := by
  have key : ∀ {o : IOp}, o.quiet = true → Opt (stOp (XO.ev γ t) σ o) (fun r => K r.1 r.2) → ∃ v, stOp (XO.ev γ t) σ o = some (v, σ) ∧ K v σ := fun {o} hq hh => by
    cases hs : stOp (XO.ev γ t) σ o with
    | none => rw [hs] at hh; exact hh.elim
    | some r =>
      rw [hs] at hh
      have := quiet_same hq hs
      obtain ⟨r1, r2⟩ := r
      simp only at this; subst this
      exact ⟨r1, rfl, hh⟩
  cases o <;> simp only [IOp.quiet, Bool.false_eq_true] at hq
  case p q =>
    simp only [AOp] at h
    cases hp : pop (XO.ev γ t) q with
    | none => rw [hp] at h; exact h.elim
    | some v => rw [hp] at h; exact ⟨v, hp, h⟩
  all_goals
    simp only [AOp] at h
    exact key rfl h

theorem not_defer {o : IOp} (hq : o.quiet = true) (x : XO) (as : List XO) : o ≠ .defer x as := by rintro rfl; cases hq

theorem YA.ai {ii : II} {v : AV} (h : YA γ ii v e.t σ) (hk : K (e.put ii.dst v) σ) : AI P γ ks ii e σ K Q := by
  obtain ⟨hq, h⟩ := h
  have hrun : stv γ σ e.t v ii.op → (match ii.op with
    | .defer x args => match XO.ev γ e.t x with
      | .func (.func f) first cap => K (({ e with d := (f, first ++ args.map (XO.ev γ e.t) ++ cap) :: e.d } : Env).put ii.dst undefA) σ
      | _ => False
    | o => AOp P γ (XO.ev γ e.t) σ (fun v σ' => K (e.put ii.dst v) σ') (fun v σ' => Q (.pan v) { e with t := only ks 0 e.t } σ') o) := fun hs => by
    split
    · rename_i x as hop; exact absurd hop (not_defer hq x as)
    · exact stv_aop hq hs hk
  unfold AI
  simp only
  cases hg : ii.gd with
  | none => rw [hg] at h; exact hrun h
  | some gw =>
    obtain ⟨g, want⟩ := gw
    rw [hg] at h
    simp only at h ⊢
    split at h
    · rename_i b hb
      rw [hb]; simp only
      split at h
      · rename_i hbw; rw [if_pos hbw]; exact hrun h
      · rename_i hbw; rw [if_neg hbw]; subst h; exact hk
    · rename_i hb; rw [hb]; subst h; exact hk
    · exact h.elim

theorem ai_YA {ii : II} (hq : ii.op.quiet = true) (h : AI P γ ks ii e σ K Q) : ∃ v, YA γ ii v e.t σ ∧ K (e.put ii.dst v) σ := by
  have hrun : (match ii.op with
    | .defer x args => match XO.ev γ e.t x with
      | .func (.func f) first cap => K (({ e with d := (f, first ++ args.map (XO.ev γ e.t) ++ cap) :: e.d } : Env).put ii.dst undefA) σ
      | _ => False
    | o => AOp P γ (XO.ev γ e.t) σ (fun v σ' => K (e.put ii.dst v) σ') (fun v σ' => Q (.pan v) { e with t := only ks 0 e.t } σ') o) → ∃ v, stv γ σ e.t v ii.op ∧ K (e.put ii.dst v) σ := fun hs => by
    split at hs
    · rename_i x as hop; exact absurd hop (not_defer hq x as)
    · exact aop_stv hq hs
  unfold AI at h
  simp only at h
  unfold YA
  cases hg : ii.gd with
  | none =>
    rw [hg] at h
    obtain ⟨v, h1, h2⟩ := hrun h
    exact ⟨v, ⟨hq, h1⟩, h2⟩
  | some gw =>
    obtain ⟨g, want⟩ := gw
    rw [hg] at h
    simp only at h ⊢
    split at h
    · rename_i b hb
      split at h
      · rename_i hbw
        obtain ⟨v, h1, h2⟩ := hrun h
        exact ⟨v, ⟨hq, by rw [hb]; simp only; rw [if_pos hbw]; exact h1⟩, h2⟩
      · rename_i hbw
        exact ⟨undefA, ⟨hq, by rw [hb]; simp only; rw [if_neg hbw]; trivial⟩, h⟩
    · rename_i hb; exact ⟨undefA, ⟨hq, by rw [hb]⟩, h⟩
    · exact h.elim

theorem ev_set {t : List AV} {d : Nat} {v : AV} {xs : List XO} (h : d ∉ xs.filterMap tmpOf) : ∀ x ∈ xs, XO.ev γ (t.set d v) x = XO.ev γ t x := fun x hx => by
  cases x with
  | tmp k =>
    have : d ≠ k := fun e => h (List.mem_filterMap.2 ⟨.tmp k, hx, by simp [tmpOf, e]⟩)
    simp only [XO.ev, List.getD_eq_getElem?_getD, List.getElem?_set_ne this]
  | con => rfl
  | glob => rfl

theorem getD_set {t : List AV} {d g : Nat} {v x : AV} (h : d ≠ g) : (t.set d v).getD g x = t.getD g x := by
  simp only [List.getD_eq_getElem?_getD, List.getElem?_set_ne h]

theorem only_set {ks : List Nat} : ∀ {k : Nat} {t : List AV} {d : Nat} {v : AV}, ks.contains (k + d) = false → only ks k (t.set d v) = only ks k t
  | k, [], d, v, h => rfl
  | k, a :: t, 0, v, h => by simp only [List.set_cons_zero, only]; rw [Nat.add_zero] at h; rw [h]; rfl
  | k, a :: t, d + 1, v, h => by
    simp only [List.set_cons_succ, only]
    rw [only_set (by rw [← h]; congr 1; omega)]

theorem put_comm {x y : Option Nat} {u v : AV} (h : ∀ d, x = some d → y ≠ some d) : (e.put x v).put y u = (e.put y u).put x v := by
  cases x with
  | none => rfl
  | some d => cases y with
    | none => rfl
    | some k =>
      have : d ≠ k := fun he => h d rfl (by rw [he])
      simp only [Env.put, List.set_comm _ _ this]

theorem stv_rsub {t : List AV} {v : AV} {σ' : AS} {o : IOp} (hq : o.quiet = true) (hs : RSub σ σ') (h : stv γ σ t v o) : stv γ σ' t v o := by
  cases o <;> simp only [IOp.quiet, Bool.false_eq_true] at hq
  case p q => exact h
  case load ag n x =>
    simp only [stv, stOp] at h ⊢
    split at h
    · rename_i l o he
      split at h
      · rename_i cs hl
        rw [hs.1 _ _ hl]
        obtain ⟨u, h1, h2⟩ := map_some h
        cases h2
        simp [h1]
      · cases h
    · obtain ⟨u, h1, h2⟩ := map_some h
      cases h2
      simp [h1]
    · cases h
  case mapget pl ok z m k =>
    simp only [stv, stOp] at h ⊢
    split at h
    · rename_i hf
      rw [if_pos hf]
      split at h
      · split at h
        · rename_i es st hl
          rw [hs.2 _ _ _ hl]
          simp only
          split at h
          · simp only [Option.some.injEq, Prod.mk.injEq] at h ⊢; exact ⟨h.1, trivial⟩
          · simp only [Option.some.injEq, Prod.mk.injEq] at h ⊢; exact ⟨h.1, trivial⟩
          · cases h
        · cases h
      · simp only [Option.some.injEq, Prod.mk.injEq] at h ⊢; exact ⟨h.1, trivial⟩
      · cases h
    · cases h
  case maplen m =>
    simp only [stv, stOp] at h ⊢
    split at h
    · split at h
      · rename_i es st hl
        rw [hs.2 _ _ _ hl]
        simp only [Option.some.injEq, Prod.mk.injEq] at h ⊢; exact ⟨h.1, trivial⟩
      · cases h
    · simp only [Option.some.injEq, Prod.mk.injEq] at h ⊢; exact ⟨h.1, trivial⟩
    · cases h

theorem stv_set {t : List AV} {v u : AV} {d : Nat} {o : IOp} (hd : d ∉ o.ios.filterMap tmpOf) (h : stv γ σ t v o) : stv γ σ (t.set d u) v o := by
  unfold stv at *
  split at h
  · rw [pop_congr (ev_set hd)]; exact h
  · rename_i o hno
    rw [stOp_congr (ev_set hd)]; exact h

theorem YA.put {ii : II} {v u : AV} {σ' : AS} {y : Option Nat} (h : YA γ ii v e.t σ) (hd : ∀ d, y = some d → d ∉ ii.looks) (hs : RSub σ σ') : YA γ ii v (e.put y u).t σ' := by
  obtain ⟨hq, h⟩ := h
  refine ⟨hq, ?_⟩
  have hst : stv γ σ e.t v ii.op → stv γ σ' (e.put y u).t v ii.op := fun h => by
    refine stv_rsub hq hs ?_
    cases y with
    | none => exact h
    | some d => exact stv_set (fun hm => hd d rfl (List.mem_append_left _ hm)) h
  cases hg : ii.gd with
  | none => rw [hg] at h; exact hst h
  | some gw =>
    obtain ⟨g, want⟩ := gw
    rw [hg] at h
    simp only at h ⊢
    have hgg : (e.put y u).t.getD g undefA = e.t.getD g undefA := by
      cases y with
      | none => rfl
      | some d => exact getD_set fun he => hd d rfl (by subst he; exact List.mem_append_right _ (by simp [hg]))
    rw [hgg]
    split at h
    · rename_i b hb
      split at h
      · rename_i hbw; rw [if_pos hbw]; exact hst h
      · rename_i hbw; rw [if_neg hbw]; exact h
    · exact h
    · exact h.elim

/-- Where one is apart from another, and yields its value: it may be taken behind it as well. -/
theorem ai_swap {ii ij : II} {v : AV} (hap : apartII ii ij = true) (hcl : ii.op.pure = true ∨ ij.op.calm = true) (hks : ∀ d, ii.dst = some d → ks.contains d = false)
    (hy : YA γ ii v e.t σ) (h : AI P γ ks ij (e.put ii.dst v) σ K Q) : AI P γ ks ij e σ (fun e' σ' => YA γ ii v e'.t σ' ∧ K (e'.put ii.dst v) σ') Q := by
  obtain ⟨h1, h2, h3⟩ := apartII_spec hap
  have hrs : ∀ σ', (ij.op.calm = true → RSub σ σ') → ∀ (e' : Env), YA γ ii v e'.t σ → ∀ u, YA γ ii v (e'.put ij.dst u).t σ' := fun σ' hs e' hy' u => by
    rcases hcl with hp | hc
    · have : YA γ ii v (e'.put ij.dst u).t σ := hy'.put h3 (.refl σ)
      obtain ⟨q1, q2⟩ := this
      refine ⟨q1, ?_⟩
      have hpp : ∀ t, stv γ σ t v ii.op → stv γ σ' t v ii.op := fun t h => by
        cases ho : ii.op <;> simp only [ho, IOp.pure, Bool.false_eq_true] at hp
        rw [ho] at h; exact h
      split at q2
      · exact hpp _ q2
      · split at q2
        · split at q2
          · rename_i hbw; rw [if_pos hbw]; exact hpp _ q2
          · rename_i hbw; rw [if_neg hbw]; exact q2
        · exact q2
        · exact q2.elim
    · exact hy'.put h3 (hs hc)
  have hev : ∀ x ∈ ij.op.ios, XO.ev γ (e.put ii.dst v).t x = XO.ev γ e.t x := by
    cases hd : ii.dst with
    | none => exact fun _ _ => rfl
    | some d => exact ev_set fun hm => h1 d hd (List.mem_append_left _ hm)
  have honly : only ks 0 (e.put ii.dst v).t = only ks 0 e.t := by
    cases hd : ii.dst with
    | none => rfl
    | some d => exact only_set (by rw [Nat.zero_add]; exact hks d hd)
  have hpd : (e.put ii.dst v).d = e.d := by cases ii.dst <;> rfl
  have hrun : (match ij.op with
      | .defer x args => match XO.ev γ (e.put ii.dst v).t x with
        | .func (.func f) first cap => K (({ (e.put ii.dst v) with d := (f, first ++ args.map (XO.ev γ (e.put ii.dst v).t) ++ cap) :: (e.put ii.dst v).d } : Env).put ij.dst undefA) σ
        | _ => False
      | o => AOp P γ (XO.ev γ (e.put ii.dst v).t) σ (fun u σ' => K ((e.put ii.dst v).put ij.dst u) σ') (fun v' σ' => Q (.pan v') { (e.put ii.dst v) with t := only ks 0 (e.put ii.dst v).t } σ') o) →
      (match ij.op with
      | .defer x args => match XO.ev γ e.t x with
        | .func (.func f) first cap => YA γ ii v (({ e with d := (f, first ++ args.map (XO.ev γ e.t) ++ cap) :: e.d } : Env).put ij.dst undefA).t σ ∧ K ((({ e with d := (f, first ++ args.map (XO.ev γ e.t) ++ cap) :: e.d } : Env).put ij.dst undefA).put ii.dst v) σ
        | _ => False
      | o => AOp P γ (XO.ev γ e.t) σ (fun u σ' => YA γ ii v (e.put ij.dst u).t σ' ∧ K ((e.put ij.dst u).put ii.dst v) σ') (fun v' σ' => Q (.pan v') { e with t := only ks 0 e.t } σ') o) := fun hr => by
    split at hr
    · rename_i x as hop
      rw [hop] at hev
      simp only [IOp.ios, List.mem_cons, forall_eq_or_imp] at hev
      rw [hev.1, List.map_congr_left hev.2, hpd] at hr
      split at hr
      · rename_i f first cap hx
        refine ⟨hrs σ (fun _ => .refl σ) ({ e with d := (f, first ++ as.map (XO.ev γ e.t) ++ cap) :: e.d } : Env) hy undefA, ?_⟩
        rw [← put_comm h2]
        have : (({ e with d := (f, first ++ as.map (XO.ev γ e.t) ++ cap) :: e.d } : Env).put ii.dst v) = { e.put ii.dst v with d := (f, first ++ as.map (XO.ev γ e.t) ++ cap) :: e.d } := by
          cases ii.dst <;> rfl
        rw [this]; exact hr
      · exact hr.elim
    · rename_i hnd
      rw [aop_congr hev, honly] at hr
      have hpe : ({ e.put ii.dst v with t := only ks 0 e.t } : Env) = { e with t := only ks 0 e.t } := by cases ii.dst <;> rfl
      rw [hpe] at hr
      refine aop_mono hr (fun u σ' hs hk => ⟨hrs σ' hs e hy u, ?_⟩) (fun _ _ h => h)
      rw [← put_comm h2]; exact hk
  unfold AI at h ⊢
  simp only at h ⊢
  cases hg : ij.gd with
  | none => rw [hg] at h; exact hrun h
  | some gw =>
    obtain ⟨g, want⟩ := gw
    rw [hg] at h
    simp only at h ⊢
    have hgg : (e.put ii.dst v).t.getD g undefA = e.t.getD g undefA := by
      cases hd : ii.dst with
      | none => rfl
      | some d => exact getD_set fun he => h1 d hd (by subst he; exact List.mem_append_right _ (by simp [hg]))
    rw [hgg] at h
    have hsk : K ((e.put ii.dst v).put ij.dst undefA) σ → YA γ ii v (e.put ij.dst undefA).t σ ∧ K ((e.put ij.dst undefA).put ii.dst v) σ := fun hk =>
      ⟨hrs σ (fun _ => .refl σ) e hy undefA, by rw [← put_comm h2]; exact hk⟩
    split at h
    · split at h
      · rename_i hbw; rw [if_pos hbw]; exact hrun h
      · rename_i hbw; rw [if_neg hbw]; exact hsk h
    · exact hsk h
    · exact h.elim
end
end Go.VS
