/-
  VALUE SEMANTICS, PART S. Regions, whatever order their operations come up in.
-/
import Derived.Test.YtbmnhnohahacaaaGreatDoorVsR
namespace Go.VS
open Go.RowKit
set_option linter.unusedSimpArgs false
set_option linter.unusedVariables false
set_option maxRecDepth 4000

def AAny (P : Program) (γ : Ctx) (ks : List Nat) (ops : Array Oper) (iis : List II) (Q : AX → Env → AS → Prop) : Nat → Array Bool → Env → AS → Prop
  | 0, listed, e, σ => Region.ready .any ops listed = [] ∧ Q .normal e σ
  | n + 1, listed, e, σ => (Region.ready .any ops listed = [] → Q .normal e σ) ∧
      ∀ i ∈ Region.ready .any ops listed, ∀ ii, iis[i]? = some ii → AI P γ ks ii e σ (AAny P γ ks ops iis Q n (listed.setIfInBounds i true)) Q

def stuckRT : RT := .op ⟨none, none, .panic (.con .any)⟩ .done
def brs : List RT → RT
  | [] => stuckRT
  | [t] => t
  | t :: ts => .br t (brs ts)

def unl (listed : Array Bool) (j : Nat) : Bool := !listed.getD j true
/-- It waits for number i, or for one of these. -/
def waitsFor (ops : Array Oper) (i : Nat) (B : List Nat) (j : Nat) : Bool :=
  match ops[j]? with
  | some o => o.after.any fun e => Region.binds .any e && (e.on == i || B.contains e.on)
  | none => false
def blockedN (ops : Array Oper) (listed : Array Bool) (i : Nat) : Nat → List Nat → List Nat
  | 0, B => B
  | n + 1, B => blockedN ops listed i n ((List.range ops.size).filter fun j => j != i && unl listed j && waitsFor ops i B j)

def okFirst (ks : List Nat) (ops : Array Oper) (iis : List II) (listed : Array Bool) (i : Nat) : Bool :=
  let B := blockedN ops listed i 3 []
  match iis[i]? with
  | none => false
  | some ii => ii.op.quiet && (match ii.dst with
      | some d => !ks.contains d
      | none => true) &&
    B.all (fun j => j != i && unl listed j && waitsFor ops i B j) &&
    (List.range ops.size).all fun j => j == i || !unl listed j || B.contains j || match iis[j]? with
      | some ij => apartII ii ij && (ii.op.pure || ij.op.calm)
      | none => true

def firstOf (ks : List Nat) (ops : Array Oper) (iis : List II) (listed : Array Bool) (rs : List Nat) : Option Nat :=
  match rs.find? (okFirst ks ops iis listed) with
  | some i => some i
  | none => none

def build (ks : List Nat) (ops : Array Oper) (iis : List II) : Nat → Array Bool → RT
  | 0, listed => match Region.ready .any ops listed with
    | [] => .done
    | _ => stuckRT
  | n + 1, listed => match Region.ready .any ops listed with
    | [] => .done
    | rs => match firstOf ks ops iis listed rs with
      | some i => match iis[i]? with
        | some ii => .op ii (build ks ops iis n (listed.setIfInBounds i true))
        | none => stuckRT
      | none => brs (rs.map fun i => match iis[i]? with
        | some ii => .op ii (build ks ops iis n (listed.setIfInBounds i true))
        | none => stuckRT)

def chain : List II → RT
  | [] => .done
  | i :: r => .op i (chain r)

section
variable {P : Program} {γ : Ctx} {σ : AS} {ks : List Nat} {ops : Array Oper} {iis : List II} {e : Env} {Q : AX → Env → AS → Prop}

theorem ai_mono {ii : II} {K K' : Env → AS → Prop} (h : AI P γ ks ii e σ K Q) (hk : ∀ e' σ', K e' σ' → K' e' σ') : AI P γ ks ii e σ K' Q := by
  have hrun : (match ii.op with
    | .defer x args => match XO.ev γ e.t x with
      | .func (.func f) first cap => K (({ e with d := (f, first ++ args.map (XO.ev γ e.t) ++ cap) :: e.d } : Env).put ii.dst undefA) σ
      | _ => False
    | o => AOp P γ (XO.ev γ e.t) σ (fun v σ' => K (e.put ii.dst v) σ') (fun v σ' => Q (.pan v) { e with t := only ks 0 e.t } σ') o) →
    (match ii.op with
    | .defer x args => match XO.ev γ e.t x with
      | .func (.func f) first cap => K' (({ e with d := (f, first ++ args.map (XO.ev γ e.t) ++ cap) :: e.d } : Env).put ii.dst undefA) σ
      | _ => False
    | o => AOp P γ (XO.ev γ e.t) σ (fun v σ' => K' (e.put ii.dst v) σ') (fun v σ' => Q (.pan v) { e with t := only ks 0 e.t } σ') o) := fun hr => by
    split at hr
    · split at hr
      · exact hk _ _ hr
      · exact hr.elim
    · exact aop_mono hr (fun _ _ _ h => hk _ _ h) (fun _ _ h => h)
  unfold AI at h ⊢
  simp only at h ⊢
  split at h
  · exact hrun h
  · split at h
    · split at h
      · rename_i hb; rw [if_pos hb]; exact hrun h
      · rename_i hb; rw [if_neg hb]; exact hk _ _ h
    · exact hk _ _ h
    · exact h.elim

theorem stuck_no (h : ART P γ ks Q stuckRT e σ) : False := by
  simp [stuckRT, ART, AI, AOp, XO.ev] at h

theorem brs_spec : ∀ {ts : List RT}, ART P γ ks Q (brs ts) e σ → ts ≠ [] ∧ ∀ t ∈ ts, ART P γ ks Q t e σ
  | [], h => (stuck_no h).elim
  | [t], h => ⟨by simp, fun u hu => by rw [List.mem_singleton.1 hu]; exact h⟩
  | t :: u :: ts, h => by
    obtain ⟨h1, h2⟩ := h
    refine ⟨by simp, fun v hv => ?_⟩
    rcases List.mem_cons.1 hv with rfl | hv
    · exact h1
    · exact (brs_spec h2).2 v hv

theorem not_ready_of_blocked {listed : Array Bool} {i j : Nat} {B : List Nat} (hi : listed.getD i true = false)
    (hB : ∀ b ∈ B, b ≠ i ∧ listed.getD b true = false ∧ waitsFor ops i B b = true) (hj : j ∈ B) : j ∉ Region.ready .any ops listed := fun hr => by
  obtain ⟨h1, o, ho, hall⟩ := mem_ready.1 hr
  obtain ⟨_, _, hw⟩ := hB j hj
  have hlt : ∀ {k : Nat}, listed.getD k true = false → listed.getD k false = false := fun {k} h => by
    rcases Nat.lt_or_ge k listed.size with h' | h'
    · simpa [h'] using h
    · simp [Array.getElem?_eq_none h'] at h
  simp only [waitsFor, ho] at hw
  obtain ⟨ed, hm, hb⟩ := Array.any_eq_true'.1 hw
  simp only [Bool.and_eq_true, Bool.or_eq_true, beq_iff_eq, List.contains_iff_mem] at hb
  have hl := hall ed hm hb.1
  rcases hb.2 with h | h
  · rw [h, hlt hi] at hl; cases hl
  · rw [hlt (hB _ h).2.1] at hl; cases hl

theorem any_first {i : Nat} {ii : II} {v : AV} (hi : iis[i]? = some ii) (hks : ∀ d, ii.dst = some d → ks.contains d = false) {B : List Nat} : ∀ (fuel : Nat) (listed : Array Bool) (e : Env) (σ : AS),
    (∀ b ∈ B, b ≠ i ∧ listed.getD b true = false ∧ waitsFor ops i B b = true) →
    (∀ j ij, j < ops.size → iis[j]? = some ij → j ≠ i → listed.getD j true = false → j ∉ B → apartII ii ij = true ∧ (ii.op.pure = true ∨ ij.op.calm = true)) →
    i ∈ Region.ready .any ops listed → YA γ ii v e.t σ → AAny P γ ks ops iis Q fuel (listed.setIfInBounds i true) (e.put ii.dst v) σ → AAny P γ ks ops iis Q (fuel + 1) listed e σ := by
  intro fuel
  induction fuel with
  | zero =>
    intro listed e σ hB hfree hr hy H
    refine ⟨fun h => (by rw [h] at hr; cases hr), fun j hj ij hij => ?_⟩
    by_cases hji : j = i
    · subst hji; rw [hi] at hij; cases hij; exact hy.ai H
    · have := ready_mono hj hji
      rw [H.1] at this
      cases this
  | succ fuel ih =>
    intro listed e σ hB hfree hr hy H
    refine ⟨fun h => (by rw [h] at hr; cases hr), fun j hj ij hij => ?_⟩
    by_cases hji : j = i
    · subst hji; rw [hi] at hij; cases hij; exact hy.ai H
    · have h1 := H.2 j (ready_mono hj hji) ij hij
      obtain ⟨hjun, oj, hoj, hall⟩ := mem_ready.1 hj
      have hiun := (mem_ready.1 hr).1
      have hjB : j ∉ B := fun hb => not_ready_of_blocked hiun hB hb hj
      obtain ⟨ha, hcl⟩ := hfree j ij (Array.getElem?_eq_some_iff.1 hoj).1 hij hji hjun hjB
      have h2 := ai_swap ha hcl hks hy h1
      refine ai_mono h2 fun e' σ' h3 => ih (listed.setIfInBounds j true) e' σ' ?_ ?_ (ready_mono hr (Ne.symm hji)) h3.1 ?_
      · intro b hb
        obtain ⟨b1, b2, b3⟩ := hB b hb
        exact ⟨b1, by rw [getD_set_ne true (fun e => hjB (by rw [e]; exact hb))]; exact b2, b3⟩
      · intro k ik hk1 hk2 hk3 hk4 hk5
        refine hfree k ik hk1 hk2 hk3 ?_ hk5
        by_cases hjk : j = k
        · subst hjk; exact hjun
        · rw [getD_set_ne true hjk] at hk4; exact hk4
      · rw [Array.setIfInBounds_comm _ _ hji]; exact h3.2

theorem okFirst_spec {listed : Array Bool} {i : Nat} (h : okFirst ks ops iis listed i = true) : ∃ ii B, iis[i]? = some ii ∧ ii.op.quiet = true ∧ (∀ d, ii.dst = some d → ks.contains d = false) ∧
    (∀ b ∈ B, b ≠ i ∧ listed.getD b true = false ∧ waitsFor ops i B b = true) ∧
    (∀ j ij, j < ops.size → iis[j]? = some ij → j ≠ i → listed.getD j true = false → j ∉ B → apartII ii ij = true ∧ (ii.op.pure = true ∨ ij.op.calm = true)) := by
  unfold okFirst at h
  simp only at h
  split at h
  · cases h
  · rename_i ii hii
    generalize blockedN ops listed i 3 [] = B at h
    simp only [Bool.and_eq_true] at h
    obtain ⟨⟨⟨h1, h2⟩, h3⟩, h4⟩ := h
    refine ⟨ii, B, hii, h1, fun d hd => ?_, fun b hb => ?_, fun j ij hj hij hne hun hnB => ?_⟩
    · rw [hd] at h2; simpa using h2
    · have := List.all_eq_true.1 h3 b hb
      simp only [Bool.and_eq_true, bne_iff_ne, ne_eq, unl, Bool.not_eq_true'] at this
      exact ⟨this.1.1, this.1.2, this.2⟩
    · have := List.all_eq_true.1 h4 j (List.mem_range.2 hj)
      rw [hij] at this
      simp only [unl, hun, Bool.or_eq_true, beq_iff_eq, hne, Bool.not_false, Bool.not_true, Bool.false_eq_true, List.contains_iff_mem, hnB, or_false, false_or, Bool.and_eq_true] at this
      exact this

theorem firstOf_spec {listed : Array Bool} {rs : List Nat} {i : Nat} (h : firstOf ks ops iis listed rs = some i) : i ∈ rs ∧ okFirst ks ops iis listed i = true := by
  unfold firstOf at h
  split at h
  · rename_i k hk
    simp only [Option.some.injEq] at h; subst h
    exact ⟨List.mem_of_find?_eq_some hk, List.find?_some hk⟩
  · cases h

theorem build_spec : ∀ (n : Nat) (listed : Array Bool) (e : Env) (σ : AS), ART P γ ks Q (build ks ops iis n listed) e σ → AAny P γ ks ops iis Q n listed e σ := by
  intro n
  induction n with
  | zero =>
    intro listed e σ h
    unfold build at h
    split at h
    · rename_i hr; exact ⟨hr, h⟩
    · exact (stuck_no h).elim
  | succ n ih =>
    intro listed e σ h
    unfold build at h
    split at h
    · rename_i hr; exact ⟨fun _ => h, by rw [hr]; simp⟩
    · rename_i rs hne
      split at h
      · rename_i i hf
        obtain ⟨hir, hok⟩ := firstOf_spec hf
        obtain ⟨ii, B, h1, h2, h3, h4, h5⟩ := okFirst_spec hok
        rw [h1] at h
        simp only [ART] at h
        obtain ⟨v, hy, hk⟩ := ai_YA h2 h
        exact any_first h1 h3 n listed e σ h4 h5 hir hy (ih _ _ _ hk)
      · refine ⟨fun hr => absurd hr (by simpa using hne), fun i hi ii hii => ?_⟩
        have := (brs_spec h).2 _ (List.mem_map.2 ⟨i, hi, rfl⟩)
        rw [hii] at this
        simp only [ART] at this
        exact ai_mono this fun e' σ' hk => ih _ _ _ hk
end

/-! ### in the model -/

theorem GOK.mono {γ : Ctx} {G G' : Ghost} (h : GOK γ G) (hle : G.le G') : GOK γ G' := ⟨h.1.trans hle.det.symm, h.2.1.trans hle.trk.symm, fun g => VR.mono hle _ _ (h.2.2 g)⟩

section
variable {P : Program} {γ : Ctx} {h : Hint} {ks : List Nat} {ops : Array Oper} {iis : List II} {Q : AX → Env → AS → Prop} {G0 : Ghost}

theorem any_sound (hc : ∀ (i : Nat) (o : Oper), ops[i]? = some o → ∃ ii, iis[i]? = some ii ∧ compII P h ops o = some ii) : ∀ (fuel : Nat) (listed : Array Bool) (e : Env) (σ : AS) (a : Act) (w : World) (G : Ghost),
    G0.le G → GOK γ G → WR G σ w → EnvR G e a → AAny P γ ks ops iis Q fuel listed e σ → wpAny P .any ops (QR G0 Q) fuel listed a w := by
  intro fuel
  induction fuel with
  | zero =>
    intro listed e σ a w G h0 hg hw he hA
    exact ⟨hA.1, G, .normal, e, σ, h0, hw, he, rfl, hA.2⟩
  | succ fuel ih =>
    intro listed e σ a w G h0 hg hw he hA
    refine ⟨fun hr => ⟨G, .normal, e, σ, h0, hw, he, rfl, hA.1 hr⟩, fun i hi => ?_⟩
    obtain ⟨_, o, ho, _⟩ := mem_ready.1 hi
    obtain ⟨ii, h1, h2⟩ := hc i o ho
    exact ai_sound ho h2 hg he hw (hA.2 i hi ii h1) h0 fun G' e' σ' a' w' k1 k2 k3 k4 => ih _ e' σ' a' w' G' (h0.trans k1) (hg.mono k1) k2 k3 k4

theorem chain_sound (hc : ∀ (i : Nat) (o : Oper), ops[i]? = some o → ∃ ii, iis[i]? = some ii ∧ compII P h ops o = some ii) (hl : iis.length = ops.size) : ∀ (n k : Nat) (e : Env) (σ : AS) (a : Act) (w : World) (G : Ghost),
    n + k = ops.size → G0.le G → GOK γ G → WR G σ w → EnvR G e a → ART P γ ks Q (chain (iis.drop k)) e σ → wpOps P ops (QR G0 Q) (List.range' k n) a w := by
  intro n
  induction n with
  | zero =>
    intro k e σ a w G hk h0 hg hw he hA
    rw [List.drop_eq_nil_of_le (by omega)] at hA
    exact ⟨G, .normal, e, σ, h0, hw, he, rfl, hA⟩
  | succ n ih =>
    intro k e σ a w G hk h0 hg hw he hA
    have hkl : k < iis.length := by omega
    rw [List.drop_eq_getElem_cons hkl] at hA
    simp only [chain, ART] at hA
    rw [List.range'_succ, wpOps_cons]
    have ho : ops[k]? = some ops[k] := Array.getElem?_eq_getElem (by omega)
    obtain ⟨ii, h1, h2⟩ := hc k _ ho
    rw [List.getElem?_eq_getElem hkl] at h1
    simp only [Option.some.injEq] at h1
    rw [h1] at hA
    exact ai_sound ho h2 hg he hw hA h0 fun G' e' σ' a' w' k1 k2 k3 k4 => ih _ e' σ' a' w' G' (by omega) (h0.trans k1) (hg.mono k1) k2 k3 k4
end
end Go.VS
