/-
  VALUE SEMANTICS, PART Q. Regions: the orders in which their operations may come up, over abstract values.
-/
import Derived.Test.YtbmnhnohahacaaaGreatDoorVsP
namespace Go.VS
open Go.RowKit
set_option linter.unusedSimpArgs false
set_option linter.unusedVariables false
set_option maxRecDepth 4000

/-! ### what an operation looks at -/

def POp.ios : POp → List XO
  | .val x | .boxi x | .loadi _ _ x | .nilchk x | .un _ x | .cvi _ x | .cvid x | .cvbs x | .cvsb x | .cvis x | .ifc _ x | .faddr _ x | .fld _ _ _ x | .asrt _ _ _ x | .ext _ x
  | .lens x | .lenl x => [x]
  | .pick c a b => [c, a, b]
  | .build _ ps => ps.map (·.2.2)
  | .mks _ xs => xs
  | .bin _ x y | .eqd _ _ x y | .eqn _ _ x y | .iaddr _ x y | .iaddra _ _ x y | .idxs x y | .idxa _ _ _ x y | .min2 _ x y => [x, y]
  | .mkf _ a b => a ++ b
  | .sls x lo hi => x :: (lo.toList ++ hi.toList)
  | .slc _ x lo hi mx => x :: (lo.toList ++ hi.toList ++ mx.toList)

def IOp.ios : IOp → List XO
  | .p q => q.ios
  | .alloc _ | .mkmap => []
  | .box x | .load _ _ x | .maplen x | .rng x | .nxt x | .panic x | .mrng x | .mnxt x | .mentry x => [x]
  | .store _ x v | .mapget _ _ _ x v | .append _ _ x v | .ment _ _ x v => [x, v]
  | .storef s _ v => [.tmp s, v]
  | .mapset _ m k v | .entst m k v => [m, k, v]
  | .call _ as => as
  | .callv x as | .defer x as => x :: as

theorem pop_congr {ev ev' : XO → AV} {q : POp} (h : ∀ x ∈ q.ios, ev x = ev' x) : pop ev q = pop ev' q := by
  cases q
  case build z ps =>
    simp only [POp.ios, List.mem_map] at h
    simp only [pop]
    rw [List.map_congr_left (f := fun p : Nat × Nat × XO => (p.1, p.2.1, ev p.2.2)) (g := fun p => (p.1, p.2.1, ev' p.2.2)) fun p hp => by rw [h _ ⟨p, hp, rfl⟩]]
  case mks sz xs => simp only [POp.ios] at h; simp only [pop]; rw [List.map_congr_left h]
  case mkf fn a b =>
    simp only [POp.ios, List.mem_append] at h
    simp only [pop]
    rw [List.map_congr_left fun x hx => h x (.inl hx), List.map_congr_left fun x hx => h x (.inr hx)]
  case sls x lo hi =>
    have hx : ev x = ev' x := h _ (by simp [POp.ios])
    have h1 : lo.map ev = lo.map ev' := by cases lo with | none => rfl | some y => simp [h y (by simp [POp.ios])]
    have h2 : hi.map ev = hi.map ev' := by cases hi with | none => rfl | some y => simp [h y (by simp [POp.ios])]
    simp only [pop, hx, h1, h2]
  case slc sz x lo hi mx =>
    have hx : ev x = ev' x := h _ (by simp [POp.ios])
    have h1 : lo.map ev = lo.map ev' := by cases lo with | none => rfl | some y => simp [h y (by simp [POp.ios])]
    have h2 : hi.map ev = hi.map ev' := by cases hi with | none => rfl | some y => simp [h y (by simp [POp.ios])]
    have h3 : mx.map ev = mx.map ev' := by cases mx with | none => rfl | some y => simp [h y (by simp [POp.ios])]
    simp only [pop, hx, h1, h2, h3]
  case pick c a b =>
    have h1 : ev c = ev' c := h _ (by simp [POp.ios])
    have h2 : ev a = ev' a := h _ (by simp [POp.ios])
    have h3 : ev b = ev' b := h _ (by simp [POp.ios])
    simp only [pop, h1, h2, h3]
  case bin op x y | eqd pl ng x y | eqn nk ng x y | iaddr s x y | iaddra s l x y | idxs x y | idxa g s l x y | min2 m x y =>
    have h1 : ev x = ev' x := h _ (by simp [POp.ios])
    have h2 : ev y = ev' y := h _ (by simp [POp.ios])
    simp only [pop, h1, h2]
  all_goals
    rename_i x
    have h1 : ev x = ev' x := h _ (by simp [POp.ios])
    simp only [pop, h1]

section
variable {P : Program} {γ : Ctx} {σ : AS}

theorem stOp_congr {ev ev' : XO → AV} {o : IOp} (h : ∀ x ∈ o.ios, ev x = ev' x) : stOp ev σ o = stOp ev' σ o := by
  cases o <;> simp only [stOp] <;> simp only [IOp.ios, List.mem_cons, List.not_mem_nil, or_false, forall_eq_or_imp, forall_eq] at h <;> simp only [h]

theorem aop_congr {ev ev' : XO → AV} {o : IOp} {K Kp : AV → AS → Prop} (h : ∀ x ∈ o.ios, ev x = ev' x) : AOp P γ ev σ K Kp o = AOp P γ ev' σ K Kp o := by
  have hst := stOp_congr (σ := σ) h
  cases o
  case p q => simp only [AOp]; rw [pop_congr h]
  case alloc | mkmap => rfl
  case call f as => simp only [IOp.ios] at h; simp only [AOp]; rw [List.map_congr_left h]
  case callv x as =>
    simp only [IOp.ios, List.mem_cons, forall_eq_or_imp] at h
    simp only [AOp]; rw [List.map_congr_left h.2, h.1]
  case defer x as => rfl
  all_goals
    simp only [IOp.ios, List.mem_cons, List.not_mem_nil, or_false, forall_eq_or_imp, forall_eq] at h
    try simp only [AOp, h]
    try simp only [AOp, hst]

theorem CallsX.mono {f : FuncId} {args : Array Value} {w : World} {R R' : Ending → World → Prop} (h : CallsX P f args w R) (hr : ∀ e w', R e w' → R' e w') : CallsX P f args w R' := by
  rcases h with ⟨h1, h2⟩ | ⟨v, w', h1, h2⟩
  · exact .inl ⟨h1, h2.mono hr⟩
  · exact .inr ⟨v, w', h1, hr _ _ h2⟩

theorem ACall.mono {f : FuncId} {args : List AV} {R R' : AEnd → AS → Prop} (h : ACall P γ f args σ R) (hr : ∀ e σ', R e σ' → R' e σ') : ACall P γ f args σ R' :=
  fun G w vs h1 h2 h3 => (h G w vs h1 h2 h3).mono fun e w' ⟨G', r, σ', k1, k2, k3, k4⟩ => ⟨G', r, σ', k1, k2, k3, hr _ _ k4⟩

/-- What lies in memory is as it was; spare rooms and readers may have moved. -/
def RSub (σ σ' : AS) : Prop := (∀ l cs, σ l = some (.cells cs) → σ' l = some (.cells cs)) ∧ (∀ l es st, σ l = some (.map es st) → σ' l = some (.map es st))
theorem RSub.refl (σ : AS) : RSub σ σ := ⟨fun _ _ h => h, fun _ _ _ h => h⟩
theorem RSub.new {l : Nat} {x : AObj} (h : σ l = none) : RSub σ (σ.upd l x) := by
  constructor
  · intro k z hk; simp only [AS.upd_at]; split
    next e => subst e; rw [h] at hk; cases hk
    next => exact hk
  · intro k z z' hk; simp only [AS.upd_at]; split
    next e => subst e; rw [h] at hk; cases hk
    next => exact hk
theorem RSub.over {l : Nat} {x y : AObj} (h : σ l = some y) (h1 : ∀ cs, y ≠ .cells cs) (h2 : ∀ es st, y ≠ .map es st) : RSub σ (σ.upd l x) := by
  constructor
  · intro k z hk; simp only [AS.upd_at]; split
    next e => subst e; rw [h] at hk; cases hk; exact absurd rfl (h1 _)
    next => exact hk
  · intro k z z' hk; simp only [AS.upd_at]; split
    next e => subst e; rw [h] at hk; cases hk; exact absurd rfl (h2 _ _)
    next => exact hk

/-- Nothing that lies in memory is changed by it. -/
def IOp.calm : IOp → Bool
  | .store .. | .storef .. | .mapset .. | .ment .. | .entst .. | .call .. | .callv .. => false
  | _ => true

theorem Opt.mono {α : Type} {x : Option α} {K K' : α → Prop} (h : Opt x K) (hk : ∀ a, x = some a → K a → K' a) : Opt x K' := by
  cases x with
  | none => exact h
  | some a => exact hk a rfl h

theorem aop_mono {ev : XO → AV} {o : IOp} {K K' Kp Kp' : AV → AS → Prop} (h : AOp P γ ev σ K Kp o) (hk : ∀ v σ', (o.calm = true → RSub σ σ') → K v σ' → K' v σ') (hp : ∀ v σ', Kp v σ' → Kp' v σ') :
    AOp P γ ev σ K' Kp' o := by
  have hcall : ∀ {f : FuncId} {args : List AV}, o.calm = false → ACall P γ f args σ (fun r σ' => match r with | .ret v => K v σ' | .pan v => Kp v σ') →
      ACall P γ f args σ (fun r σ' => match r with | .ret v => K' v σ' | .pan v => Kp' v σ') := fun hc ha => ha.mono fun r σ' hr => by
    cases r with
    | ret v => exact hk _ _ (fun h => by rw [hc] at h; cases h) hr
    | pan v => exact hp _ _ hr
  cases o
  case p q => simp only [AOp] at h ⊢; exact h.mono fun a _ ha => hk _ _ (fun _ => .refl σ) ha
  case alloc zs => simp only [AOp] at h ⊢; exact fun l hl => hk _ _ (fun _ => .new hl.1) (h l hl)
  case box x => simp only [AOp] at h ⊢; exact ⟨h.1, fun l hl => hk _ _ (fun _ => .new hl.1) (h.2 l hl)⟩
  case mkmap => simp only [AOp] at h ⊢; exact fun l hl => hk _ _ (fun _ => .new hl.1) (h l hl)
  case rng x =>
    simp only [AOp] at h ⊢
    split at h
    · exact fun l hl => hk _ _ (fun _ => .new hl.1) (h l hl)
    · exact h.elim
  case storef s n v =>
    simp only [AOp] at h ⊢
    split at h
    · split at h
      · exact ⟨h.1, h.2.1, h.2.2.1, hk _ _ (fun h => by cases h) h.2.2.2⟩
      · exact h.elim
    · exact h.elim
  case append sz by' x y =>
    simp only [AOp] at h ⊢
    split at h
    · refine ⟨h.1, h.2.mono fun ys _ hy => ⟨hy.1, ?_⟩⟩
      obtain ⟨_, hy⟩ := hy
      split at hy
      · exact ⟨hy.1, hk _ _ (fun _ => .over hy.1 (by simp) (by simp)) hy.2⟩
      · exact fun t ht => hk _ _ (fun _ => .new ht.1) (hy t ht)
      · exact hy.elim
    · exact h.elim
  case call f as => simp only [AOp] at h ⊢; exact hcall rfl h
  case callv x as =>
    simp only [AOp] at h ⊢
    split at h
    · exact hcall rfl h
    · exact h.elim
  case panic x =>
    simp only [AOp] at h ⊢
    split at h
    · exact hp _ _ h
    · exact h.elim
  case defer => exact h.elim
  case store n x v => simp only [AOp] at h ⊢; exact h.mono fun a _ ha => hk _ _ (fun h => by cases h) ha
  case mapset pl m k v => simp only [AOp] at h ⊢; exact h.mono fun a _ ha => hk _ _ (fun h => by cases h) ha
  case load ag n x =>
    simp only [AOp] at h ⊢
    refine h.mono fun a ea ha => hk _ _ (fun _ => ?_) ha
    have : a.2 = σ := by
      simp only [stOp] at ea
      split at ea
      · split at ea
        · obtain ⟨v, _, hv⟩ := map_some ea; rw [← hv]
        · cases ea
      · obtain ⟨v, _, hv⟩ := map_some ea; rw [← hv]
      · cases ea
    rw [this]; exact .refl σ
  case mapget pl ok z m k =>
    simp only [AOp] at h ⊢
    refine h.mono fun a ea ha => hk _ _ (fun _ => ?_) ha
    have : a.2 = σ := by
      simp only [stOp] at ea
      split at ea
      · split at ea
        · split at ea
          · split at ea
            · simp only [Option.some.injEq] at ea; rw [← ea]
            · simp only [Option.some.injEq] at ea; rw [← ea]
            · cases ea
          · cases ea
        · simp only [Option.some.injEq] at ea; rw [← ea]
        · cases ea
      · cases ea
    rw [this]; exact .refl σ
  case entst m s v => simp only [AOp] at h ⊢; exact h.mono fun a _ ha => hk _ _ (fun h => by cases h) ha
  case ment pl z m k =>
    simp only [AOp] at h ⊢
    obtain ⟨h0, h⟩ := h
    refine ⟨h0, ?_⟩
    split at h
    · split at h
      · exact h.mono fun a _ ha => hk _ _ (fun h => by cases h) ha
      · exact h.elim
    · exact h.elim
  case mrng m =>
    simp only [AOp] at h ⊢
    split at h
    · split at h
      · exact fun it hi => hk _ _ (fun _ => .new hi.1) (h it hi)
      · exact h.elim
    · exact fun it hi => hk _ _ (fun _ => .new hi.1) (h it hi)
    · exact h.elim
  case mnxt x =>
    simp only [AOp] at h ⊢
    split at h
    · split at h
      · exact hk _ _ (fun _ => .refl σ) h
      · rename_i hs
        split at h
        · obtain ⟨e1, e2, e3, e4, e5⟩ := h
          exact ⟨e1, e2, e3, fun hh => hk _ _ (fun _ => .refl σ) (e4 hh), fun i b e j1 j2 j3 => hk _ _ (fun _ => .over hs (by simp) (by simp)) (e5 i b e j1 j2 j3)⟩
        · exact h.elim
      · exact h.elim
    · exact h.elim
  case mentry x =>
    simp only [AOp] at h ⊢
    refine h.mono fun a ea ha => hk _ _ (fun _ => ?_) ha
    have : a.2 = σ := by
      simp only [stOp] at ea
      split at ea
      · split at ea
        · split at ea
          · split at ea
            · split at ea
              · obtain ⟨v, _, hv⟩ := map_some ea; rw [← hv]
              · cases ea
            · cases ea
          · cases ea
        · cases ea
      · cases ea
    rw [this]; exact .refl σ
  case maplen m =>
    simp only [AOp] at h ⊢
    refine h.mono fun a ea ha => hk _ _ (fun _ => ?_) ha
    have : a.2 = σ := by
      simp only [stOp] at ea
      split at ea
      · split at ea
        · simp only [Option.some.injEq] at ea; rw [← ea]
        · cases ea
      · simp only [Option.some.injEq] at ea; rw [← ea]
      · cases ea
    rw [this]; exact .refl σ
  case nxt x =>
    simp only [AOp] at h ⊢
    refine h.mono fun a ea ha => hk _ _ (fun _ => ?_) ha
    simp only [stOp] at ea
    split at ea
    · split at ea
      · rename_i hs
        split at ea
        · simp only [Option.some.injEq] at ea; rw [← ea]; exact .over hs (by simp) (by simp)
        · simp only [Option.some.injEq] at ea; rw [← ea]; exact .refl σ
      · cases ea
    · cases ea
end
end Go.VS
