/-
  VALUE SEMANTICS, PART C. How a world that stands in the relation is grown: new frozen rows, new places, draws; a place that is written; a place that is frozen.
-/
import Derived.Test.YtbmnhnohahacaaaGreatDoorVsB
namespace Go.VS
open Go.RowKit

theorem VR.any_iff {G : Ghost} {v : Value} : VR G .any v := by simp [VR]

theorem EntR.mono {G G' : Ghost} (h : G.le G') : ∀ {es : List (AV × AV)} {ms : List MapEntry}, EntR G es ms → EntR G' es ms
  | [], ms, k => k
  | (a, b) :: es, ms, k => by
    obtain ⟨m, ms', rfl, h1, h2, h3⟩ := k
    exact ⟨m, ms', rfl, VR.mono h _ _ h1, VR.mono h _ _ h2, EntR.mono h h3⟩

section
variable {G : Ghost} {σ : AS} {w : World}

theorem cell_lt {w : World} {b o : Nat} {v : Value} (h : w.cell? ⟨b, o, none⟩ = some v) : b < w.heap.size := World.block_lt_of_cell? w ⟨b, o, none⟩ h

theorem WR.F_lt (h : WR G σ w) {b o : Nat} {v : Value} (hf : G.F b o = some v) : b < w.heap.size := cell_lt (h.frz _ _ _ hf)

theorem WR.F_none (h : WR G σ w) {b : Nat} (hb : w.heap.size ≤ b) (o : Nat) : G.F b o = none := by
  cases hf : G.F b o with
  | none => rfl
  | some v => have := h.F_lt hf; omega

theorem WR.fresh (h : WR G σ w) : ∃ l, (σ l = none ∧ (G.det = true → l = σ.nxt)) ∧ G.ρ l = none ∧ ∀ g, G.T l g = none := by
  have key : ∀ N, (G.ρ N = none ∧ ∀ g, G.T N g = none) → σ N = none := fun N hN => by
   cases hs : σ N with
   | none => rfl
   | some x =>
    have ho := h.obj _ _ hs
    obtain ⟨h1, h2⟩ := hN
    cases x with
    | cells cs => obtain ⟨b, vs, e, h3, _⟩ := ho; rw [h1] at h3; cases h3
    | spare g => obtain ⟨_, b, s, n, h3, _⟩ := ho; rw [h2 g] at h3; cases h3
    | map es st => obtain ⟨b, vs, h3, _⟩ := ho; rw [h1] at h3; cases h3
    | iter s p => obtain ⟨b, h3, _⟩ := ho; rw [h1] at h3; cases h3
    | miter m s1 s2 s3 => obtain ⟨b, r, h3, _⟩ := ho; rw [h1] at h3; cases h3
  cases hd : G.det with
  | true =>
    have hN := h.nx hd σ.nxt (Nat.le_refl _)
    exact ⟨σ.nxt, ⟨key _ hN, fun _ => rfl⟩, hN⟩
  | false =>
    obtain ⟨N, hN⟩ := h.fin
    exact ⟨N, ⟨key _ (hN N (Nat.le_refl _)), fun h => by cases h⟩, hN N (Nat.le_refl _)⟩

/-- An object stays where its block stays. -/
theorem ObjR.keep {G' : Ghost} {w' : World} {l : Nat} {x : AObj} (h : ObjR G w l x) (hle : G.le G') (hT : ∀ g, G'.T l g = G.T l g)
    (hb : ∀ b, G.blk l x = some b → w'.heap[b]? = w.heap[b]? ∧ ∀ o, G'.F b o = G.F b o) : ObjR G' w' l x := by
  cases x with
  | cells cs =>
    obtain ⟨b, vs, e, h1, h2, h3, h4, h5⟩ := h
    obtain ⟨k1, k2⟩ := hb b h1
    exact ⟨b, vs, e, hle.ρ _ _ h1, k1.trans h2, VRs.mono hle _ _ h3, fun o => (k2 o).trans (h4 o), h5⟩
  | spare g =>
    obtain ⟨h0, b, s, n, h1, h2⟩ := h
    refine ⟨fun g' hg => (hT g').trans (h0 g' hg), b, s, n, hle.T _ _ _ h1, fun hn => ?_⟩
    obtain ⟨vs, e, h3, h4, h5⟩ := h2 hn
    obtain ⟨m, rfl⟩ : ∃ m, n = m + 1 := ⟨n - 1, by omega⟩
    obtain ⟨k1, k2⟩ := hb b (by simp [Ghost.blk, h1])
    refine ⟨vs, e, k1.trans h3, h4, fun o ho1 ho2 => ?_⟩
    rw [k2]
    exact h5 o ho1 ho2
  | map es st =>
    obtain ⟨b, ms, h1, h2, h3, h4⟩ := h
    obtain ⟨k1, _⟩ := hb b h1
    exact ⟨b, ms, hle.ρ _ _ h1, k1.trans h2, h3.mono hle, h4⟩
  | iter s p =>
    obtain ⟨b, h1, h2⟩ := h
    obtain ⟨k1, _⟩ := hb b h1
    exact ⟨b, hle.ρ _ _ h1, k1.trans h2⟩
  | miter m s1 s2 s3 =>
    obtain ⟨b, r, h1, h2, h3⟩ := h
    obtain ⟨k1, _⟩ := hb b h1
    refine ⟨b, r, hle.ρ _ _ h1, k1.trans h2, ?_⟩
    cases m with
    | none => exact h3
    | some m => obtain ⟨bm, h4, h5⟩ := h3; exact ⟨bm, h4, hle.ρ _ _ h5⟩

theorem blk_keep {G' : Ghost} {l : Nat} {x : AObj} (h : ObjR G w l x) (hle : G.le G') (hT : ∀ g, G'.T l g = G.T l g) : G'.blk l x = G.blk l x := by
  cases x with
  | cells cs => obtain ⟨b, vs, e, h1, _⟩ := h; simp [Ghost.blk, h1, hle.ρ _ _ h1]
  | spare g => simp [Ghost.blk, hT]
  | map es st => obtain ⟨b, vs, h1, _⟩ := h; simp [Ghost.blk, h1, hle.ρ _ _ h1]
  | iter s p => obtain ⟨b, h1, _⟩ := h; simp [Ghost.blk, h1, hle.ρ _ _ h1]
  | miter m s1 s2 s3 => obtain ⟨b, r, h1, _⟩ := h; simp [Ghost.blk, h1, hle.ρ _ _ h1]

theorem WR.sub (h : WR G σ w) {σ' : AS} (hs : Sub σ' σ) (hx : G.det = true → σ.nxt ≤ σ'.nxt) : WR G σ' w :=
  ⟨h.below, h.drawn, h.n0le, h.frz, fun l x e => h.obj l x (hs _ _ e), fun l l' x x' b e e' => h.sep l l' x x' b (hs _ _ e) (hs _ _ e'),
   fun l x b e => h.own l x b (hs _ _ e), h.fin, fun hd l hl => h.nx hd l (Nat.le_trans (hx hd) hl)⟩

theorem WR.subD (h : WR G σ w) {γ : Ctx} (hg : γ.det = G.det) {σ' : AS} (hs : SubD γ σ' σ) : WR G σ' w := h.sub hs.1 fun hd => hs.2 (hg.trans hd)

/-- Names that are in use lie below the next one. -/
theorem WR.name_lt (h : WR G σ w) (hd : G.det = true) {l : Nat} {x : AObj} (hs : σ l = some x) : l < σ.nxt := by
  rcases Nat.lt_or_ge l σ.nxt with hlt | hge
  · exact hlt
  · obtain ⟨h1, h2⟩ := h.nx hd l hge
    have ho := h.obj _ _ hs
    exfalso
    cases x with
    | cells cs => obtain ⟨b, vs, e, h3, _⟩ := ho; rw [h1] at h3; cases h3
    | spare g => obtain ⟨_, b, s, n, h3, _⟩ := ho; rw [h2 g] at h3; cases h3
    | map es st => obtain ⟨b, vs, h3, _⟩ := ho; rw [h1] at h3; cases h3
    | iter s p => obtain ⟨b, h3, _⟩ := ho; rw [h1] at h3; cases h3
    | miter m s1 s2 s3 => obtain ⟨b, r, h3, _⟩ := ho; rw [h1] at h3; cases h3

/-- The world is turned outside of what is told. -/
theorem WR.world (h : WR G σ w) {w' : World} (hB : Below G.n0 w w') (hh : ∀ b, b < w.heap.size → w'.heap[b]? = w.heap[b]?) (hd : G.trk = true → w.drawn ≤ w'.drawn := by intro; first | exact Nat.le_refl _ | exact Nat.le_succ _) : WR G σ w' := by
  have hsz := hB.size
  refine ⟨h.below.trans hB, fun ht => Nat.le_trans (h.drawn ht) (hd ht), by have := h.n0le; omega, fun b o v e => ?_, fun l x e => ?_, h.sep, fun l x b e k => ?_, h.fin, h.nx⟩
  · rw [World.cell?_of_block (w := w) (a := ⟨b, o, none⟩) (hh b (h.F_lt e))]; exact h.frz _ _ _ e
  · exact (h.obj l x e).keep (.refl G) (fun _ => rfl) fun b hb => ⟨hh b (h.own l x b e hb).2, fun _ => rfl⟩
  · have := h.own l x b e k; omega

theorem WR.drew (h : WR G σ w) : WR G σ w.drew := h.world (Below.refl _ _).drew fun _ _ => rfl

theorem WR.allocAny (h : WR G σ w) (o : Obj) : WR G σ (w.alloc o) :=
  h.world ((Below.refl _ _).alloc h.n0le o) fun b hb => Below.heap_alloc w o b hb

def Ghost.addF (G : Ghost) (b : Nat) (cs : List Value) : Ghost := { G with F := fun b' o => if b' = b then cs[o]? else G.F b' o }

theorem WR.le_addF (h : WR G σ w) (cs : List Value) : G.le (G.addF w.heap.size cs) :=
  ⟨rfl, rfl, rfl, rfl, fun b o v e => by have := h.F_lt e; simp only [Ghost.addF]; rw [if_neg (by omega)]; exact e, fun _ _ e => e, fun _ _ _ e => e⟩

theorem cell_alloc_fr (w : World) (c : Array Value) (t : TypeId) (fr : Nat × Nat) (i : Nat) : (w.alloc (.cells c t fr)).cell? ⟨w.heap.size, i, none⟩ = c[i]? := by
  have : (w.alloc (.cells c t fr)).heap[w.heap.size]? = some (.cells c t fr) := by
    show (w.heap.push (.cells c t fr))[w.heap.size]? = _
    simp
  unfold World.cell?
  rw [this]
  rfl

/-- A new row that is never written. -/
theorem WR.allocF (h : WR G σ w) (cs : List Value) (e : TypeId) (fr : Nat × Nat := (0, 0)) : WR (G.addF w.heap.size cs) σ (w.alloc (.cells cs.toArray e fr)) := by
  have h' := h.allocAny (.cells cs.toArray e fr)
  have hle := h.le_addF cs
  refine ⟨h'.below, h'.drawn, h'.n0le, fun b o v ev => ?_, fun l x el => ?_, fun l l' x x' b el el' k k' => ?_, fun l x b el k => ?_, h.fin, h.nx⟩
  · by_cases hb : b = w.heap.size
    · subst hb
      simp only [Ghost.addF, if_true] at ev
      rw [cell_alloc_fr]; simpa using ev
    · simp only [Ghost.addF, hb, if_false] at ev
      exact h'.frz _ _ _ ev
  · refine (h'.obj l x el).keep hle (fun _ => rfl) fun b hb => ⟨rfl, fun o => ?_⟩
    have := (h.own l x b el hb).2
    simp only [Ghost.addF]; rw [if_neg (by omega)]
  · rw [blk_keep (h.obj l x el) hle (fun _ => rfl)] at k
    rw [blk_keep (h.obj l' x' el') hle (fun _ => rfl)] at k'
    exact h.sep l l' x x' b el el' k k'
  · rw [blk_keep (h.obj l x el) hle (fun _ => rfl)] at k
    exact h'.own l x b el k

theorem frz_addF (G : Ghost) (b : Nat) (cs : List Value) : (G.addF b cs).frz b 0 cs := fun i v e => by simp [Ghost.addF, e]

def Ghost.addρ (G : Ghost) (l b : Nat) : Ghost := { G with ρ := fun l' => if l' = l then some b else G.ρ l' }

theorem Ghost.le_addρ {l b : Nat} (hl : G.ρ l = none) : G.le (G.addρ l b) := by
  refine ⟨rfl, rfl, rfl, rfl, fun _ _ _ e => e, fun l' b' e => ?_, fun _ _ _ e => e⟩
  simp only [Ghost.addρ]
  by_cases hh : l' = l
  · subst hh; rw [hl] at e; cases e
  · rw [if_neg hh]; exact e

theorem fin_upd {ρ : Nat → Option Nat} {T : Nat → Nat → Option (Nat × Nat × Nat)} (h : ∃ N, ∀ l, N ≤ l → ρ l = none ∧ ∀ g, T l g = none) (l0 : Nat) {ρ' : Nat → Option Nat}
    {T' : Nat → Nat → Option (Nat × Nat × Nat)} (h1 : ∀ l, l ≠ l0 → ρ' l = ρ l) (h2 : ∀ l g, l ≠ l0 → T' l g = T l g) : ∃ N, ∀ l, N ≤ l → ρ' l = none ∧ ∀ g, T' l g = none := by
  obtain ⟨N, hN⟩ := h
  refine ⟨max N (l0 + 1), fun l hl => ?_⟩
  have a1 : N ≤ l := Nat.le_trans (Nat.le_max_left _ _) hl
  have a2 : l0 + 1 ≤ l := Nat.le_trans (Nat.le_max_right _ _) hl
  have hne : l ≠ l0 := by omega
  exact ⟨(h1 l hne).trans (hN l a1).1, fun g => (h2 l g hne).trans ((hN l a1).2 g)⟩

/-- A new place (no spare room). -/
theorem WR.allocM (h : WR G σ w) {l : Nat} (hs : σ l = none) (hr : G.ρ l = none) (o : Obj) (x : AObj) (hns : ∀ g, x ≠ .spare g)
    (hx : ObjR (G.addρ l w.heap.size) (w.alloc o) l x) : WR (G.addρ l w.heap.size) (σ.upd l x) (w.alloc o) := by
  have h' := h.allocAny o
  have hle : G.le (G.addρ l w.heap.size) := Ghost.le_addρ hr
  have hblk : (G.addρ l w.heap.size).blk l x = some w.heap.size := by
    cases x with
    | spare g => exact absurd rfl (hns g)
    | cells cs => simp [Ghost.blk, Ghost.addρ]
    | map es st => simp [Ghost.blk, Ghost.addρ]
    | iter s p => simp [Ghost.blk, Ghost.addρ]
    | miter m s1 s2 s3 => simp [Ghost.blk, Ghost.addρ]
  have old : ∀ l' x' b, σ l' = some x' → (G.addρ l w.heap.size).blk l' x' = some b → G.n0 ≤ b ∧ b < w.heap.size := fun l' x' b e k => by
    rw [blk_keep (h.obj l' x' e) hle (fun _ => rfl)] at k
    exact h.own l' x' b e k
  refine ⟨h'.below, h'.drawn, h'.n0le, h'.frz, fun l' x' e => ?_, fun l1 l2 x1 x2 b e1 e2 k1 k2 => ?_, fun l' x' b e k => ?_, fin_upd h.fin l (fun l' hne => ?_) (fun _ _ _ => rfl), fun hd k hk => ?_⟩
  · simp only [AS.upd_at] at e
    by_cases hl : l' = l
    · subst hl; simp only [if_true, Option.some.injEq] at e; subst e; exact hx
    · rw [if_neg hl] at e
      exact (h'.obj l' x' e).keep hle (fun _ => rfl) fun _ _ => ⟨rfl, fun _ => rfl⟩
  · simp only [AS.upd_at] at e1 e2
    by_cases h1 : l1 = l <;> by_cases h2 : l2 = l
    · rw [h1, h2]
    · subst h1; rw [if_neg h2] at e2
      simp only [if_true, Option.some.injEq] at e1; subst e1
      rw [hblk] at k1; cases k1
      have := old _ _ _ e2 k2; omega
    · subst h2; rw [if_neg h1] at e1
      simp only [if_true, Option.some.injEq] at e2; subst e2
      rw [hblk] at k2; cases k2
      have := old _ _ _ e1 k1; omega
    · rw [if_neg h1] at e1; rw [if_neg h2] at e2
      rw [blk_keep (h.obj _ _ e1) hle (fun _ => rfl)] at k1
      rw [blk_keep (h.obj _ _ e2) hle (fun _ => rfl)] at k2
      exact h.sep l1 l2 x1 x2 b e1 e2 k1 k2
  · simp only [AS.upd_at] at e
    by_cases hl : l' = l
    · subst hl; simp only [if_true, Option.some.injEq] at e; subst e
      rw [hblk] at k; cases k
      exact ⟨h.n0le, by simp⟩
    · rw [if_neg hl] at e
      have := old _ _ _ e k
      exact ⟨this.1, by simp; omega⟩
  · simp [Ghost.addρ, hne]
  · have h1 : σ.nxt ≤ k := Nat.le_trans (Nat.le_max_left _ _) hk
    have h2 : l + 1 ≤ k := Nat.le_trans (Nat.le_max_right _ _) hk
    obtain ⟨h3, h4⟩ := h.nx hd k h1
    refine ⟨?_, h4⟩
    simp only [Ghost.addρ]; rw [if_neg (by omega)]; exact h3

/-- A place's object is turned, in its own block. -/
theorem WR.write (h : WR G σ w) {l : Nat} {x x' : AObj} {b : Nat} (hs : σ l = some x) (hb : G.blk l x = some b) (hb' : G.blk l x' = some b) {w' : World}
    (hB : Below G.n0 w w') (hh : ∀ k, k ≠ b → w'.heap[k]? = w.heap[k]?) (hF : ∀ o v, G.F b o = some v → w'.cell? ⟨b, o, none⟩ = some v) (hx : ObjR G w' l x') (hd : G.trk = true → w.drawn ≤ w'.drawn := by intro; first | exact Nat.le_refl _ | exact Nat.le_succ _) : WR G (σ.upd l x') w' := by
  have hsz := hB.size
  refine ⟨h.below.trans hB, fun ht => Nat.le_trans (h.drawn ht) (hd ht), by have := h.n0le; omega, fun b' o v e => ?_, fun l1 x1 e => ?_, fun l1 l2 x1 x2 c e1 e2 k1 k2 => ?_, fun l1 x1 c e k => ?_, h.fin, fun hd k hk => h.nx hd k (Nat.le_trans (Nat.le_max_left _ _) hk)⟩
  · by_cases hbb : b' = b
    · subst hbb; exact hF _ _ e
    · rw [World.cell?_of_block (w := w) (a := ⟨b', o, none⟩) (hh b' hbb)]; exact h.frz _ _ _ e
  · simp only [AS.upd_at] at e
    by_cases hl : l1 = l
    · subst hl; simp only [if_true, Option.some.injEq] at e; subst e; exact hx
    · rw [if_neg hl] at e
      exact (h.obj l1 x1 e).keep (.refl G) (fun _ => rfl) fun c hc => ⟨hh c (fun hcb => hl (h.sep l1 l x1 x c e hs hc (hcb ▸ hb))), fun _ => rfl⟩
  · simp only [AS.upd_at] at e1 e2
    by_cases h1 : l1 = l <;> by_cases h2 : l2 = l
    · rw [h1, h2]
    · subst h1; rw [if_neg h2] at e2
      simp only [if_true, Option.some.injEq] at e1; subst e1
      rw [hb'] at k1; cases k1
      exact h.sep l1 l2 x x2 _ hs e2 hb k2
    · subst h2; rw [if_neg h1] at e1
      simp only [if_true, Option.some.injEq] at e2; subst e2
      rw [hb'] at k2; cases k2
      exact h.sep l1 l2 x1 x _ e1 hs k1 hb
    · rw [if_neg h1] at e1; rw [if_neg h2] at e2
      exact h.sep l1 l2 x1 x2 c e1 e2 k1 k2
  · simp only [AS.upd_at] at e
    by_cases hl : l1 = l
    · subst hl; simp only [if_true, Option.some.injEq] at e; subst e
      rw [hb'] at k; cases k
      have := h.own _ _ _ hs hb; omega
    · rw [if_neg hl] at e; have := h.own _ _ _ e k; omega

/-- A place is frozen: what it holds stays for good. -/
theorem WR.freeze (h : WR G σ w) {l : Nat} {cs : List AV} (hs : σ l = some (.cells cs)) :
    ∃ b vs e G', G.ρ l = some b ∧ w.heap[b]? = some (.cells (List.toArray vs) e (0, 0)) ∧ VRs G cs vs ∧ G.le G' ∧ WR G' (σ.del l) w ∧ G'.frz b 0 vs ∧ Ones vs := by
  obtain ⟨b, vs, e, h1, h2, h3, h4, h5⟩ := h.obj l _ hs
  have hle : G.le (G.addF b vs) := by
    refine ⟨rfl, rfl, rfl, rfl, fun b' o v ev => ?_, fun _ _ e => e, fun _ _ _ e => e⟩
    simp only [Ghost.addF]
    by_cases hb : b' = b
    · subst hb; rw [h4 o] at ev; cases ev
    · rw [if_neg hb]; exact ev
  refine ⟨b, vs, e, G.addF b vs, h1, h2, h3, hle, ?_, frz_addF G b vs, h5⟩
  have del : ∀ l' x, (σ.del l) l' = some x → σ l' = some x ∧ l' ≠ l := fun l' x ex => by
    simp only [AS.del_at] at ex
    by_cases hl : l' = l
    · rw [if_pos hl] at ex; cases ex
    · rw [if_neg hl] at ex; exact ⟨ex, hl⟩
  refine ⟨h.below, h.drawn, h.n0le, fun b' o v ev => ?_, fun l' x ex => ?_, fun l1 l2 x1 x2 c e1 e2 k1 k2 => ?_, fun l' x c ex k => ?_, h.fin, h.nx⟩
  · by_cases hb : b' = b
    · subst hb
      simp only [Ghost.addF, if_true] at ev
      simp [World.cell?, h2, ev]
    · simp only [Ghost.addF, hb, if_false] at ev; exact h.frz _ _ _ ev
  · obtain ⟨ex', hne⟩ := del l' x ex
    refine (h.obj l' x ex').keep hle (fun _ => rfl) fun c hc => ⟨rfl, fun o => ?_⟩
    simp only [Ghost.addF]
    rw [if_neg fun hcb => hne (h.sep l' l x _ c ex' hs hc (by simp [Ghost.blk, h1, hcb]))]
  · obtain ⟨e1', _⟩ := del l1 x1 e1
    obtain ⟨e2', _⟩ := del l2 x2 e2
    rw [blk_keep (h.obj _ _ e1') hle (fun _ => rfl)] at k1
    rw [blk_keep (h.obj _ _ e2') hle (fun _ => rfl)] at k2
    exact h.sep l1 l2 x1 x2 c e1' e2' k1 k2
  · obtain ⟨ex', _⟩ := del l' x ex
    rw [blk_keep (h.obj _ _ ex') hle (fun _ => rfl)] at k
    exact h.own l' x c ex' k
end
end Go.VS
