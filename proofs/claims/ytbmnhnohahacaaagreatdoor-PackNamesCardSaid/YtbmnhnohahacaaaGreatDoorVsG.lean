/-
  VALUE SEMANTICS, PART G. The pure operations, on: structs, slices, texts; all of them together.
-/
import Derived.Test.YtbmnhnohahacaaaGreatDoorVsF
import Derived.Laws.BytesString
import Derived.Laws.IdiomStrings
namespace Go.VS
open Go.RowKit
set_option linter.unusedSimpArgs false
set_option linter.unusedVariables false
set_option maxRecDepth 4000

section
variable {P : Program} {G : Ghost} {σ : AS} {w : World}

/-! ### structs that are built -/

theorem setCells_ok : ∀ {cs us : List AV} {vs xs : List Value} (o : Nat), VRs G cs vs → VRs G us xs → VRs G (setCells cs o us) ((xs.zipIdx).foldl (fun c (p : Value × Nat) => c.set (o + p.2) p.1) vs)
  | cs, [], vs, xs, o, h, k => by have := k.nil_inv; subst this; simpa [setCells] using h
  | cs, u :: us, vs, xs, o, h, k => by
    obtain ⟨x, xs', rfl, h1, h2⟩ := k.cons_inv
    simp only [setCells]
    have h3 := setCells_ok (o + 1) (h.set o h1) h2
    have e : ∀ (l : List Value) (n : Nat) (c : List Value), (l.zipIdx n).foldl (fun c (p : Value × Nat) => c.set (o + 1 + p.2) p.1) c = (l.zipIdx (n + 1)).foldl (fun c (p : Value × Nat) => c.set (o + p.2) p.1) c := by
      intro l
      induction l with
      | nil => intro n c; rfl
      | cons y l ih => intro n c; simp only [List.zipIdx_cons, List.foldl_cons]; rw [ih, show o + 1 + n = o + (n + 1) by omega]
    rw [e] at h3
    simpa using h3

theorem foldl_set_array (xs : List Value) (o n : Nat) (vs : List Value) :
    ((xs.toArray.zipIdx n).foldl (fun cs (p : Value × Nat) => cs.setIfInBounds (o + p.2) p.1) vs.toArray) = ((xs.zipIdx n).foldl (fun c (p : Value × Nat) => c.set (o + p.2) p.1) vs).toArray := by
  rw [← Array.foldl_toList]
  simp only [Array.toList_zipIdx]
  induction xs generalizing n vs with
  | nil => rfl
  | cons x xs ih =>
    simp only [List.zipIdx_cons, List.foldl_cons, List.setIfInBounds_toArray]
    exact ih _ _

theorem length_setCells : ∀ (us cs : List AV) (o : Nat), (setCells cs o us).length = cs.length
  | [], cs, o => rfl
  | u :: us, cs, o => by simp [setCells, length_setCells us]

theorem Ones.foldl_set {xs vs : List Value} (h : Ones vs) (k : Ones xs) (o n : Nat) : Ones ((xs.zipIdx n).foldl (fun c (p : Value × Nat) => c.set (o + p.2) p.1) vs) := by
  induction xs generalizing vs n with
  | nil => simpa using h
  | cons x xs ih =>
    simp only [List.zipIdx_cons, List.foldl_cons]
    refine ih (fun y hy => ?_) (fun y hy => k y (List.mem_cons_of_mem _ hy)) _
    rcases List.mem_or_eq_of_mem_set hy with hy | rfl
    · exact h y hy
    · exact k _ (List.mem_cons_self ..)

theorem knownA {a : AV} (h : a.known = true) : a ≠ .any := by intro e; subst e; cases h

theorem fill_ok (place : Nat → Option (Nat × Nat)) : ∀ {ps : List (Nat × Value)} {as : List (Nat × Nat × AV)} {cs cs' : List AV} {vs : List Value},
    VRs G cs vs → Ones vs → (List.length ps = as.length ∧ ∀ (i : Nat) (p : Nat × Value) (q : Nat × Nat × AV), ps[i]? = some p → as[i]? = some q → place p.1 = some (q.1, q.2.1) ∧ VR G q.2.2 p.2) → fillA cs as = some cs' →
    ∃ vs', Instr.fill place vs.toArray ps = some (List.toArray vs') ∧ VRs G cs' vs' ∧ Ones vs'
  | [], as, cs, cs', vs, h, ho, ⟨hl, _⟩, hf => by
    cases as with
    | nil => simp only [fillA, Option.some.injEq] at hf; subst hf; exact ⟨vs, rfl, h, ho⟩
    | cons _ _ => simp at hl
  | p :: ps, as, cs, cs', vs, h, ho, ⟨hl, hp⟩, hf => by
    cases as with
    | nil => simp at hl
    | cons q as =>
      obtain ⟨i, v⟩ := p
      obtain ⟨off, n, a⟩ := q
      simp only [fillA] at hf
      split at hf
      · rename_i hc
        obtain ⟨h1, h2, h3⟩ := hc
        obtain ⟨k1, k2⟩ := hp 0 _ _ rfl rfl
        simp only at k1 k2
        have hcs := k2.cells (knownA h3)
        have hlen := hcs.length
        have hvs := h.length
        obtain ⟨vs', e1, e2, e3⟩ := fill_ok place (setCells_ok off h hcs) (ho.foldl_set (k2.ones h3) off 0)
          ⟨by simpa using hl, fun j p q e e' => hp (j + 1) p q (by simpa using e) (by simpa using e')⟩ hf
        refine ⟨vs', ?_, e2, e3⟩
        simp only [Instr.fill, k1]
        have hsz : v.cells.size = n := by rw [← h1, ← hlen]; simp
        rw [if_neg (by simp [hsz]; omega)]
        have := foldl_set_array v.cells.toList off 0 vs
        simp only [Array.toArray_toList] at this
        rw [this]; exact e1
      · cases hf

theorem partsB_ok {γ : Ctx} {t : List AV} {a : Act} (hg : GOK γ G) (h : VRs G t a.tmps.toList) {fs : Array Field} : ∀ {ps : List (Nat × Operand)} {qs : List (Nat × Nat × XO)},
    partsB P fs ps = some qs → ps.length = qs.length ∧ ∀ (i : Nat) p q, ps[i]? = some p → qs[i]? = some q →
      ∃ f, fs[p.1]? = some f ∧ q.1 = f.offset ∧ szOf P f.type = some q.2.1 ∧ VR G (XO.ev γ t q.2.2) (a.eval p.2)
  | [], qs, hc => by simp only [partsB, Option.some.injEq] at hc; subst hc; simp
  | (i, x) :: r, qs, hc => by
    simp only [partsB] at hc
    split at hc
    · rename_i f hf
      split at hc
      · rename_i n y r' hn hy hr
        simp only [Option.some.injEq] at hc; subst hc
        obtain ⟨h1, h2⟩ := partsB_ok hg h hr
        refine ⟨by simp [h1], fun j p q e e' => ?_⟩
        cases j with
        | zero => simp at e e'; subst e e'; exact ⟨f, hf, rfl, hn, io_ok hg h hy⟩
        | succ j => exact h2 j p q (by simpa using e) (by simpa using e')
      · cases hc
    · cases hc

theorem run_mapM_list {α β : Type} (f : α → Sem β) (g : α → β) : ∀ (l : List α) (w : World), (∀ x, x ∈ l → ∀ w, (f x).run P w = .ok (g x) w) → (l.mapM f).run P w = .ok (l.map g) w
  | [], w, _ => by simp
  | x :: l, w, h => by
    simp only [List.mapM_cons, Sem.run_bind, h x (List.mem_cons_self ..) w, Result.andThen_ok, run_mapM_list f g l w (fun y hy => h y (List.mem_cons_of_mem _ hy)), Sem.run_pure, List.map_cons]

theorem run_mapM_array {α β : Type} (f : α → Sem β) (g : α → β) (l : Array α) (w : World) (h : ∀ x, x ∈ l.toList → ∀ w, (f x).run P w = .ok (g x) w) : (l.mapM f).run P w = .ok (l.map g) w := by
  rw [Array.mapM_eq_mapM_toList]
  simp [run_mapM_list f g l.toList w h]
  rw [← Array.toList_map]

theorem build_ok {γ : Ctx} {t : List AV} {a : Act} (hg : GOK γ G) (h : VRs G t a.tmps.toList) (hw : WR G σ w) {ty : TypeId} {fs : Array Field} {z av : AV} {ps : Array (Nat × Operand)}
    {qs : List (Nat × Nat × XO)} (hu : P.underlying ty = some (.struct fs)) (hz : zeroOf P ty = some z) (hzk : z.known = true) (hall : fs.all (fun f => (szOf P f.type).isSome) = true)
    (hq : partsB P fs ps.toList = some qs) (hp : (fillA z.cells (qs.map fun p => (p.1, p.2.1, XO.ev γ t p.2.2))).map AV.agg = some av) :
    OkV P (Instr.build ty (ps.map fun p => (p.1, a.eval p.2))) G σ w av := by
  obtain ⟨zv, hz1, hz2⟩ := zeroOf_ok hz w G
  cases hf : fillA z.cells (qs.map fun p => (p.1, p.2.1, XO.ev γ t p.2.2)) with
  | none => simp [hf] at hp
  | some cs =>
    simp only [hf, Option.map_some, Option.some.injEq] at hp; subst hp
    obtain ⟨p1, p2⟩ := partsB_ok hg h hq
    have hpl : (fs.mapM fun f => (do pure (f.offset, ← sizeOf f.type) : Sem (Nat × Nat))).run P w = .ok (fs.map fun f => (f.offset, (szOf P f.type).getD 0)) w := by
      refine run_mapM_array _ _ fs w fun f hf w' => ?_
      have := Array.all_eq_true_iff_forall_mem.1 hall f (by simpa using hf)
      obtain ⟨n, hn⟩ := Option.isSome_iff_exists.1 this
      simp [run_sz hn, hn]
    have hpp : ∀ (i : Nat) (p : Nat × Value) (q : Nat × Nat × AV), (ps.map fun p => (p.1, a.eval p.2)).toList[i]? = some p → (qs.map fun p => (p.1, p.2.1, XO.ev γ t p.2.2))[i]? = some q →
        (fs.map fun f => (f.offset, (szOf P f.type).getD 0))[p.1]? = some (q.1, q.2.1) ∧ VR G q.2.2 p.2 := by
      intro i p q hp hq
      simp only [Array.toList_map, List.getElem?_map, Option.map_eq_some_iff] at hp hq
      obtain ⟨p0, hp0, rfl⟩ := hp
      obtain ⟨q0, hq0, rfl⟩ := hq
      obtain ⟨f, k1, k2, k3, k4⟩ := p2 i p0 q0 hp0 hq0
      refine ⟨?_, k4⟩
      simp [k1, k2, k3]
    obtain ⟨vs', e1, e2, e3⟩ := fill_ok (fun i => (fs.map fun f => (f.offset, (szOf P f.type).getD 0))[i]?) (ps := (ps.map fun p => (p.1, a.eval p.2)).toList)
      (hz2.cells (knownA hzk)) (hz2.ones hzk) ⟨by simp [← p1], hpp⟩ hf
    refine .same (v := .agg vs'.toArray) hw ?_ (by simp only [VR]; exact ⟨vs', rfl, e2, e3⟩)
    have e1' : Instr.fill (fun i => (fs.map fun f => (f.offset, (szOf P f.type).getD 0))[i]?) zv.cells (ps.map fun p => (p.1, a.eval p.2)).toList = some (List.toArray vs') := by
      simpa only [Array.toArray_toList] using e1
    simp only [Instr.build, Sem.run_bind, hz1, Result.andThen_ok, run_und hu, hpl]
    rw [e1']
    rfl

/-! ### slices that are built -/

theorem splice (xs : List Value) : ∀ (pre old post : List Value) (o n : Nat), pre.length = o + n → old.length = xs.length →
    ((xs.zipIdx n).foldl (fun c (p : Value × Nat) => c.set (o + p.2) p.1) (pre ++ old ++ post)) = pre ++ xs ++ post := by
  induction xs with
  | nil => intro pre old post o n h1 h2; have := List.length_eq_zero_iff.1 h2; subst this; simp
  | cons x xs ih =>
    intro pre old post o n h1 h2
    cases old with
    | nil => simp at h2
    | cons y old =>
      simp only [List.zipIdx_cons, List.foldl_cons]
      have e : (pre ++ y :: old ++ post).set (o + n) x = (pre ++ [x]) ++ old ++ post := by
        rw [List.append_assoc, List.set_append_right _ _ (by omega)]
        simp [h1]
      rw [e, ih (pre ++ [x]) old post o (n + 1) (by simp; omega) (by simpa using h2)]
      simp

theorem fitE_cons {sz : Nat} {e : AV} {es : List AV} (h : fitE sz (e :: es) = true) : e.known = true ∧ e.cells.length = sz ∧ fitE sz es = true := by
  simp only [fitE, Bool.and_eq_true, beq_iff_eq] at h; exact ⟨h.1.1, h.1.2, h.2⟩

theorem fillS_ok {γ : Ctx} {t : List AV} {a : Act} (hg : GOK γ G) (h : VRs G t a.tmps.toList) {e : TypeId} {sz : Nat} : ∀ {ps : List (Nat × Operand)} {xs : List XO} {k : Nat} {pre rest : List Value},
    partsS P e k ps = some xs → fitE sz (xs.map (XO.ev γ t)) = true → pre.length = k * sz → rest.length = ps.length * sz →
    ∃ cs, Instr.fill (fun i => some (i * sz, sz)) (pre ++ rest).toArray (ps.map fun p => (p.1, a.eval p.2)) = some (List.toArray (pre ++ cs)) ∧ VRf G sz (xs.map (XO.ev γ t)) cs
  | [], xs, k, pre, rest, hc, hf, h1, h2 => by
    simp only [partsS, Option.some.injEq] at hc; subst hc
    simp at h2
    subst h2
    exact ⟨[], rfl, by simp [VRf]⟩
  | (i, x) :: r, xs, k, pre, rest, hc, hf, h1, h2 => by
    simp only [partsS] at hc
    split at hc
    · rename_i hik
      subst hik
      split at hc
      · rename_i y r' hy hr
        simp only [Option.some.injEq] at hc; subst hc
        simp only [List.map_cons] at hf
        obtain ⟨f1, f2, f3⟩ := fitE_cons hf
        have hv := io_ok hg h hy
        have hcl := hv.cells (knownA f1)
        have hlen := hcl.length
        obtain ⟨old, rest', rfl, ho⟩ : ∃ old rest', rest = old ++ rest' ∧ old.length = sz := ⟨rest.take sz, rest.drop sz, by simp, by simp [h2, Nat.add_mul]⟩
        have hr' : rest'.length = r.length * sz := by simp [Nat.add_mul, ho] at h2; try omega
        obtain ⟨cs, e1, e2⟩ := fillS_ok (k := i + 1) (pre := pre ++ (a.eval x).cells.toList) (rest := rest') hg h hr f3 (by simp only [List.length_append]; rw [hlen, f2, h1, Nat.add_mul]; omega) hr'
        refine ⟨(a.eval x).cells.toList ++ cs, ?_, ?_⟩
        · simp only [List.map_cons, Instr.fill]
          have hsz : (a.eval x).cells.size = sz := by rw [← f2, ← hlen]; simp
          rw [if_neg (by simp [hsz, h1, ho])]
          have h3 := foldl_set_array (a.eval x).cells.toList (i * sz) 0 (pre ++ (old ++ rest'))
          simp only [Array.toArray_toList] at h3
          rw [h3, ← List.append_assoc, splice _ pre old rest' (i * sz) 0 (by omega) (by rw [ho, hlen, f2])]
          rw [e1]; simp
        · simp only [List.map_cons, VRf]
          have hsz : (a.eval x).cells.size = sz := by rw [← f2, ← hlen]; simp
          exact ⟨a.eval x, cs, hv, ⟨hsz, hv.ones f1⟩, rfl, e2⟩
      · cases hc
    · cases hc

theorem buildSlice_ok {γ : Ctx} {t : List AV} {a : Act} (hg : GOK γ G) (h : VRs G t a.tmps.toList) (hw : WR G σ w) {ty e : TypeId} {z : AV} {ps : Array (Nat × Operand)} {n sz : Nat}
    {xs : List XO} (hu : P.underlying ty = some (.slice e)) (hz : zeroOf P e = some z) (hsz : szOf P e = some sz) (hc : n * sz ≤ 16777216 ∧ z.known = true ∧ z.cells.length = sz ∧ 0 < sz ∧ ps.size = n)
    (hq : partsS P e 0 ps.toList = some xs) (hf : fitE sz (xs.map (XO.ev γ t)) = true) :
    OkV P (Instr.buildSlice ty n (ps.map fun p => (p.1, a.eval p.2))) G σ w (.slice false sz (xs.map (XO.ev γ t)) .full) := by
  obtain ⟨hc1, hc2, hc3, hc4, hc5⟩ := hc
  obtain ⟨zv, hz1, hz2⟩ := zeroOf_ok hz w G
  obtain ⟨cs, e1, e2⟩ := fillS_ok (pre := []) (rest := ((Array.range (n * sz)).map (zv.cells[· % zv.cells.size]!)).toList) hg h hq hf (by simp) (by simp [hc5])
  have hxl : xs.length = n := by
    have key : ∀ (l : List (Nat × Operand)) (k : Nat) (ys : List XO), partsS P e k l = some ys → ys.length = l.length := by
      intro l
      induction l with
      | nil => intro k ys hy; simp only [partsS, Option.some.injEq] at hy; subst hy; rfl
      | cons q l ih =>
        intro k ys hy
        obtain ⟨i, x⟩ := q
        simp only [partsS] at hy
        split at hy
        · split at hy
          · rename_i hr; simp only [Option.some.injEq] at hy; subst hy; simp [ih _ _ hr]
          · cases hy
        · cases hy
    rw [key _ _ _ hq]; simpa using hc5
  refine ⟨.slice (some ⟨w.heap.size, 0, none⟩) n n, w.alloc (.cells cs.toArray e), G.addF w.heap.size cs, ?_, hw.le_addF cs, hw.allocF cs e, ?_⟩
  · have hbig : ¬ (n * sz > 2 ^ 24) := by omega
    simp only [List.nil_append, Array.toArray_toList] at e1
    have e1' : Instr.fill (fun i => some (i * sz, sz)) ((Array.range (n * sz)).map (zv.cells[· % zv.cells.size]!)) (ps.map fun p => (p.1, a.eval p.2)).toList = some cs.toArray := by
      simpa using e1
    by_cases h0 : n * sz = 0
    · have hr0 : (Array.range (n * sz)).map (zv.cells[· % zv.cells.size]!) = #[] := by rw [h0]; simp
      rw [hr0] at e1'
      simp only [Instr.buildSlice, Sem.run_bind, run_und hu, run_sz hsz, Result.andThen_ok, if_neg hbig, h0, if_true, Sem.run_pure]
      simp only [show (Array.range 0) = (#[] : Array Nat) from rfl, List.map_toArray, List.map_nil]
      rw [e1']
      simp [newRow]
    · simp only [Instr.buildSlice, Sem.run_bind, run_und hu, run_sz hsz, Result.andThen_ok, if_neg hbig, if_neg h0, Sem.run_pure, hz1]
      rw [e1']
      simp [newRow]
  · simp only [VR]
    refine ⟨some ⟨w.heap.size, 0, none⟩, n, cs, by simp [hxl], rfl, by simp [TokR, hxl], VRf.mono (hw.le_addF cs) _ _ _ e2, ⟨fun _ => rfl, frz_addF G _ cs⟩⟩
end
end Go.VS
