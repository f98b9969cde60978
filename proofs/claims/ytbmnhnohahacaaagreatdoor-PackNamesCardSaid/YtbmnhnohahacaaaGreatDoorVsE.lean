/-
  VALUE SEMANTICS, PART E. The pure operations do in the model what they do over abstract values.
-/
import Derived.Test.YtbmnhnohahacaaaGreatDoorVsD
namespace Go.VS
open Go.RowKit
set_option linter.unusedSimpArgs false
set_option linter.unusedVariables false

def OkV (P : Program) (s : Sem Value) (G : Ghost) (σ : AS) (w : World) (av : AV) : Prop :=
  ∃ v w' G', s.run P w = .ok v w' ∧ G.le G' ∧ WR G' σ w' ∧ VR G' av v
def OkN (P : Program) (s : Sem Next) (G : Ghost) (σ : AS) (w : World) (av : AV) : Prop :=
  ∃ v w' G', s.run P w = .ok (.value v) w' ∧ G.le G' ∧ WR G' σ w' ∧ VR G' av v

section
variable {P : Program} {G : Ghost} {σ : AS} {w : World}

theorem OkV.same {s : Sem Value} {av : AV} {v : Value} (hw : WR G σ w) (h : s.run P w = .ok v w) (hv : VR G av v) : OkV P s G σ w av :=
  ⟨v, w, G, h, .refl G, hw, hv⟩
theorem OkV.next {s : Sem Value} {av : AV} (h : OkV P s G σ w av) : OkN P (do pure (.value (← s))) G σ w av := by
  obtain ⟨v, w', G', h1, h2⟩ := h
  exact ⟨v, w', G', by simp [h1], h2⟩
theorem OkN.same {s : Sem Next} {av : AV} {v : Value} (hw : WR G σ w) (h : s.run P w = .ok (.value v) w) (hv : VR G av v) : OkN P s G σ w av :=
  ⟨v, w, G, h, .refl G, hw, hv⟩

theorem add_none (b o n : Nat) : (⟨b, o, none⟩ : Addr).add n = ⟨b, o + n, none⟩ := by
  unfold Addr.add; split
  · subst_vars; rfl
  · rfl

theorem run_und {t : TypeId} {d : TypeDesc} (h : P.underlying t = some d) (w : World) : (underlying t).run P w = .ok d w := run_underlying h w
theorem run_sz {t : TypeId} {n : Nat} (h : szOf P t = some n) (w : World) : (sizeOf t).run P w = .ok n w := by
  unfold szOf at h
  cases hi : P.info? t with
  | none => simp [hi] at h
  | some i => simp only [hi, Option.map_some, Option.some.injEq] at h; simp [sizeOf, typeInfo, hi, h]
theorem run_by {t : TypeId} {n : Nat} (h : byOf P t = some n) (w : World) : ∃ i, (typeInfo t).run P w = .ok i w ∧ i.bytes = n := by
  unfold byOf at h
  cases hi : P.info? t with
  | none => simp [hi] at h
  | some i => simp only [hi, Option.map_some, Option.some.injEq] at h; exact ⟨i, by simp [typeInfo, hi], h⟩
theorem run_isAgg {t : TypeId} {ag : Bool} (h : aggOf P t = some ag) (w : World) : (isAgg t).run P w = .ok ag w := by
  unfold aggOf at h
  unfold isAgg
  cases hu : P.underlying t with
  | none => simp [hu] at h
  | some d =>
    simp only [Sem.run_bind, run_und hu, Result.andThen_ok]
    cases d <;> simp_all
theorem zeroOf_ok {t : TypeId} {z : AV} (h : zeroOf P t = some z) (w : World) (G : Ghost) : ∃ v, (zeroValue t).run P w = .ok v w ∧ VR G z v := by
  unfold zeroOf at h
  split at h
  · rename_i i hi
    split at h
    · rename_i z' hz
      exact ⟨z', by simp [zeroValue, typeInfo, hi, hz], avVal_ok h G⟩
    · cases h
  · cases h
theorem szOf_info {t : TypeId} {n : Nat} (h : szOf P t = some n) : P.cellsOf t = n := by
  unfold szOf at h
  unfold Program.cellsOf
  rw [h]; rfl

/-- A row of cells in memory that reads as these values. -/
def Row (w : World) (b o : Nat) (vs : List Value) : Prop := ∀ i v, vs[i]? = some v → w.cell? ⟨b, o + i, none⟩ = some v

theorem WR.row (h : WR G σ w) {b o : Nat} {vs : List Value} (hf : G.frz b o vs) : Row w b o vs := fun i v e => h.frz _ _ _ (hf i v e)

theorem Row.drop {w : World} {b o : Nat} {vs : List Value} (h : Row w b o vs) (k : Nat) : Row w b (o + k) (vs.drop k) := fun i v e => by
  rw [Nat.add_assoc]; exact h (k + i) v (by simpa using e)

theorem frz_drop {b o : Nat} {vs : List Value} (h : G.frz b o vs) (k : Nat) : G.frz b (o + k) (vs.drop k) := fun i v e => by
  rw [Nat.add_assoc]; exact h (k + i) v (by simpa using e)
theorem frz_take {b o : Nat} {vs : List Value} (h : G.frz b o vs) (k : Nat) : G.frz b o (vs.take k) := fun i v e => by
  refine h i v ?_
  rw [List.getElem?_take] at e; split at e
  · exact e
  · cases e

theorem Ones.take {vs : List Value} (h : Ones vs) (k : Nat) : Ones (vs.take k) := h.sub fun x hx => List.mem_of_mem_take hx
theorem Ones.drop {vs : List Value} (h : Ones vs) (k : Nat) : Ones (vs.drop k) := h.sub fun x hx => List.mem_of_mem_drop hx

/-- A part of a row, read. -/
theorem part_read {b o off n : Nat} {vs : List Value} {cs : List AV} {ag : Bool} {av : AV} {t : TypeId} (hr : Row w b o vs) (hv : VRs G cs vs) (ho : Ones vs)
    (hp : partA ag cs off n = some av) (hag : aggOf P t = some ag) (hsz : szOf P t = some n) :
    ∃ v, (loadVar t ⟨b, o + off, none⟩).run P w = .ok v w ∧ VR G av v := by
  unfold partA at hp
  split at hp
  · rename_i hle
    have hlen : off + n ≤ vs.length := by rw [hv.length]; exact hle
    cases ag with
    | true =>
      simp only [if_true, Option.some.injEq] at hp; subst hp
      refine ⟨.agg ((vs.drop off).take n).toArray, ?_, ?_⟩
      · have h1 := run_loadCells_list (P := P) w ⟨b, o + off, none⟩ ((vs.drop off).take n) (fun j v e => by
          rw [add_none]; refine hr.drop off j v ?_
          rw [List.getElem?_take] at e; split at e
          · exact e
          · cases e)
        have hl2 : ((vs.drop off).take n).length = n := by simp; omega
        rw [hl2] at h1
        simp only [loadVar, Sem.run_bind, run_isAgg hag, Result.andThen_ok, if_true, run_sz hsz, h1, Sem.run_pure]
      · simp only [VR]
        exact ⟨_, rfl, (hv.drop off).take n, (ho.drop off).take n⟩
    | false =>
      simp only [Bool.false_eq_true, if_false] at hp
      split at hp
      · obtain ⟨v, h1, h2⟩ := hv.get hp
        refine ⟨v, ?_, h2⟩
        simp [loadVar, run_isAgg hag, hr _ _ h1]
      · cases hp
  · cases hp

theorem part_val {off n : Nat} {vs : List Value} {cs : List AV} {ag : Bool} {av : AV} {t : TypeId} (hv : VRs G cs vs) (ho : Ones vs)
    (hp : partA ag cs off n = some av) (hag : aggOf P t = some ag) (hsz : szOf P t = some n) :
    ∃ v, (part t vs.toArray off).run P w = .ok v w ∧ VR G av v := by
  unfold partA at hp
  split at hp
  · rename_i hle
    have hlen : off + n ≤ vs.length := by rw [hv.length]; exact hle
    cases ag with
    | true =>
      simp only [if_true, Option.some.injEq] at hp; subst hp
      refine ⟨.agg (vs.toArray.extract off (off + n)), ?_, ?_⟩
      · simp [part, run_isAgg hag, run_sz hsz]
      · simp only [VR]
        refine ⟨(vs.drop off).take n, ?_, (hv.drop off).take n, (ho.drop off).take n⟩
        simp [List.extract_toArray, List.extract_eq_take_drop]
    | false =>
      simp only [Bool.false_eq_true, if_false] at hp
      split at hp
      · obtain ⟨v, h1, h2⟩ := hv.get hp
        refine ⟨v, ?_, h2⟩
        simp [part, run_isAgg hag, h1]
      · cases hp
  · cases hp

theorem load_frozen {x : Value} {cs : List AV} {n : Nat} {ag : Bool} {av : AV} {t : TypeId} (hw : WR G σ w) (hx : VR G (.iptr cs) x)
    (hp : partA ag cs 0 n = some av) (hag : aggOf P t = some ag) (hsz : szOf P t = some n) : OkV P (Instr.loadAt t x) G σ w av := by
  simp only [VR] at hx
  obtain ⟨b, o, vs, rfl, h1, h2, h3⟩ := hx
  obtain ⟨v, h4, h5⟩ := part_read (P := P) (hw.row h2) h1 h3 hp hag hsz
  exact .same hw (by simpa [Instr.loadAt, Instr.sureAddr] using h4) h5

theorem fieldAt_ok {x : Value} {xa av : AV} {s : TypeId} {fs : Array Field} {f : Nat} {fd : Field} {n : Nat} (hw : WR G σ w) (hx : VR G xa x)
    (hu : P.underlying s = some (.struct fs)) (hf : fs[f]? = some fd) (hsz : szOf P fd.type = some n) (hn : n ≠ 0)
    (hp : faddrA fd.offset xa = some av) : OkV P (Instr.fieldAt s x f) G σ w av := by
  have run : ∀ b o, (Instr.fieldAt s (.pointer (some ⟨b, o, none⟩)) f).run P w = .ok (.pointer (some ⟨b, o + fd.offset, none⟩)) w := fun b o => by
    simp [Instr.fieldAt, run_und hu, hf, Instr.sureAddr, fieldPlace, run_sz hsz, hn, add_none]
  cases xa <;> simp only [faddrA, Option.some.injEq] at hp <;> try cases hp
  · simp only [VR] at hx
    obtain ⟨b, h1, rfl⟩ := hx
    exact .same hw (run _ _) (by simp only [VR]; exact ⟨b, h1, rfl⟩)
  · simp only [VR] at hx
    obtain ⟨b, o, vs, rfl, h1, h2, h3⟩ := hx
    exact .same hw (run _ _) (by simp only [VR]; exact ⟨b, o + fd.offset, vs.drop fd.offset, rfl, h1.drop _, frz_drop h2 _, h3.drop _⟩)

theorem asNat_ok {ia : AV} {i : Value} {k : Nat} (hi : VR G ia i) (h : asNat ia = some k) : ∃ q, i = .int q k := by
  cases ia <;> simp only [asNat] at h <;> try cases h
  rename_i q n
  split at h
  · simp only [Option.some.injEq] at h; subst h
    simp only [VR] at hi; subst hi
    exact ⟨q, by rw [Int.toNat_of_nonneg (by assumption)]⟩
  · cases h

theorem indexAt_slice {x i : Value} {nl : Bool} {sz : Nat} {es : List AV} {tok : Tok} {ia e : AV} {k : Nat} {t el : TypeId} (hw : WR G σ w) (hx : VR G (.slice nl sz es tok) x)
    (hi : VR G ia i) (hk : asNat ia = some k) (hu : P.underlying t = some (.slice el)) (hsz : szOf P el = some sz) (he : es[k]? = some e) (hkn : e.known = true) :
    OkV P (Instr.indexAt t x i) G σ w (.iptr e.cells) := by
  obtain ⟨q, rfl⟩ := asNat_ok hi hk
  simp only [VR] at hx
  obtain ⟨base, cap, cs, rfl, h1, h2, h3, h4⟩ := hx
  have hlt : k < es.length := (List.getElem?_eq_some_iff.1 he).1
  obtain ⟨v, c1, c2, h5, h6, rfl, h7⟩ := h3.get he
  cases base with
  | none => simp only [BaseR] at h4; omega
  | some a =>
    simp only [BaseR] at h4
    obtain ⟨h8, h9⟩ := h4
    have hv := h5.cells (by intro hh; subst hh; cases hkn)
    rw [Ghost.frz_append, Ghost.frz_append] at h9
    have h10 := h9.1.2
    rw [h7] at h10
    refine .same (v := .pointer (some (a.add (k * sz)))) hw ?_ ?_
    · simp [Instr.indexAt, asIntOf, run_und hu, hlt, run_sz hsz]
    · obtain ⟨ab, ao, asp⟩ := a
      have hsp : asp = none := h8 (by omega)
      subst hsp
      simp only [VR]
      exact ⟨ab, ao + k * sz, v.cells.toList, by rw [add_none], hv, h10, h6.2⟩
end
end Go.VS
