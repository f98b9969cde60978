/-
  VALUE SEMANTICS: tables that a row lists, at the start: their cells.
-/
import Derived.Test.YtbmnhnohahacaaaGreatDoorVsB
import Derived.Lib.LaidU8
namespace Go.VS
open Go.RowKit Go.Lib
set_option linter.unusedSimpArgs false
set_option linter.unusedVariables false

/-- A table of numbers, cell for cell. -/
theorem tab_cells {P : Program} {w : World} {n : String} {k : IntKind} {zs : List Int} {g : Nat} {t e : TypeId} {m : Nat} (hg : P.globalNamed n = some g) (hty : (P.globals[g]?).map (·.type) = some t)
    (ht : P.underlying t = some (.array m e)) (he : P.underlying e = some (.int k)) (hce : P.cellsOf e = 1) (hct : P.cellsOf t = m) (h : VarReads P w n (tabData k zs)) (i : Nat) (v : Value) (hv : (zs.map (Value.int k))[i]? = some v) :
    w.cell? ⟨g, i, none⟩ = some v := by
  obtain ⟨g', t', cs, fuel, p, hg', hty', hvar, hd⟩ := h
  obtain rfl := Option.some.inj (hg.symm.trans hg')
  obtain rfl := Option.some.inj (hty.symm.trans hty')
  have hcs := cells_of_tab ht he hce hct hd
  rw [World.var?_cell hg hvar i, ← Array.getElem?_toList, hcs]
  exact hv

/-- A table of pairs of numbers, cell for cell. -/
theorem pair_cells {P : Program} {w : World} {n : String} {k : IntKind} {zs : List (Int × Int)} {g : Nat} {t e s : TypeId} {m : Nat} {f0 f1 : Field} (hg : P.globalNamed n = some g) (hty : (P.globals[g]?).map (·.type) = some t)
    (ht : P.underlying t = some (.array m s)) (hs : P.underlying s = some (.struct #[f0, f1])) (e0 : f0.type = e) (e1 : f1.type = e) (o0 : f0.offset = 0) (o1 : f1.offset = 1) (he : P.underlying e = some (.int k)) (hce : P.cellsOf e = 1)
    (hcs : P.cellsOf s = 2) (hm : zs.length = m) (h : VarReads P w n (.agg (zs.map fun z => .agg ([z.1, z.2].map fun z => .lit (.int k z))))) (i : Nat) (v : Value) (hv : (zs.flatMap fun z => [Value.int k z.1, Value.int k z.2])[i]? = some v) :
    w.cell? ⟨g, i, none⟩ = some v := by
  obtain ⟨g', t', cs, fuel, p, hg', hty', hvar, hd⟩ := h
  obtain rfl := Option.some.inj (hg.symm.trans hg')
  obtain rfl := Option.some.inj (hty.symm.trans hty')
  have key : ∀ (zs : List (Int × Int)) (i : Nat) (v : Value), (zs.flatMap fun z => [Value.int k z.1, Value.int k z.2])[i]? = some v → ∃ z, zs[i / 2]? = some z ∧ [Value.int k z.1, Value.int k z.2][i % 2]? = some v := by
    intro zs
    induction zs with
    | nil => intro i v h; simp at h
    | cons z zs ih =>
      intro i v h
      by_cases h0 : i < 2
      · have h1 : i / 2 = 0 := by omega
        have h2 : i % 2 = i := by omega
        rw [h1, h2]
        refine ⟨z, rfl, ?_⟩
        rw [List.flatMap_cons, List.getElem?_append_left (by simpa using h0)] at h
        exact h
      · rw [List.flatMap_cons, List.getElem?_append_right (by simp; omega)] at h
        obtain ⟨z', k1, k2⟩ := ih (i - 2) v (by simpa using h)
        have h1 : i / 2 = (i - 2) / 2 + 1 := by omega
        have h2 : i % 2 = (i - 2) % 2 := by omega
        rw [h1, h2]
        exact ⟨z', by simpa using k1, k2⟩
  obtain ⟨z, hz, hzv⟩ := key zs i v hv
  have hi : i / 2 < m := by rw [← hm]; exact (List.getElem?_eq_some_iff.1 hz).1
  obtain ⟨fuel', d, q, hdi, hte⟩ := array_elem ht hd (i / 2) hi
  rw [List.getElem?_map, hz] at hdi
  simp only [Option.map_some, Option.some.injEq] at hdi
  subst hdi
  rw [hcs] at hte
  have hc := ints_of_struct hs (fun j f hj => by
    match j, hj with
    | 0, hj => simp at hj; subst hj; exact ⟨e0 ▸ he, o0, e0 ▸ hce⟩
    | 1, hj => simp at hj; subst hj; exact ⟨e1 ▸ he, o1, e1 ▸ hce⟩
    | j + 2, hj => simp at hj) (by rw [hcs]; rfl) hte
  rw [World.var?_cell hg hvar i, ← Array.getElem?_toList]
  have h2 : i % 2 < 2 := Nat.mod_lt _ (by omega)
  have h3 := congrArg (·[i % 2]?) hc
  simp only [List.getElem?_take, List.getElem?_drop, if_pos h2] at h3
  rw [show i / 2 * 2 + i % 2 = i by omega] at h3
  rw [h3]
  exact hzv

theorem vrs_ints (G : Ghost) (k : IntKind) : ∀ zs : List Int, VRs G (zs.map (AV.int k)) (zs.map (Value.int k))
  | [] => VRs.nil
  | z :: zs => VRs.cons (by simp [VR]) (vrs_ints G k zs)
theorem ones_ints (k : IntKind) (zs : List Int) : Ones (zs.map (Value.int k)) := fun v hv => by
  obtain ⟨z, _, rfl⟩ := List.mem_map.1 hv
  rfl
theorem vrs_pairs (G : Ghost) (k : IntKind) : ∀ zs : List (Int × Int), VRs G (zs.flatMap fun z => [AV.int k z.1, AV.int k z.2]) (zs.flatMap fun z => [Value.int k z.1, Value.int k z.2])
  | [] => VRs.nil
  | z :: zs => VRs.cons (by simp [VR]) (VRs.cons (by simp [VR]) (vrs_pairs G k zs))
theorem ones_pairs (k : IntKind) (zs : List (Int × Int)) : Ones (zs.flatMap fun z => [Value.int k z.1, Value.int k z.2]) := fun v hv => by
  obtain ⟨z, _, hz⟩ := List.mem_flatMap.1 hv
  simp at hz
  rcases hz with rfl | rfl <;> rfl
end Go.VS
