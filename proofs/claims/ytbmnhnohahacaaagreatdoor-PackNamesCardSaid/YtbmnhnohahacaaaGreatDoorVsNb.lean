/-
  VALUE SEMANTICS, PART NB. The next entry of a range over a map.
-/
import Derived.Test.YtbmnhnohahacaaaGreatDoorVsNa
namespace Go.VS
open Go.RowKit
set_option linter.unusedSimpArgs false
set_option linter.unusedVariables false
set_option maxRecDepth 4000

section
variable {P : Program} {G : Ghost} {σ : AS} {w : World}

theorem choose_ok (n : Nat) (hn : 0 < n) (w : World) : ∃ i w1, (choose (.mapNext n)).run P w = .ok i w1 ∧ i < n ∧ (w1 = w ∨ w1 = w.drew) := by
  rw [run_choose_drew]
  by_cases h : (Question.mapNext n).forced = true
  · rw [if_pos h]; exact ⟨0, w, rfl, hn, .inl rfl⟩
  · rw [if_neg h]; exact ⟨_, _, rfl, Nat.mod_lt _ hn, .inr rfl⟩

theorem entr_mem {es : List (AV × AV)} {ms : List MapEntry} {m : MapEntry} (h : EntR G es ms) (hm : m ∈ ms) : ∃ (i : Nat) (e : AV × AV), ms[i]? = some m ∧ es[i]? = some e ∧ VR G e.1 m.key ∧ VR G e.2 m.val := by
  obtain ⟨i, hi, he⟩ := List.mem_iff_getElem.1 hm
  have hl := h.length
  have h1 : es[i]? = some es[i] := List.getElem?_eq_getElem (by omega)
  obtain ⟨m', k1, k2, k3⟩ := h.get (k := es[i].1) (v := es[i].2) h1
  rw [List.getElem?_eq_getElem hi] at k1
  simp only [Option.some.injEq] at k1
  rw [he] at k1; subst k1
  exact ⟨i, es[i], by rw [List.getElem?_eq_getElem hi, he], h1, k2, k3⟩

theorem mnxt_ok {it : Value} {l m : Nat} {since last : Nat} {seen : List Nat} {es : List (AV × AV)} {st : Stamps} (ty : TypeId) (hw : WR G σ w) (hi : VR G (.ptr l 0) it)
    (hs : σ l = some (.miter (some m) since seen last)) (hm : σ m = some (.map es st)) (hsi : since = st.clk) (hla : last = st.clk) (hlt : ∀ b ∈ st.bs, b < st.clk) :
    ∃ v w', (Instr.next it false ty).run P w = .ok v w' ∧ ((VR G (.tuple [.bool false]) v ∧ WR G σ w' ∧ ∀ b ∈ st.bs, b ∈ seen) ∨
      ∃ (i b : Nat) (e : AV × AV), st.bs[i]? = some b ∧ b ∉ seen ∧ es[i]? = some e ∧ VR G (.tuple [.bool true, e.1, e.2]) v ∧ WR G (σ.upd l (.miter (some m) since (seen ++ [b]) st.clk)) w') := by
  simp only [VR] at hi
  obtain ⟨bl, hb, rfl⟩ := hi
  obtain ⟨b1, r, h1, h2, bm, rfl, h3⟩ := hw.obj l _ hs
  rw [hb] at h1; cases h1
  obtain ⟨b2, ms, k1, k2, k3, k4⟩ := hw.obj m _ hm
  rw [h3] at k1; cases k1
  have hgo : (getObj bl).run P w = .ok (.mapIter (some bm) since seen.toArray last) w := by simp [getObj, Sem.run, h2]
  have hgm := run_getMap (P := P) k2
  have hbl : ∀ e ∈ ms.toList, e.born < st.clk := fun e he => hlt _ (by rw [← k4]; exact List.mem_map.2 ⟨e, he, rfl⟩)
  have hc0 : (!seen.toArray.isEmpty && !ms.isEmpty && ms.all (fun e => decide (e.born ≥ last))) = false := by
    by_cases hms : ms.isEmpty = true
    · simp [hms]
    · have : ms.all (fun e => decide (e.born ≥ last)) = false := by
        have hsz : 0 < ms.size := by
          rcases Nat.eq_zero_or_pos ms.size with h | h
          · exact absurd (by simpa using h) hms
          · exact h
        rw [Bool.eq_false_iff]
        intro hall
        have := Array.all_eq_true_iff_forall_mem.1 hall ms[0] (by simp)
        have h4 := hbl ms[0] (by simp)
        simp only [decide_eq_true_eq] at this
        omega
      simp [this]
  have hold : ∀ L : Array MapEntry, (∀ e ∈ L, e ∈ ms) → (L.filter fun e => decide (e.born < since)) = L := fun L hL => by
    rw [Array.filter_eq_self]
    intro e he
    have := hbl e (by simpa using hL e he)
    simp; omega
  have hnew : ∀ L : Array MapEntry, (∀ e ∈ L, e ∈ ms) → (L.filter fun e => decide (e.born ≥ since)) = #[] := fun L hL => by
    rw [Array.filter_eq_empty_iff]
    intro e he
    have := hbl e (by simpa using hL e he)
    simp; omega
  have hsub : ∀ e ∈ ms.filter (fun e => !seen.toArray.contains e.born), e ∈ ms := fun e he => (Array.mem_filter.1 he).1
  generalize hL : ms.filter (fun e => !seen.toArray.contains e.born) = L at hsub
  have hbk : G.blk l (.miter (some m) since seen last) = some bl := hb
  by_cases hemp : L.isEmpty = true
  · obtain ⟨i, w1, c1, c2, c3⟩ := choose_ok (P := P) 1 (by omega) w
    have hi0 : i = 0 := by omega
    subst hi0
    have hw1 : WR G σ w1 := by
      rcases c3 with h | h
      · rw [h]; exact hw
      · rw [h]; exact hw.drew
    refine ⟨.tuple #[.bool false], w1, ?_, .inl ⟨?_, hw1, ?_⟩⟩
    · simp only [Instr.next, Sem.run_bind, hgo, Result.andThen_ok, hgm, hc0, Bool.false_eq_true, if_false, Sem.run_pure, hL, hold L hsub, hnew L hsub, hemp, if_true]
      have hLe : L = #[] := by simpa using hemp
      subst hLe
      have hcand : (#[none] ++ Array.map some ((#[] : Array MapEntry) ++ #[])) = #[(none : Option MapEntry)] := by simp
      simp only [hcand, show (#[(none : Option MapEntry)]).size = 1 from rfl, c1, Result.andThen_ok]
      rfl
    · simp only [VR]; exact ⟨_, rfl, VRs.cons (by simp [VR]) VRs.nil⟩
    · intro b hbm
      rw [← k4] at hbm
      obtain ⟨e, he1, he2⟩ := List.mem_map.1 hbm
      by_cases hin : b ∈ seen
      · exact hin
      · exfalso
        have : e ∈ L := by rw [← hL]; exact Array.mem_filter.2 ⟨by simpa using he1, by simp [he2, hin]⟩
        have hLe : L = #[] := by simpa using hemp
        rw [hLe] at this; simp at this
  · have hpos : 0 < L.size := by
      rcases Nat.eq_zero_or_pos L.size with h | h
      · exact absurd (by simpa using h) hemp
      · exact h
    obtain ⟨i, w1, c1, c2, c3⟩ := choose_ok (P := P) L.size hpos w
    have hw1 : WR G σ w1 := by
      rcases c3 with h | h
      · rw [h]; exact hw
      · rw [h]; exact hw.drew
    have hheap : w1.heap = w.heap := by rcases c3 with h | h <;> rw [h] <;> rfl
    have hmem : L[i] ∈ ms.filter (fun e => !seen.toArray.contains e.born) := by rw [hL]; exact Array.getElem_mem c2
    obtain ⟨hm1, hm2⟩ := Array.mem_filter.1 hmem
    obtain ⟨j, e, j1, j2, j3, j4⟩ := entr_mem k3 (m := L[i]) (by simpa using hm1)
    have hns : L[i].born ∉ seen := by simpa using hm2
    refine ⟨.tuple #[.bool true, L[i].key, L[i].val], { w1 with heap := w1.heap.setIfInBounds bl (.mapIter (some bm) since (seen.toArray.push L[i].born) st.clk) }, ?_, .inr ⟨j, L[i].born, e, ?_, hns, j2, ?_, ?_⟩⟩
    · have hci : (L.map some)[i]? = some (some L[i]) := by simp [c2]
      have h2' : w1.heap[bl]? = some (.mapIter (some bm) since seen.toArray last) := by rw [hheap]; exact h2
      have hemp' : L.isEmpty = false := by simpa using hemp
      simp only [Instr.next, Sem.run_bind, hgo, Result.andThen_ok, hgm, hc0, Bool.false_eq_true, if_false, Sem.run_pure, hL, hold L hsub, hnew L hsub, hemp']
      simp only [Array.append_empty, Array.empty_append, Array.size_map, c1, Result.andThen_ok, hci]
      simp [setObj, Sem.run, h2']
    · rw [← k4, List.getElem?_map, j1]; rfl
    · simp only [VR]; exact ⟨_, rfl, VRs.cons (by simp [VR]) (VRs.cons j3 (VRs.cons j4 VRs.nil))⟩
    · have h2' : w1.heap[bl]? = some (.mapIter (some bm) since seen.toArray last) := by rw [hheap]; exact h2
      refine hw1.setObj hs hbk hb (noF_of_obj hw1 h2' (by simp)) ⟨bl, some bm, hb, ?_, bm, rfl, h3⟩
      rw [heap_set w1 bl _ (hw1.own l _ bl hs hbk).2]
      simp
end
end Go.VS
