import Derived.Test.YtbmnhnohahacaaaGreatDoorVsX
import Derived.Test.YtbmnhnohahacaaaGreatDoorProg
import Derived.Shelf.SlIter.Collect
import Derived.Outline
import Derived.KernelRfl
namespace Go.Proofs.Tryzv
open Go.RowKit Go.Maps Go.Sort Go.Shelf Go.VS
set_option linter.unusedSimpArgs false
set_option linter.unusedVariables false

/-- A place, as the model has it. -/
def encP (p : List UInt8 × List UInt8) : Value := .agg #[.string ⟨p.1.toArray⟩, .string ⟨p.2.toArray⟩]

theorem run_mrange {P : Program} {w : World} {bm : Nat} {ms : Array MapEntry} {clk : Nat} {t kt et : TypeId} (hu : P.underlying t = some (.map kt et)) (hm : w.heap[bm]? = some (.map ms clk)) :
    (Instr.range t (.map (some bm))).run P w = .ok (.pointer (some ⟨w.heap.size, 0, none⟩)) (w.alloc (.mapIter (some bm) clk #[] clk)) := by
  have hgm := run_getMap (P := P) hm
  simp only [Instr.range, Sem.run_bind, run_und hu, Result.andThen_ok, hgm, Sem.run_pure, run_newObj, World.alloc_eq]

/-- Where a range over a map that nobody turns stands. -/
structure RAt (bm it : Nat) (ms : Array MapEntry) (clk : Nat) (seen : List Nat) (w : World) : Prop where
  m : w.heap[bm]? = some (.map ms clk)
  i : w.heap[it]? = some (.mapIter (some bm) clk seen.toArray clk)

/-- The iterator has moved on. -/
def itTo (w : World) (bm it clk : Nat) (seen : List Nat) : World := w.putObj it (.mapIter (some bm) clk seen.toArray clk)

theorem run_mnext {P : Program} {w : World} {bm it clk : Nat} {ms : Array MapEntry} {seen : List Nat} (ty : TypeId) (h : RAt bm it ms clk seen w) (hlt : ∀ e ∈ ms, e.born < clk) :
    ∃ (v : Value) (w1 w' : World), (w1 = w ∨ w1 = w.drew) ∧ (Instr.next (.pointer (some ⟨it, 0, none⟩)) false ty).run P w = .ok v w' ∧ ((v = .tuple #[.bool false] ∧ w' = w1 ∧ ∀ e ∈ ms, e.born ∈ seen) ∨
      ∃ (i : Nat) (e : MapEntry), ms[i]? = some e ∧ e.born ∉ seen ∧ v = .tuple #[.bool true, e.key, e.val] ∧ w' = itTo w1 bm it clk (seen ++ [e.born])) := by
  have hgo : (getObj it).run P w = .ok (.mapIter (some bm) clk seen.toArray clk) w := by simp [getObj, Sem.run, h.i]
  have hgm := run_getMap (P := P) h.m
  have hc0 : (!seen.toArray.isEmpty && !ms.isEmpty && ms.all (fun e => decide (e.born ≥ clk))) = false := by
    by_cases hms : ms.isEmpty = true
    · simp [hms]
    · have : ms.all (fun e => decide (e.born ≥ clk)) = false := by
        have hsz : 0 < ms.size := by
          rcases Nat.eq_zero_or_pos ms.size with h | h
          · exact absurd (by simpa using h) hms
          · exact h
        rw [Bool.eq_false_iff]
        intro hall
        have := Array.all_eq_true_iff_forall_mem.1 hall ms[0] (by simp)
        have h4 := hlt ms[0] (by simp)
        simp only [decide_eq_true_eq] at this
        omega
      simp [this]
  have hold : ∀ L : Array MapEntry, (∀ e ∈ L, e ∈ ms) → (L.filter fun e => decide (e.born < clk)) = L := fun L hL => by
    rw [Array.filter_eq_self]
    intro e he
    have := hlt e (hL e he)
    simp; omega
  have hnew : ∀ L : Array MapEntry, (∀ e ∈ L, e ∈ ms) → (L.filter fun e => decide (e.born ≥ clk)) = #[] := fun L hL => by
    rw [Array.filter_eq_empty_iff]
    intro e he
    have := hlt e (hL e he)
    simp; omega
  have hsub : ∀ e ∈ ms.filter (fun e => !seen.toArray.contains e.born), e ∈ ms := fun e he => (Array.mem_filter.1 he).1
  generalize hL : ms.filter (fun e => !seen.toArray.contains e.born) = L at hsub
  by_cases hemp : L.isEmpty = true
  · obtain ⟨i, w1, c1, c2, c3⟩ := choose_ok (P := P) 1 (by omega) w
    have hi0 : i = 0 := by omega
    subst hi0
    refine ⟨.tuple #[.bool false], w1, w1, c3, ?_, .inl ⟨rfl, rfl, ?_⟩⟩
    · simp only [Instr.next, Sem.run_bind, hgo, Result.andThen_ok, hgm, hc0, Bool.false_eq_true, if_false, Sem.run_pure, hL, hold L hsub, hnew L hsub, hemp, if_true]
      have hLe : L = #[] := by simpa using hemp
      subst hLe
      have hcand : (#[none] ++ Array.map some ((#[] : Array MapEntry) ++ #[])) = #[(none : Option MapEntry)] := by simp
      simp only [hcand, show (#[(none : Option MapEntry)]).size = 1 from rfl, c1, Result.andThen_ok]
      rfl
    · intro e he
      by_cases hin : e.born ∈ seen
      · exact hin
      · exfalso
        have : e ∈ L := by rw [← hL]; exact Array.mem_filter.2 ⟨he, by simp [hin]⟩
        have hLe : L = #[] := by simpa using hemp
        rw [hLe] at this; simp at this
  · have hpos : 0 < L.size := by
      rcases Nat.eq_zero_or_pos L.size with h | h
      · exact absurd (by simpa using h) hemp
      · exact h
    obtain ⟨i, w1, c1, c2, c3⟩ := choose_ok (P := P) L.size hpos w
    have hheap : w1.heap = w.heap := by rcases c3 with h | h <;> rw [h] <;> rfl
    have hmem : L[i] ∈ ms.filter (fun e => !seen.toArray.contains e.born) := by rw [hL]; exact Array.getElem_mem c2
    obtain ⟨hm1, hm2⟩ := Array.mem_filter.1 hmem
    obtain ⟨j, hj, hje⟩ := Array.mem_iff_getElem.1 hm1
    have hns : L[i].born ∉ seen := by simpa using hm2
    refine ⟨.tuple #[.bool true, L[i].key, L[i].val], w1, itTo w1 bm it clk (seen ++ [L[i].born]), c3, ?_, .inr ⟨j, L[i], by rw [Array.getElem?_eq_getElem hj, hje], hns, rfl, rfl⟩⟩
    have hci : (L.map some)[i]? = some (some L[i]) := by simp [c2]
    have h2' : w1.heap[it]? = some (.mapIter (some bm) clk seen.toArray clk) := by rw [hheap]; exact h.i
    have hemp' : L.isEmpty = false := by simpa using hemp
    simp only [Instr.next, Sem.run_bind, hgo, Result.andThen_ok, hgm, hc0, Bool.false_eq_true, if_false, Sem.run_pure, hL, hold L hsub, hnew L hsub, hemp']
    simp only [Array.append_empty, Array.empty_append, Array.size_map, c1, Result.andThen_ok, hci]
    simp [setObj, Sem.run, h2', itTo, World.putObj]

theorem RAt.next {w w1 : World} {bm it clk : Nat} {ms : Array MapEntry} {seen : List Nat} (h : RAt bm it ms clk seen w) (hne : it ≠ bm) (hw : w1 = w ∨ w1 = w.drew) (b : Nat) :
    RAt bm it ms clk (seen ++ [b]) (itTo w1 bm it clk (seen ++ [b])) := by
  have hheap : w1.heap = w.heap := by rcases hw with h | h <;> rw [h] <;> rfl
  have hl : it < w1.heap.size := by rw [hheap]; exact (Array.getElem?_eq_some_iff.1 h.i).1
  exact ⟨(World.putObj_heap_other (fun e => hne e.symm)).trans (by rw [hheap]; exact h.m), World.putObj_heap_same hl⟩

theorem run_mentry {P : Program} {w : World} {bm it clk : Nat} {ms : Array MapEntry} {seen : List Nat} {i : Nat} {e : MapEntry} (h : RAt bm it ms clk (seen ++ [e.born]) w) (he : ms[i]? = some e) (hnd : (ms.toList.map (·.born)).Nodup) :
    (Instr.entry (.pointer (some ⟨it, 0, none⟩))).run P w = .ok (.tuple #[e.key, e.val]) w := by
  have hgo : (getObj it).run P w = .ok (.mapIter (some bm) clk (seen ++ [e.born]).toArray clk) w := by simp [getObj, Sem.run, h.i]
  have hgm := run_getMap (P := P) h.m
  have hf : ms.find? (fun m => m.born == e.born) = some e := by
    rw [← Array.find?_toList]
    have he' : ms.toList[i]? = some e := by rw [Array.getElem?_toList]; exact he
    have key : ∀ (L : List MapEntry) (i : Nat), (L.map (·.born)).Nodup → L[i]? = some e → L.find? (fun m => m.born == e.born) = some e := by
      intro L
      induction L with
      | nil => intro i _ h; simp at h
      | cons x L ih =>
        intro i hn h
        simp only [List.map_cons, List.nodup_cons] at hn
        cases i with
        | zero => simp at h; subst h; simp
        | succ i =>
          simp at h
          have hm : e ∈ L := List.mem_of_getElem? h
          have hne : x.born ≠ e.born := fun hh => hn.1 (List.mem_map.2 ⟨e, hm, hh.symm⟩)
          rw [List.find?_cons_of_neg (by simpa using hne)]
          exact ih i hn.2 h
    exact key _ i hnd he'
  have hbk : (seen ++ [e.born]).toArray.back? = some e.born := by simp
  simp only [Instr.entry, Sem.run_bind, hgo, Result.andThen_ok, hbk, hgm]
  simp [hf]

theorem RAt.of_walks {w w' : World} {bm it clk : Nat} {ms : Array MapEntry} {seen : List Nat} (h : RAt bm it ms clk seen w) (hk : KeepsWalks w w') : RAt bm it ms clk seen w' :=
  ⟨hk.same _ _ h.m rfl, hk.same _ _ h.i rfl⟩

/-- What has come: the entries with these numbers, in this row. -/
structure Came (ms : Array MapEntry) (ks : List (List UInt8 × List UInt8)) (seen : List Nat) (xs : List (List UInt8 × List UInt8)) : Prop where
  idx : ∃ is : List Nat, is.Nodup ∧ (∀ i ∈ is, i < ks.length) ∧ seen = is.map (fun i => (ms.toList.map (·.born)).getD i 0) ∧ xs = is.map fun i => ks.getD i ([], [])

theorem encP_inj {a b : List UInt8 × List UInt8} (h : encP a = encP b) : a = b := by
  simp only [encP, Value.agg.injEq, Array.mk.injEq, List.cons.injEq, Value.string.injEq, ByteArray.mk.injEq, and_true] at h
  exact Prod.ext h.1 h.2

theorem keys_at {ms : Array MapEntry} {ks : List (List UInt8 × List UInt8)} (hk : ms.toList.map (·.key) = ks.map encP) {i : Nat} {e : MapEntry} (he : ms[i]? = some e) :
    i < ks.length ∧ e.key = encP (ks.getD i ([], [])) ∧ (ms.toList.map (·.born)).getD i 0 = e.born := by
  have he' : ms.toList[i]? = some e := by rw [Array.getElem?_toList]; exact he
  have h1 := congrArg (·[i]?) hk
  simp only [List.getElem?_map, he', Option.map_some] at h1
  cases hx : ks[i]? with
  | none => rw [hx] at h1; cases h1
  | some x =>
    rw [hx] at h1
    simp only [Option.map_some, Option.some.injEq] at h1
    exact ⟨(List.getElem?_eq_some_iff.1 hx).1, by rw [List.getD_eq_getElem?_getD, hx]; exact h1, by simp [List.getD_eq_getElem?_getD, he']⟩

theorem Came.start (ms : Array MapEntry) (ks : List (List UInt8 × List UInt8)) : Came ms ks [] [] := ⟨[], by simp, by simp, rfl, rfl⟩
theorem Came.step {ms : Array MapEntry} {ks xs : List (List UInt8 × List UInt8)} {seen : List Nat} (h : Came ms ks seen xs) (hk : ms.toList.map (·.key) = ks.map encP) {i : Nat} {e : MapEntry} (he : ms[i]? = some e) (hn : e.born ∉ seen) :
    Came ms ks (seen ++ [e.born]) (xs ++ [ks.getD i ([], [])]) := by
  obtain ⟨is, h1, h2, h3, h4⟩ := h.idx
  obtain ⟨k1, k2, k3⟩ := keys_at hk he
  refine ⟨is ++ [i], ?_, ?_, ?_, ?_⟩
  · rw [List.nodup_append]
    refine ⟨h1, by simp, ?_⟩
    intro a ha b hb hab
    simp at hb; subst hb; subst hab
    exact hn (by rw [h3]; exact List.mem_map.2 ⟨a, ha, k3⟩)
  · intro j hj
    rcases List.mem_append.1 hj with hj | hj
    · exact h2 j hj
    · simp at hj; subst hj; exact k1
  · rw [List.map_append, h3]; simp only [List.map_cons, List.map_nil, k3]
  · rw [List.map_append, h4]; rfl
theorem nodup_le : ∀ (n : Nat) (is : List Nat), is.Nodup → (∀ i ∈ is, i < n) → is.length ≤ n
  | 0, is, _, h => by
    cases is with
    | nil => simp
    | cons a r => exact absurd (h a (by simp)) (by omega)
  | n + 1, is, hn, h => by
    by_cases hm : n ∈ is
    · have h1 := nodup_le n (is.erase n) (hn.erase n) (fun i hi => by
        have h2 := (List.Nodup.mem_erase_iff hn).1 hi
        have := h i h2.2
        have := h2.1
        omega)
      rw [List.length_erase_of_mem hm] at h1
      omega
    · have := nodup_le n is hn (fun i hi => by
        have := h i hi
        have : i ≠ n := fun e => hm (e ▸ hi)
        omega)
      omega
theorem nodup_inj {l : List Nat} (h : l.Nodup) {i j : Nat} {hi : i < l.length} {hj : j < l.length} (he : l[i] = l[j]) : i = j := by
  have hp := List.pairwise_iff_getElem.1 h
  rcases Nat.lt_trichotomy i j with h1 | h1 | h1
  · exact absurd he (hp i j hi hj h1)
  · exact h1
  · exact absurd he.symm (hp j i hj hi h1)
theorem Came.len {ms : Array MapEntry} {ks xs : List (List UInt8 × List UInt8)} {seen : List Nat} (h : Came ms ks seen xs) : xs.length ≤ ks.length ∧ seen.length = xs.length := by
  obtain ⟨is, h1, h2, h3, h4⟩ := h.idx
  rw [h3, h4]
  simp only [List.length_map, and_true]
  exact nodup_le _ _ h1 h2
theorem Came.perm {ms : Array MapEntry} {ks xs : List (List UInt8 × List UInt8)} {seen : List Nat} (h : Came ms ks seen xs) (hk : ms.toList.map (·.key) = ks.map encP) (hnd : (ms.toList.map (·.born)).Nodup)
    (hall : ∀ e ∈ ms, e.born ∈ seen) : xs.Perm ks := by
  obtain ⟨is, h1, h2, h3, h4⟩ := h.idx
  have hl : ms.toList.length = ks.length := by have := congrArg List.length hk; simpa using this
  have hp : is.Perm (List.range ks.length) := by
    rw [List.perm_ext_iff_of_nodup h1 List.nodup_range]
    intro i
    rw [List.mem_range]
    refine ⟨h2 i, fun hi => ?_⟩
    have hi' : i < ms.toList.length := by omega
    have hb := hall ms.toList[i] (by simp)
    rw [h3] at hb
    obtain ⟨j, hj, hje⟩ := List.mem_map.1 hb
    have hj' : j < ms.toList.length := by rw [hl]; exact h2 j hj
    have e1 : (ms.toList.map (·.born)).getD j 0 = (ms.toList.map (·.born))[j]'(by simpa using hj') := by
      rw [List.getD_eq_getElem?_getD, List.getElem?_eq_getElem (by simpa using hj')]; rfl
    have e2 : ms.toList[i].born = (ms.toList.map (·.born))[i]'(by simpa using hi') := by simp
    rw [e1, e2] at hje
    have := nodup_inj hnd hje
    rw [← this]; exact hj
  rw [h4]
  have := hp.map fun i => ks.getD i ([], [])
  refine this.trans (List.Perm.of_eq ?_)
  apply List.ext_getElem?
  intro i
  simp only [List.getElem?_map]
  by_cases hi : i < ks.length
  · rw [List.getElem?_range hi]; simp [List.getD_eq_getElem?_getD, hi]
  · rw [List.getElem?_eq_none (by simpa using hi), List.getElem?_eq_none (by omega)]; rfl

theorem grownBy_drew (W : World) : W.grownBy W.drew none := ⟨rfl, rfl, rfl, Nat.le_refl _, fun _ _ _ => rfl⟩
/-- How many are still to come. -/
def rleft (n it : Nat) (w : World) : Nat := match w.heap[it]? with
  | some (.mapIter _ _ s _) => n - s.size
  | _ => 0
theorem RAt.rleft {w : World} {bm it clk : Nat} {ms : Array MapEntry} {seen : List Nat} (h : RAt bm it ms clk seen w) (n : Nat) : rleft n it w = n - seen.length := by
  simp [Tryzv.rleft, h.i]

set_option maxRecDepth 100000 in
set_option maxHeartbeats 1000000 in
theorem keys1 (n : Nat) (hn : 1 ≤ n) (l Bm bo bm : Nat) (ms : Array MapEntry) (clk : Nat) (ks : List (List UInt8 × List UInt8)) (hk : ms.toList.map (·.key) = ks.map encP)
    (hlt : ∀ e ∈ ms, e.born < clk) (hnd : (ms.toList.map (·.born)).Nodup) (J : List (List UInt8 × List UInt8) → World → Prop)
    (hY : ∀ pre x W, J pre W → pre.length < ks.length → YieldAt Fence.wide (n - 1) Tryz.prog l #[encP x] W fun e W' => e = .returned (.bool true) ∧ J (pre ++ [x]) W' ∧ KeepsWalks W W')
    (W : World) (hJ : AbidesFrom W.heap.size J) (hb : W.cell? ⟨Bm, bo, none⟩ = some (.map (some bm))) (hm : W.heap[bm]? = some (.map ms clk)) (h0 : J [] W) :
    CallsIn Fence.wide n Tryz.prog 149 #[.func (.yield l) #[] #[], .pointer (some ⟨Bm, bo, none⟩)] W fun e W' => (∃ v, e = .returned v) ∧ ∃ xs : List (List UInt8 × List UInt8), xs.Perm ks ∧ J xs W' := by
  have hr := run_mrange (P := Tryz.prog) (t := 102) Tryz.underlying102 hm
  have hbm : bm < W.heap.size := (Array.getElem?_eq_some_iff.1 hm).1
  have hR0 : RAt bm W.heap.size ms clk [] (W.alloc (.mapIter (some bm) clk #[] clk)) := ⟨(Below.heap_alloc _ _ _ hbm).trans hm, World.alloc_heap_new W _⟩
  have hJ0 : J [] (W.alloc (.mapIter (some bm) clk #[] clk)) := hJ [] W _ none h0 (World.grownBy_alloc W _ none) (fun r e => by cases e)
  refine callsIn_of_wp Tryz.func149 rfl trivial ?_ rfl
  simp only [Tryz.ntmps149, List.size_toArray, List.length_cons, List.length_nil, Nat.reduceAdd, Nat.reduceSub, Array.replicate_succ, Array.replicate_zero, List.push_toArray, List.append_toArray, List.nil_append, List.cons_append]
  gi_wp2
  clear hr
  gi_loopw [3] (fun _ wr => ∃ (seen : List Nat) (xs : List (List UInt8 × List UInt8)), RAt bm W.heap.size ms clk seen wr ∧ Came ms ks seen xs ∧ J xs wr)
    (fun _ wr => rleft ks.length W.heap.size wr)
  case atStart => exact ⟨[], [], hR0, Came.start ms ks, hJ0⟩
  case round =>
    obtain ⟨seen, xs, hR, hC, hJx⟩ := hrel
    obtain ⟨v, w1, w2, hw1, hnx, hv⟩ := run_mnext (P := Tryz.prog) 0 hR hlt
    have hlen := hC.len
    rcases hv with ⟨rfl, rfl, hall⟩ | ⟨i, e, he, hns, rfl, rfl⟩
    · have hJ1 : J xs w2 := by
        rcases hw1 with rfl | rfl
        · exact hJx
        · exact hJ xs wr _ none hJx (grownBy_drew wr) (fun r e => by cases e)
      have hP := hC.perm hk hnd hall
      clear hall hw1
      gi_wp2
      go_end0
      exact ⟨⟨_, rfl⟩, xs, hP, hJ1⟩
    · have hR2 := hR.next (by omega) hw1 e.born
      have hC2 := hC.step hk he hns
      obtain ⟨k1, k2, k3⟩ := keys_at hk he
      have hen := run_mentry (P := Tryz.prog) hR2 he hnd
      have hle := hC2.len
      have hrl := hR.rleft ks.length
      have hJ1 : J xs w1 ∧ ∃ o : Obj, w1.heap[W.heap.size]? = some o ∧ o.isWalk = true := by
        rcases hw1 with rfl | rfl
        · exact ⟨hJx, _, hR.i, rfl⟩
        · exact ⟨hJ xs wr _ none hJx (grownBy_drew wr) (fun r e => by cases e), _, hR.i, rfl⟩
      obtain ⟨w3, hw3⟩ : ∃ w3, itTo w1 bm W.heap.size clk (seen ++ [e.born]) = w3 := ⟨_, rfl⟩
      have hJ2 : J xs w3 := by
        rw [← hw3]
        exact hJ xs w1 _ (some W.heap.size) hJ1.1 (grownBy_putObj_a _ _ _) (fun r e => by cases e; exact ⟨Nat.le_refl _, hJ1.2⟩)
      rw [hw3] at hR2 hen hnx
      clear hw3 hw1 hJ1 k3 he hns
      rw [k2] at hnx hen
      clear k2
      generalize ks.getD i ([], []) = x at *
      obtain ⟨x1, x2⟩ := x
      have hJ4 : J xs (w3.alloc (.cells #[.string ⟨x1.toArray⟩, .string ⟨x2.toArray⟩] 107)) := hJ xs w3 _ none hJ2 (World.grownBy_alloc w3 _ none) (fun r e => by cases e)
      have hR4 : RAt bm W.heap.size ms clk (seen ++ [e.born]) (w3.alloc (.cells #[.string ⟨x1.toArray⟩, .string ⟨x2.toArray⟩] 107)) := hR2.of_walks (KeepsWalks.alloc _ _)
      obtain ⟨fn, tmps, assign, body, hy, hRd⟩ := hY xs (x1, x2) _ hJ4 (by simp at hle; omega)
      unfold encP at hnx hen hy
      simp only at hnx hen hy
      gi_wp2
      refine hRd.mono ?_
      rintro en W5 ⟨rfl, hJ5, hk5⟩
      have hR5 := hR4.of_walks hk5
      have hrl5 := hR5.rleft ks.length
      clear hnx hen hy
      gi_wp2
      go_roundw
      case rel => exact ⟨_, _, hR5, hC2, hJ5⟩
      case measure => rw [hrl5, hrl]; simp at hle ⊢; omega

theorem keys1_gives (n : Nat) (hn : 1 ≤ n) (Bm bo bm : Nat) (ms : Array MapEntry) (clk : Nat) (ks : List (List UInt8 × List UInt8)) (hk : ms.toList.map (·.key) = ks.map encP)
    (hlt : ∀ e ∈ ms, e.born < clk) (hnd : (ms.toList.map (·.born)).Nodup) (w : World) (hb : w.cell? ⟨Bm, bo, none⟩ = some (.map (some bm))) (hm : w.heap[bm]? = some (.map ms clk)) :
    SeqGives Fence.wide n Tryz.prog 149 #[.pointer (some ⟨Bm, bo, none⟩)] encP (fun xs => xs.Perm ks) ks.length w := fun l J W hW hJ hY h0 =>
  keys1 n hn l Bm bo bm ms clk ks hk hlt hnd J hY W hJ ((hW.cell (p := ⟨Bm, bo, none⟩) (cell_lt hb)).trans hb) ((hW.block bm (Array.getElem?_eq_some_iff.1 hm).1).trans hm) h0
end Go.Proofs.Tryzv
