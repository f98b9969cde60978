import Derived.Test.YtbmnhnohahacaaaGreatDoorVsS1z
namespace Go.Proofs.Tryzv
open Go.RowKit Go.Maps Go.Sort Go.Shelf Go.VS
set_option linter.unusedSimpArgs false
set_option linter.unusedVariables false

set_option maxRecDepth 100000 in
set_option maxHeartbeats 1000000 in
theorem keys2 (n : Nat) (hn : 1 ≤ n) (l Bm bo bm : Nat) (ms : Array MapEntry) (clk : Nat) (ks : List (List UInt8 × List UInt8)) (hk : ms.toList.map (·.key) = ks.map encP)
    (hlt : ∀ e ∈ ms, e.born < clk) (hnd : (ms.toList.map (·.born)).Nodup) (J : List (List UInt8 × List UInt8) → World → Prop)
    (hY : ∀ pre x W, J pre W → pre.length < ks.length → YieldAt Fence.wide (n - 1) Tryz.prog l #[encP x] W fun e W' => e = .returned (.bool true) ∧ J (pre ++ [x]) W' ∧ KeepsWalks W W')
    (W : World) (hJ : AbidesFrom W.heap.size J) (hb : W.cell? ⟨Bm, bo, none⟩ = some (.map (some bm))) (hm : W.heap[bm]? = some (.map ms clk)) (h0 : J [] W) :
    CallsIn Fence.wide n Tryz.prog 137 #[.func (.yield l) #[] #[], .pointer (some ⟨Bm, bo, none⟩)] W fun e W' => (∃ v, e = .returned v) ∧ ∃ xs : List (List UInt8 × List UInt8), xs.Perm ks ∧ J xs W' := by
  have hr := run_mrange (P := Tryz.prog) (t := 103) Tryz.underlying103 hm
  have hbm : bm < W.heap.size := (Array.getElem?_eq_some_iff.1 hm).1
  have hR0 : RAt bm W.heap.size ms clk [] (W.alloc (.mapIter (some bm) clk #[] clk)) := ⟨(Below.heap_alloc _ _ _ hbm).trans hm, World.alloc_heap_new W _⟩
  have hJ0 : J [] (W.alloc (.mapIter (some bm) clk #[] clk)) := hJ [] W _ none h0 (World.grownBy_alloc W _ none) (fun r e => by cases e)
  refine callsIn_of_wp Tryz.func137 rfl trivial ?_ rfl
  simp only [Tryz.ntmps137, List.size_toArray, List.length_cons, List.length_nil, Nat.reduceAdd, Nat.reduceSub, Array.replicate_succ, Array.replicate_zero, List.push_toArray, List.append_toArray, List.nil_append, List.cons_append]
  gi_wp2
  clear hr
  gi_loopw [3] (fun _ wr => ∃ (seen : List Nat) (xs : List (List UInt8 × List UInt8)), RAt bm W.heap.size ms clk seen wr ∧ Came ms ks seen xs ∧ J xs wr)
    (fun _ wr => rleft ks.length W.heap.size wr)
  case atStart => exact ⟨[], [], hR0, Came.start ms ks, hJ0⟩
  case round =>
    obtain ⟨seen, xs, hR, hC, hJx⟩ := hrel
    obtain ⟨v, w1, w2, hw1, hnx, hv⟩ := run_mnext (P := Tryz.prog) 0 hR hlt
    have hlen := hC.len
    rcases hv with ⟨rfl, rfl, hall⟩ | ⟨i, e, he, hns, rfl, rfl⟩
    · have hJ1 : J xs w2 := by
        rcases hw1 with rfl | rfl
        · exact hJx
        · exact hJ xs wr _ none hJx (grownBy_drew wr) (fun r e => by cases e)
      have hP := hC.perm hk hnd hall
      clear hall hw1
      gi_wp2
      go_end0
      exact ⟨⟨_, rfl⟩, xs, hP, hJ1⟩
    · have hR2 := hR.next (by omega) hw1 e.born
      have hC2 := hC.step hk he hns
      obtain ⟨k1, k2, k3⟩ := keys_at hk he
      have hen := run_mentry (P := Tryz.prog) hR2 he hnd
      have hle := hC2.len
      have hrl := hR.rleft ks.length
      have hJ1 : J xs w1 ∧ ∃ o : Obj, w1.heap[W.heap.size]? = some o ∧ o.isWalk = true := by
        rcases hw1 with rfl | rfl
        · exact ⟨hJx, _, hR.i, rfl⟩
        · exact ⟨hJ xs wr _ none hJx (grownBy_drew wr) (fun r e => by cases e), _, hR.i, rfl⟩
      obtain ⟨w3, hw3⟩ : ∃ w3, itTo w1 bm W.heap.size clk (seen ++ [e.born]) = w3 := ⟨_, rfl⟩
      have hJ2 : J xs w3 := by
        rw [← hw3]
        exact hJ xs w1 _ (some W.heap.size) hJ1.1 (grownBy_putObj_a _ _ _) (fun r e => by cases e; exact ⟨Nat.le_refl _, hJ1.2⟩)
      rw [hw3] at hR2 hen hnx
      clear hw3 hw1 hJ1 k3 he hns
      rw [k2] at hnx hen
      clear k2
      generalize ks.getD i ([], []) = x at *
      obtain ⟨x1, x2⟩ := x
      have hJ4 : J xs (w3.alloc (.cells #[.string ⟨x1.toArray⟩, .string ⟨x2.toArray⟩] 107)) := hJ xs w3 _ none hJ2 (World.grownBy_alloc w3 _ none) (fun r e => by cases e)
      have hR4 : RAt bm W.heap.size ms clk (seen ++ [e.born]) (w3.alloc (.cells #[.string ⟨x1.toArray⟩, .string ⟨x2.toArray⟩] 107)) := hR2.of_walks (KeepsWalks.alloc _ _)
      obtain ⟨fn, tmps, assign, body, hy, hRd⟩ := hY xs (x1, x2) _ hJ4 (by simp at hle; omega)
      unfold encP at hnx hen hy
      simp only at hnx hen hy
      gi_wp2
      refine hRd.mono ?_
      rintro en W5 ⟨rfl, hJ5, hk5⟩
      have hR5 := hR4.of_walks hk5
      have hrl5 := hR5.rleft ks.length
      clear hnx hen hy
      gi_wp2
      go_roundw
      case rel => exact ⟨_, _, hR5, hC2, hJ5⟩
      case measure => rw [hrl5, hrl]; simp at hle ⊢; omega

theorem keys2_gives (n : Nat) (hn : 1 ≤ n) (Bm bo bm : Nat) (ms : Array MapEntry) (clk : Nat) (ks : List (List UInt8 × List UInt8)) (hk : ms.toList.map (·.key) = ks.map encP)
    (hlt : ∀ e ∈ ms, e.born < clk) (hnd : (ms.toList.map (·.born)).Nodup) (w : World) (hb : w.cell? ⟨Bm, bo, none⟩ = some (.map (some bm))) (hm : w.heap[bm]? = some (.map ms clk)) :
    SeqGives Fence.wide n Tryz.prog 137 #[.pointer (some ⟨Bm, bo, none⟩)] encP (fun xs => xs.Perm ks) ks.length w := fun l J W hW hJ hY h0 =>
  keys2 n hn l Bm bo bm ms clk ks hk hlt hnd J hY W hJ ((hW.cell (p := ⟨Bm, bo, none⟩) (cell_lt hb)).trans hb) ((hW.block bm (Array.getElem?_eq_some_iff.1 hm).1).trans hm) h0
end Go.Proofs.Tryzv
