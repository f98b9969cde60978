/-
  VALUE SEMANTICS, PART O. One operation: what is shown of it over abstract values holds in the model.
-/
import Derived.Test.YtbmnhnohahacaaaGreatDoorVsNb
namespace Go.VS
open Go.RowKit
set_option linter.unusedSimpArgs false
set_option linter.unusedVariables false
set_option maxRecDepth 4000

section
variable {P : Program} {G : Ghost} {σ : AS} {w : World} {γ : Ctx} {t : List AV} {a : Act}

theorem calls_upon {f : FuncId} {args : Array Value} {o : Oper} {r : Result Next} {next : Act → World → Prop} {Q : Exit → Act → World → Prop} {R : Ending → World → Prop}
    (hr : r = (callFunc f args).run P w) (h : CallsX P f args w R) (hn : ∀ v w', R (.returned v) w' → next (a.put o.dst v) w') (hq : ∀ ch w', R (.panicked ch) w' → Q (.panic ch) a w')
    (ho : ∀ w', ¬ R .outgrown w') : o.upon P a next Q r := by
  subst hr
  rcases h with ⟨h1, h2⟩ | ⟨v, w', h1, h2⟩
  · rw [h1, Oper.upon_enter]
    refine h2.mono fun e w' he => ?_
    cases e with
    | returned v => exact hn v w' he
    | panicked ch => exact hq ch w' he
    | outgrown => exact absurd he (ho w')
  · rw [h1, Oper.upon_value]
    exact hn v w' h2

theorem aop_sound {h : Hint} {o : Oper} {io : IOp} (hc : compOp P h o = some io) (hnd : ∀ f as, io ≠ .defer f as) (hnf : ∀ s n v, io ≠ .storef s n v)
    (hg : GOK γ G) (ht : VRs G t a.tmps.toList) (hw : WR G σ w) {K Kp : AV → AS → Prop} (hA : AOp P γ (XO.ev γ t) σ K Kp io) {next : Act → World → Prop} {Q : Exit → Act → World → Prop}
    (hn : ∀ G' σ' w' av v, G.le G' → WR G' σ' w' → VR G' av v → K av σ' → next (a.put o.dst v) w')
    (hp : ∀ G' σ' w' av v, G.le G' → WR G' σ' w' → VR G' av v → Kp av σ' → Q (.panic [{ v, recovered := false }]) a w') : o.wp P a w next Q := by
  have pure_case : ∀ q, io = .p q → o.wp P a w next Q := fun q hq => by
    subst hq
    simp only [AOp] at hA
    cases hpp : pop (XO.ev γ t) q with
    | none => rw [hpp] at hA; exact hA.elim
    | some av =>
      rw [hpp] at hA
      obtain ⟨v, w', G', h1, h2, h3, h4⟩ := pop_sound hc hpp hg ht hw
      unfold Oper.wp
      rw [h1, Oper.upon_value]
      exact hn G' σ w' av v h2 h3 h4 hA
  have okv : ∀ {s : Sem Value} {av : AV} {σ' : AS}, (execOp a.eval o).run P w = (do pure (.value (← s)) : Sem Next).run P w → OkV P s G σ w av → K av σ → o.wp P a w next Q := fun {s av σ'} he hv hk => by
    obtain ⟨v, w', G', h1, h2, h3, h4⟩ := hv
    unfold Oper.wp
    rw [he]
    simp only [Sem.run_bind, h1, Result.andThen_ok, Sem.run_pure, Oper.upon_value]
    exact hn G' σ w' av v h2 h3 h4 hk
  have hund : ∀ G', VR G' undefA undef := fun G' => by simp [undefA, undef, VR, VRs]
  have hc0 := hc
  obtain ⟨dst, op, type, pos, after, guard⟩ := o
  unfold compOp at hc
  split at hc
  · obtain ⟨y, h1, h2⟩ := map_some hc; exact pure_case _ h2.symm
  · obtain ⟨y, h1, h2⟩ := map_some hc; exact pure_case _ h2.symm
  · split at hc
    · simp only [Option.some.injEq] at hc; exact pure_case _ hc.symm
    · cases hc
  · -- alloc
    rename_i hop; simp only at hop; subst hop
    split at hc
    · rename_i z hz
      split at hc
      · split at hc
        · simp only [Option.some.injEq] at hc; exact pure_case _ hc.symm
        · split at hc
          · rename_i hk
            simp only [Option.some.injEq] at hc; subst hc
            simp only [AOp] at hA
            obtain ⟨zv, hz1, hz2⟩ := zeroOf_ok hz w G
            obtain ⟨l, G', h1, h2, h3, h4⟩ := alloc_cells hw _ (hz2.cells (knownA hk)) (hz2.ones hk)
            unfold Oper.wp
            simp only [execOp, Instr.alloc, Sem.run_bind, hz1, Result.andThen_ok, newVar, newRow, run_newObj, World.alloc_eq, Sem.run_pure, Oper.upon_value]
            rw [Array.toArray_toList] at h3
            exact hn G' _ _ _ _ h2 h3 h4 (hA l (nw hg h1))
          · cases hc
      · cases hc
    · cases hc
  · -- box
    rename_i hop; simp only at hop; subst hop
    split at hc
    · rename_i x hx
      split at hc
      · split at hc
        · simp only [Option.some.injEq] at hc; exact pure_case _ hc.symm
        · simp only [Option.some.injEq] at hc; subst hc
          simp only [AOp] at hA
          obtain ⟨hk, hA⟩ := hA
          have hv := io_ok hg ht hx
          obtain ⟨l, G', h1, h2, h3, h4⟩ := alloc_cells hw _ (hv.cells (knownA hk)) (hv.ones hk)
          unfold Oper.wp
          simp only [execOp, Instr.box, Sem.run_bind, newVar, newRow, run_newObj, World.alloc_eq, Result.andThen_ok, Sem.run_pure, Oper.upon_value]
          rw [Array.toArray_toList] at h3
          exact hn G' _ _ _ _ h2 h3 h4 (hA l (nw hg h1))
      · cases hc
    · cases hc
  · split at hc
    · split at hc
      · obtain ⟨y, h1, h2⟩ := map_some hc; exact pure_case _ h2.symm
      · cases hc
    · cases hc
  · split at hc
    · split at hc
      · split at hc
        · obtain ⟨y, h1, h2⟩ := map_some hc; exact pure_case _ h2.symm
        · cases hc
      · cases hc
    · cases hc
  · -- load
    rename_i hop; simp only at hop; subst hop
    split at hc
    · rename_i ag n y h1 h2 h3
      split at hc
      · simp only [Option.some.injEq] at hc; exact pure_case _ hc.symm
      · simp only [Option.some.injEq] at hc; subst hc
        have hx := io_ok hg ht h3
        simp only [AOp, stOp] at hA
        split at hA
        · rename_i l o he
          split at hA
          · rename_i cs hs
            cases hpa : partA ag cs o n with
            | none => rw [hpa] at hA; exact hA.elim
            | some av =>
              rw [hpa] at hA
              rw [he] at hx; simp only [VR] at hx
              obtain ⟨b, hb, hxe⟩ := hx
              obtain ⟨b', vs, e, k1, k2, k3, k4, k5⟩ := hw.obj l _ hs
              rw [hb] at k1; cases k1
              have hrow : Row w b 0 vs := fun i v ev => by simp [World.cell?, k2, ev]
              obtain ⟨v, k6, k7⟩ := part_read (P := P) (off := o) hrow k3 k5 hpa h1 h2
              refine okv (σ' := σ) (s := Instr.loadAt _ (a.eval _)) rfl (.same hw ?_ k7) hA
              rw [hxe]; simpa [Instr.loadAt, Instr.sureAddr] using k6
          · exact hA.elim
        · rename_i cs he
          cases hpa : partA ag cs 0 n with
          | none => rw [hpa] at hA; exact hA.elim
          | some av =>
            rw [hpa] at hA
            rw [he] at hx
            exact okv (σ' := σ) (s := Instr.loadAt _ (a.eval _)) rfl (load_frozen hw hx hpa h1 h2) hA
        · exact hA.elim
    · cases hc
  · -- store
    rename_i hop; simp only at hop; subst hop
    have key : ∀ {n : Nat} {y v : XO} {tt : TypeId} {xx vv : Operand}, szOf P tt = some n → ioOf P 0 xx = some y → ioOf P tt vv = some v → AOp P γ (XO.ev γ t) σ K Kp (.store n y v) →
        Oper.wp P ⟨dst, .store tt xx vv, type, pos, after, guard⟩ a w next Q := by
      intro n y v tt xx vv h1 h2 h3 hA
      have hx := io_ok hg ht h2
      have hv := io_ok hg ht h3
      simp only [AOp, stOp] at hA
      split at hA
      · rename_i l o he
        split at hA
        · rename_i cs hs
          split at hA
          · rename_i hcond
            rw [he] at hx
            obtain ⟨w', k1, k2⟩ := storeAt_ok (P := P) hw hs hx hv hcond.1 hcond.2.1 h1 hcond.2.2
            unfold Oper.wp
            simp only [execOp, Sem.run_bind, k1, Result.andThen_ok, Sem.run_pure, Oper.upon_skip]
            exact hn G _ _ _ _ (.refl G) k2 (hund G) hA
          · exact hA.elim
        · exact hA.elim
      · exact hA.elim
    split at hc
    · rename_i h1 h2 h3
      split at hc
      · split at hc
        · simp only [Option.some.injEq] at hc; exact absurd hc.symm (hnf _ _ _)
        · simp only [Option.some.injEq] at hc; subst hc; exact key h1 h2 h3 hA
      · simp only [Option.some.injEq] at hc; subst hc; exact key h1 h2 h3 hA
    · cases hc
  · obtain ⟨y, h1, h2⟩ := map_some hc; exact pure_case _ h2.symm
  · -- binOp
    have : ∃ q, io = .p q := by
      unfold compBin at hc
      split at hc
      · obtain ⟨_, _, _, _, h3⟩ := comp2_ok hc; exact ⟨_, h3⟩
      · obtain ⟨_, _, _, _, h3⟩ := comp2_ok hc; exact ⟨_, h3⟩
      · split at hc
        · split at hc
          · obtain ⟨_, _, _, _, h3⟩ := comp2_ok hc; exact ⟨_, h3⟩
          · split at hc
            · split at hc
              · obtain ⟨_, _, _, _, h3⟩ := comp2_ok hc; exact ⟨_, h3⟩
              · cases hc
            · cases hc
        · cases hc
    obtain ⟨q, hq⟩ := this
    exact pure_case q hq
  · obtain ⟨y, h1, h2⟩ := map_some hc; exact pure_case _ h2.symm
  · -- convert
    have : ∃ q, io = .p q := by
      unfold compConv at hc
      split at hc
      · obtain ⟨y, h1, h2⟩ := map_some hc; exact ⟨_, h2.symm⟩
      · obtain ⟨y, h1, h2⟩ := map_some hc; exact ⟨_, h2.symm⟩
      · split at hc
        · obtain ⟨y, h1, h2⟩ := map_some hc; exact ⟨_, h2.symm⟩
        · cases hc
      · split at hc
        · obtain ⟨y, h1, h2⟩ := map_some hc; exact ⟨_, h2.symm⟩
        · cases hc
      · obtain ⟨y, h1, h2⟩ := map_some hc; exact ⟨_, h2.symm⟩
      · cases hc
    obtain ⟨q, hq⟩ := this
    exact pure_case q hq
  · split at hc
    · cases hc
    · obtain ⟨y, h1, h2⟩ := map_some hc; exact pure_case _ h2.symm
    · cases hc
  · split at hc
    · simp only [Option.some.injEq] at hc; exact pure_case _ hc.symm
    · cases hc
  · -- makeMap
    rename_i hop; simp only at hop; subst hop
    simp only [Option.some.injEq] at hc; subst hc
    simp only [AOp] at hA
    obtain ⟨l, G', h1, h2, h3, h4⟩ := alloc_place hw (.map #[] 0) (.map [] .nil) (by simp) (fun l hl => ⟨w.heap.size, #[], by simp [Ghost.addρ], heap_new w _, rfl, rfl⟩)
    unfold Oper.wp
    simp only [execOp, Instr.makeMap, Option.map_none, Sem.run_bind, run_newObj, World.alloc_eq, Result.andThen_ok, Sem.run_pure, Oper.upon_value]
    exact hn G' _ _ _ _ h2 h3 (by simp only [VR]; exact ⟨_, h4, rfl⟩) (hA l (nw hg h1))
  · -- slice
    split at hc
    · split at hc
      · simp only [Option.some.injEq] at hc; exact pure_case _ hc.symm
      · cases hc
    · split at hc
      · split at hc
        · cases hc
        · simp only [Option.some.injEq] at hc; exact pure_case _ hc.symm
      · cases hc
    · cases hc
  · -- fieldAddr
    split at hc
    · split at hc
      · split at hc
        · split at hc
          · cases hc
          · simp only [Option.some.injEq] at hc; exact pure_case _ hc.symm
        · cases hc
      · cases hc
    · cases hc
  · split at hc
    · split at hc
      · split at hc
        · simp only [Option.some.injEq] at hc; exact pure_case _ hc.symm
        · cases hc
      · cases hc
    · cases hc
  · split at hc
    · split at hc
      · simp only [Option.some.injEq] at hc; exact pure_case _ hc.symm
      · cases hc
    · split at hc
      · split at hc
        · simp only [Option.some.injEq] at hc; exact pure_case _ hc.symm
        · cases hc
      · cases hc
    · cases hc
  · split at hc
    · split at hc
      · simp only [Option.some.injEq] at hc; exact pure_case _ hc.symm
      · cases hc
    · split at hc
      · simp only [Option.some.injEq] at hc; exact pure_case _ hc.symm
      · cases hc
    · cases hc
  · -- lookup
    rename_i hop; simp only at hop; subst hop
    split at hc
    · rename_i kt e hu
      split at hc
      · rename_i pl z x i h1 h2 h3 h4
        simp only [Option.some.injEq] at hc; subst hc
        have hm := io_ok hg ht h3
        have hx := io_ok hg ht h4
        simp only [AOp, stOp] at hA
        split at hA
        · rename_i hfit
          split at hA
          · rename_i l he
            split at hA
            · rename_i es st hs
              rw [he] at hm
              cases hl : lookA pl es (XO.ev γ t i) with
              | none => rw [hl] at hA; exact hA.elim
              | some r =>
                rw [hl] at hA
                have := lookup_ok (P := P) (by assumption) hw hm hs hx hu h1 hfit h2 hl
                cases r with
                | none => exact okv (σ' := σ) (s := Instr.lookup _ (a.eval _) (a.eval _) _) rfl this hA
                | some v => exact okv (σ' := σ) (s := Instr.lookup _ (a.eval _) (a.eval _) _) rfl this hA
            · exact hA.elim
          · rename_i he
            rw [he] at hm; simp only [VR] at hm
            refine okv (σ' := σ) (s := Instr.lookup _ (a.eval _) (a.eval _) _) rfl ?_ hA
            rw [hm]
            exact lookup_nil _ hw hx hu h1 hfit h2
          · exact hA.elim
        · exact hA.elim
      · cases hc
    · cases hc
  · -- mapUpdate
    rename_i hop; simp only at hop; subst hop
    split at hc
    · rename_i kt e hu
      split at hc
      · rename_i pl m k v h1 h2 h3 h4
        simp only [Option.some.injEq] at hc; subst hc
        have hm := io_ok hg ht h2
        have hx := io_ok hg ht h3
        have hv := io_ok hg ht h4
        simp only [AOp, stOp] at hA
        split at hA
        · rename_i hfit
          split at hA
          · rename_i l he
            split at hA
            · rename_i es st hs
              rw [he] at hm
              cases hl : setA pl es (XO.ev γ t k) (XO.ev γ t v) with
              | none => rw [hl] at hA; exact hA.elim
              | some r =>
                rw [hl] at hA
                obtain ⟨w', k1, k2⟩ := mapset_ok (P := P) hw hm hs hx hv hu h1 hfit hl
                unfold Oper.wp
                simp only [execOp, Sem.run_bind, k1, Result.andThen_ok, Sem.run_pure, Oper.upon_skip]
                exact hn G _ _ _ _ (.refl G) k2 (hund G) hA
            · exact hA.elim
          · exact hA.elim
        · exact hA.elim
      · cases hc
    · cases hc
  · -- range
    rename_i hop; simp only at hop; subst hop
    split at hc
    · rename_i hu
      obtain ⟨y, h1, h2⟩ := map_some hc
      subst h2
      have hx := io_ok hg ht h1
      simp only [AOp] at hA
      split at hA
      · rename_i s he
        rw [he] at hx; simp only [VR] at hx
        obtain ⟨l, G', h1, h2, h3, h4⟩ := alloc_place hw (.stringIter ⟨s.toArray⟩ 0) (.iter s 0) (by simp) (fun l hl => ⟨w.heap.size, by simp [Ghost.addρ], heap_new w _⟩)
        unfold Oper.wp
        simp only [execOp, Instr.range, Sem.run_bind, run_und hu, Result.andThen_ok, hx, Sem.run_pure, run_newObj, World.alloc_eq, Oper.upon_value]
        exact hn G' _ _ _ _ h2 h3 (by simp only [VR]; exact ⟨_, h4, rfl⟩) (hA l (nw hg h1))
      · exact hA.elim
    · rename_i hu
      obtain ⟨y, h1, h2⟩ := map_some hc
      subst h2
      have hx := io_ok hg ht h1
      simp only [AOp] at hA
      split at hA
      · rename_i l he
        split at hA
        · rename_i es st hs
          rw [he] at hx; simp only [VR] at hx
          obtain ⟨b, hb, hxe⟩ := hx
          obtain ⟨b', ms, k1, k2, _⟩ := hw.obj l _ hs
          rw [hb] at k1; cases k1
          obtain ⟨it, G', h1, h2, h3, h4⟩ := alloc_place hw (.mapIter (some b) st.clk #[] st.clk) (.miter (some l) st.clk [] st.clk) (by simp)
            (fun l' hl => ⟨w.heap.size, some b, by simp [Ghost.addρ], heap_new w _, b, rfl, (Ghost.le_addρ hl).ρ _ _ hb⟩)
          have hgm := run_getMap (P := P) k2
          unfold Oper.wp
          simp only [execOp, Instr.range, Sem.run_bind, run_und hu, Result.andThen_ok, hxe, hgm, Sem.run_pure, run_newObj, World.alloc_eq, Oper.upon_value]
          exact hn G' _ _ _ _ h2 h3 (by simp only [VR]; exact ⟨_, h4, rfl⟩) (hA it (nw hg h1))
        · exact hA.elim
      · rename_i he
        rw [he] at hx; simp only [VR] at hx
        obtain ⟨it, G', h1, h2, h3, h4⟩ := alloc_place hw (.mapIter none 0 #[] 0) (.miter none 0 [] 0) (by simp)
          (fun l' hl => ⟨w.heap.size, none, by simp [Ghost.addρ], heap_new w _, rfl⟩)
        unfold Oper.wp
        simp only [execOp, Instr.range, Sem.run_bind, run_und hu, Result.andThen_ok, hx, Sem.run_pure, run_newObj, World.alloc_eq, Oper.upon_value]
        exact hn G' _ _ _ _ h2 h3 (by simp only [VR]; exact ⟨_, h4, rfl⟩) (hA it (nw hg h1))
      · exact hA.elim
    · cases hc
  · -- next
    rename_i hop; simp only at hop; subst hop
    split at hc
    · rename_i hst
      subst hst
      obtain ⟨y, h1, h2⟩ := map_some hc
      subst h2
      have hx := io_ok hg ht h1
      simp only [AOp, stOp] at hA
      split at hA
      · rename_i l he
        split at hA
        · rename_i s p hs
          rw [he] at hx
          obtain ⟨v, w', k1, k2⟩ := next_ok (P := P) type hw hx hs
          unfold Oper.wp
          simp only [execOp, Sem.run_bind, k1, Result.andThen_ok, Sem.run_pure, Oper.upon_value]
          split at hA
          · rename_i hlt
            rw [if_pos hlt] at k2
            exact hn G _ _ _ _ (.refl G) k2.2 k2.1 hA
          · rename_i hlt
            rw [if_neg hlt] at k2
            rw [k2.2]
            exact hn G _ _ _ _ (.refl G) hw k2.1 hA
        · exact hA.elim
      · exact hA.elim
    · rename_i hst
      have hst' := Bool.eq_false_iff.2 hst
      subst hst'
      obtain ⟨y, h1, h2⟩ := map_some hc
      subst h2
      have hx := io_ok hg ht h1
      simp only [AOp] at hA
      split at hA
      · rename_i l he
        rw [he] at hx
        split at hA
        · rename_i s1 s2 s3 hs
          have hx' := hx
          simp only [VR] at hx'
          obtain ⟨bl, hb, hxe⟩ := hx'
          obtain ⟨b1, r, k1, k2, hr⟩ := hw.obj l _ hs
          rw [hb] at k1; cases k1
          simp only at hr; subst hr
          unfold Oper.wp
          have hgo : (getObj bl).run P w = .ok (.mapIter none s1 s2.toArray s3) w := by simp [getObj, Sem.run, k2]
          simp only [execOp, hxe, Instr.next, Sem.run_bind, hgo, Result.andThen_ok, Sem.run_pure, Oper.upon_value]
          exact hn G _ _ _ _ (.refl G) hw (by simp only [VR]; exact ⟨_, rfl, VRs.cons (by simp [VR]) VRs.nil⟩) hA
        · rename_i m since seen last hs
          split at hA
          · rename_i es st hm
            obtain ⟨e1, e2, e3, e4, e5⟩ := hA
            obtain ⟨v, w', k1, k2⟩ := mnxt_ok (P := P) type hw hx hs hm e1 e2 e3
            unfold Oper.wp
            simp only [execOp, Sem.run_bind, k1, Result.andThen_ok, Sem.run_pure, Oper.upon_value]
            rcases k2 with ⟨j1, j2, j3⟩ | ⟨i, b, en, j1, j2, j3, j4, j5⟩
            · exact hn G _ _ _ _ (.refl G) j2 j1 (e4 j3)
            · exact hn G _ _ _ _ (.refl G) j5 j4 (e5 i b en j1 j2 j3)
          · exact hA.elim
        · exact hA.elim
      · exact hA.elim
  · -- entry
    rename_i hop; simp only at hop; subst hop
    obtain ⟨y, h1, h2⟩ := map_some hc
    subst h2
    have hx := io_ok hg ht h1
    simp only [AOp, stOp] at hA
    split at hA
    · rename_i it he
      rw [he] at hx
      split at hA
      · rename_i l since seen stepped hs
        split at hA
        · rename_i es st hm
          split at hA
          · rename_i hclk
            split at hA
            · rename_i b hb
              cases hst : stampAt b st.bs es with
              | none => rw [hst] at hA; exact hA.elim
              | some e =>
                rw [hst] at hA
                exact okv (σ' := σ) (s := Instr.entry (a.eval _)) rfl (mentry_ok hw hx hs hm hclk hb hst) hA
            · exact hA.elim
          · exact hA.elim
        · exact hA.elim
      · exact hA.elim
    · exact hA.elim
  · -- mapEntry
    rename_i hop; simp only at hop; subst hop
    split at hc
    · rename_i kt et hu
      split at hc
      · rename_i pl z m k h1 h2 h3 h4
        simp only [Option.some.injEq] at hc; subst hc
        have hm := io_ok hg ht h3
        have hx := io_ok hg ht h4
        simp only [AOp] at hA
        obtain ⟨hfit, hA⟩ := hA
        split at hA
        · rename_i l he
          split at hA
          · rename_i es st hs
            rw [he] at hm
            cases hl : mentA pl z es st (XO.ev γ t k) with
            | none => rw [hl] at hA; exact hA.elim
            | some r =>
              rw [hl] at hA
              obtain ⟨v, w', k1, k2, k3⟩ := ment_ok (P := P) hw hm hs hx hu h1 hfit h2 hl
              unfold Oper.wp
              simp only [execOp, Sem.run_bind, k1, Result.andThen_ok, Sem.run_pure, Oper.upon_value]
              exact hn G _ _ _ _ (.refl G) k2 k3 hA
          · exact hA.elim
        · exact hA.elim
      · cases hc
    · cases hc
  · -- entryStore
    rename_i hop; simp only at hop; subst hop
    split at hc
    · split at hc
      · rename_i m s v h1 h2 h3
        simp only [Option.some.injEq] at hc; subst hc
        have hm := io_ok hg ht h1
        have hsv := io_ok hg ht h2
        have hv := io_ok hg ht h3
        simp only [AOp, stOp] at hA
        split at hA
        · rename_i l b he he2
          split at hA
          · rename_i es st hs
            split at hA
            · rename_i hb0
              rw [he] at hm; rw [he2] at hsv
              cases hl : stampSet b.toNat (XO.ev γ t v) st.bs es with
              | none => rw [hl] at hA; exact hA.elim
              | some r =>
                rw [hl] at hA
                obtain ⟨w', k1, k2⟩ := entst_ok (P := P) (t := 0) hw hm hs hsv hv hb0 hl
                have k1' := k1
                unfold Oper.wp
                simp only [Instr.entryStore] at k1
                simp only [execOp, Instr.entryStore, Sem.run_bind, k1, Result.andThen_ok, Sem.run_pure, Oper.upon_skip]
                exact hn G _ _ _ _ (.refl G) k2 (hund G) hA
            · exact hA.elim
          · exact hA.elim
        · exact hA.elim
      · cases hc
    · cases hc
  · split at hc
    · cases hc
    · obtain ⟨y, h1, h2⟩ := map_some hc; exact pure_case _ h2.symm
    · cases hc
  · obtain ⟨y, h1, h2⟩ := map_some hc; exact pure_case _ h2.symm
  · -- call
    rename_i c hop; simp only at hop; subst hop
    have hcall : ∀ {f : FuncId} {as : List AV} {vs : List Value}, (execOp a.eval ⟨dst, .call c, type, pos, after, guard⟩).run P w = (callFunc f (List.toArray vs)).run P w → VRs G as vs →
        ACall P γ f as σ (fun r σ' => match r with | .ret v => K v σ' | .pan v => Kp v σ') → Oper.wp P ⟨dst, .call c, type, pos, after, guard⟩ a w next Q := by
      intro f as vs he hvs hac
      refine calls_upon he (hac G w vs hg hw hvs) ?_ ?_ ?_
      · rintro v w' ⟨G', r, σ', h1, h2, h3, h4⟩
        cases r with
        | ret av => obtain ⟨v', h5, h6⟩ := h3; cases h5; exact hn G' σ' w' av v h1 h2 h6 h4
        | pan av => obtain ⟨v', h5, h6⟩ := h3; cases h5
      · rintro ch w' ⟨G', r, σ', h1, h2, h3, h4⟩
        cases r with
        | ret av => obtain ⟨v', h5, h6⟩ := h3; cases h5
        | pan av => obtain ⟨v', h5, h6⟩ := h3; cases h5; exact hp G' σ' w' av v' h1 h2 h6 h4
      · rintro w' ⟨G', r, σ', h1, h2, h3, h4⟩
        cases r with
        | ret av => obtain ⟨v', h5, h6⟩ := h3; cases h5
        | pan av => obtain ⟨v', h5, h6⟩ := h3; cases h5
    unfold compCall at hc
    split at hc
    · -- len
      rename_i hcal
      split at hc
      · rename_i x ty hargs htys
        obtain ⟨ha, hb⟩ := call1 hargs htys
        unfold compLen at hc
        split at hc
        · obtain ⟨y, h1, h2⟩ := map_some hc; exact pure_case _ h2.symm
        · obtain ⟨y, h1, h2⟩ := map_some hc; exact pure_case _ h2.symm
        · rename_i kt et hu
          obtain ⟨y, h1, h2⟩ := map_some hc
          subst h2
          have hm := io_ok hg ht h1
          simp only [AOp, stOp] at hA
          split at hA
          · rename_i l he
            split at hA
            · rename_i es st hs
              rw [he] at hm; simp only [VR] at hm
              obtain ⟨b, hbb, hme⟩ := hm
              obtain ⟨b', ms, k1, k2, k3, _⟩ := hw.obj l _ hs
              rw [hbb] at k1; cases k1
              have hl : ms.size = es.length := by have := k3.length; simpa using this
              have hgm := run_getMap (P := P) k2
              unfold Oper.wp
              have hrun : (execOp a.eval ⟨dst, .call c, type, pos, after, guard⟩).run P w = .ok (.value (.int .i64 es.length)) w := by
                simp [execOp, resolve, hcal, ha, hb, invoke, builtin, Builtin.len_, run_und hu, hme, hgm, goInt, hl]
              rw [hrun, Oper.upon_value]
              exact hn G _ _ _ _ (.refl G) hw (by simp [VR]) hA
            · exact hA.elim
          · rename_i he
            rw [he] at hm; simp only [VR] at hm
            unfold Oper.wp
            have hrun : (execOp a.eval ⟨dst, .call c, type, pos, after, guard⟩).run P w = .ok (.value (.int .i64 0)) w := by
              simp [execOp, resolve, hcal, ha, hb, invoke, builtin, Builtin.len_, run_und hu, hm, goInt]
            rw [hrun, Oper.upon_value]
            exact hn G _ _ _ _ (.refl G) hw (by simp [VR]) hA
          · exact hA.elim
        · cases hc
      · cases hc
    · -- append
      rename_i hcal
      split at hc
      · rename_i x y tx tu hargs htys
        obtain ⟨ha, hb⟩ := call2 hargs htys
        unfold compApp at hc
        split at hc
        · rename_i e hu
          split at hc
          · rename_i sz by' z h1 h2 h3
            split at hc
            · rename_i hcond
              obtain ⟨xa, ya, h4, h5, rfl⟩ := comp2_ok hc
              have hx := io_ok hg ht h4
              have hy := io_ok hg ht h5
              have hexec : ∀ w, (execOp a.eval ⟨dst, .call c, type, pos, after, guard⟩).run P w = ((Builtin.append_ #[tx, tu] type #[a.eval x, a.eval y]).run P w).andThen fun v w' => .ok (.value v) w' := fun w => by
                simp [execOp, resolve, hcal, ha, hb, invoke, builtin]
              simp only [AOp] at hA
              split at hA
              · rename_i nl sz' es tok he
                obtain ⟨hA1, hA2⟩ := hA
                rw [he] at hx
                cases hsr : srcA sz (XO.ev γ t ya) with
                | none => rw [hsr] at hA2; exact hA2.elim
                | some ys =>
                  rw [hsr] at hA2
                  obtain ⟨hroom, hA3⟩ := hA2
                  cases tok with
                  | unk => exact hA3.elim
                  | opn t0 g =>
                    obtain ⟨hsp, hk⟩ := hA3
                    have hss : sz' = sz := hA1.resolve_right (fun hh => by cases hh.2)
                    subst hss
                    obtain ⟨v, w', G', k1, k2, k3, k4⟩ := append_opn (P := P) (sz' := sz') (xa := .any) type hw hx hy hsr hsp hroom hu h1 h2 h3 hcond.1 hcond.2
                    unfold Oper.wp
                    rw [hexec, k1, Result.andThen_ok, Oper.upon_value]
                    exact hn G' _ _ _ _ k2 k3 k4 hk
                  | full =>
                    obtain ⟨t0, G1, j1, j2, j3, j4⟩ := tok_new (sz := sz) hw hx (hA1.imp id (·.1))
                    obtain ⟨v, w', G', k1, k2, k3, k4⟩ := append_opn (P := P) (sz' := sz) (xa := .any) type j3 j4 (VR.mono j2 _ _ hy) hsr (by simp [AS.upd_at]) hroom hu h1 h2 h3 hcond.1 hcond.2
                    unfold Oper.wp
                    rw [hexec, k1, Result.andThen_ok, Oper.upon_value]
                    rw [upd_upd] at k3
                    exact hn G' _ _ _ _ (j2.trans k2) k3 k4 (hA3 t0 (nw hg j1))
              · exact hA.elim
            · cases hc
          · cases hc
        · cases hc
      · cases hc
    · split at hc
      · obtain ⟨_, _, _, _, h3⟩ := comp2_ok hc; exact pure_case _ h3
      · cases hc
    · split at hc
      · obtain ⟨_, _, _, _, h3⟩ := comp2_ok hc; exact pure_case _ h3
      · cases hc
    · -- a function
      rename_i x hcal
      split at hc
      · rename_i as has
        have hvs := ios_ok (γ := γ) hg ht has
        unfold compFn at hc
        split at hc
        · rename_i f
          simp only [Option.some.injEq] at hc; subst hc
          simp only [AOp] at hA
          refine hcall (f := f) ?_ hvs hA
          simp [execOp, resolve, hcal, Deferred.ofValue, Act.eval, invoke]
          rw [← Array.toList_map, Array.toArray_toList]
        · obtain ⟨y, h1, h2⟩ := map_some hc
          subst h2
          have hx := io_ok hg ht h1
          simp only [AOp] at hA
          split at hA
          · rename_i f first cap he
            rw [he] at hx; simp only [VR] at hx
            obtain ⟨vf, vc, hxe, k1, k2⟩ := hx
            refine hcall (f := f) ?_ ((k1.append hvs).append k2) hA
            simp [execOp, resolve, hcal, hxe, Deferred.ofValue, invoke]
            refine congrArg (fun z => (callFunc f z).run P w) (Array.ext' ?_)
            simp
          · exact hA.elim
      · cases hc
    · cases hc
  · split at hc
    · split at hc
      · simp only [Option.some.injEq] at hc; exact absurd hc.symm (hnd _ _)
      · cases hc
    · cases hc
  · -- panic
    rename_i hop; simp only at hop; subst hop
    obtain ⟨y, h1, h2⟩ := map_some hc
    subst h2
    have hx := io_ok hg ht h1
    simp only [AOp] at hA
    split at hA
    · rename_i u v he
      rw [he] at hx
      have hx' := hx
      simp only [VR] at hx
      obtain ⟨vv, hxe, _⟩ := hx
      unfold Oper.wp
      simp only [execOp, hxe, Instr.panic, Sem.run_bind, run_goPanic, Result.andThen_halt, Oper.upon_panic]
      rw [hxe] at hx'
      exact hp G σ w _ _ (.refl G) hw hx' hA
    · exact hA.elim
  · cases hc
end
end Go.VS
