/-
  VALUE SEMANTICS, PART K. Every pure operation together.
-/
import Derived.Test.YtbmnhnohahacaaaGreatDoorVsJ
namespace Go.VS
open Go.RowKit
set_option linter.unusedSimpArgs false
set_option linter.unusedVariables false
set_option maxRecDepth 4000

section
variable {P : Program} {G : Ghost} {σ : AS} {w : World} {γ : Ctx} {t : List AV} {a : Act}

theorem ioOpt_none {ty : TypeId} {x : Option Operand} (h : ioOpt P ty x = some none) : x = none := by
  cases x with
  | none => rfl
  | some x => simp only [ioOpt] at h; obtain ⟨z, _, h2⟩ := map_some h; cases h2
theorem ioOpt_some {ty : TypeId} {x : Option Operand} {y : XO} (h : ioOpt P ty x = some (some y)) : ∃ o, x = some o ∧ ioOf P ty o = some y := by
  cases x with
  | none => simp [ioOpt] at h
  | some x => simp only [ioOpt] at h; obtain ⟨z, h1, h2⟩ := map_some h; simp only [Option.some.injEq] at h2; subst h2; exact ⟨x, rfl, h1⟩

theorem pop_sound {h : Hint} {o : Oper} {q : POp} {av : AV} (hc : compOp P h o = some (.p q)) (hp : pop (XO.ev γ t) q = some av)
    (hg : GOK γ G) (ht : VRs G t a.tmps.toList) (hw : WR G σ w) : OkN P (execOp a.eval o) G σ w av := by
  obtain ⟨dst, op, type, pos, after, guard⟩ := o
  unfold compOp at hc
  split at hc
  · -- move
    rename_i hop; simp only at hop; subst hop; simp only [execOp]
    obtain ⟨y, h1, h2⟩ := map_some hc
    simp only [IOp.p.injEq] at h2; subst h2
    simp only [pop, Option.some.injEq] at hp; subst hp
    exact .same hw rfl (io_ok hg ht h1)
  · -- assign
    rename_i hop; simp only at hop; subst hop; simp only [execOp]
    obtain ⟨y, h1, h2⟩ := map_some hc
    simp only [IOp.p.injEq] at h2; subst h2
    simp only [pop, Option.some.injEq] at hp; subst hp
    exact .same hw rfl (io_ok hg ht h1)
  · -- pick
    rename_i hop; simp only at hop; subst hop; simp only [execOp]
    split at hc
    · rename_i c x y h1 h2 h3
      simp only [Option.some.injEq, IOp.p.injEq] at hc; subst hc
      have hx := io_ok hg ht h1
      simp only [pop] at hp
      split at hp
      · rename_i b he
        simp only [Option.some.injEq] at hp; subst hp
        rw [he] at hx; simp only [VR] at hx
        cases b
        · exact .same hw (v := a.eval _) (by simp [hx, asBool]) (io_ok hg ht h3)
        · exact .same hw (v := a.eval _) (by simp [hx, asBool]) (io_ok hg ht h2)
      · cases hp
    · cases hc
  · -- alloc
    rename_i hop; simp only at hop; subst hop; simp only [execOp]
    split at hc
    · rename_i z hz
      split at hc
      · rename_i d
        split at hc
        · simp only [Option.some.injEq, IOp.p.injEq] at hc; subst hc
          simp only [pop] at hp
          split at hp
          · rename_i hk
            have hk : z.known = true := hk
            simp only [Option.some.injEq] at hp; subst hp
            obtain ⟨zv, hz1, hz2⟩ := zeroOf_ok hz w G
            obtain ⟨v, w', G', r1, r2⟩ := boxi_ok (P := P) hw hz2 hk _
            refine OkV.next ⟨v, w', G', ?_, r2⟩
            simp only [Instr.alloc, Sem.run_bind, hz1, Result.andThen_ok]
            exact r1
          · cases hp
        · split at hc
          · cases hc
          · cases hc
      · cases hc
    · cases hc
  · -- box
    rename_i hop; simp only at hop; subst hop; simp only [execOp]
    split at hc
    · rename_i x hx
      split at hc
      · split at hc
        · simp only [Option.some.injEq, IOp.p.injEq] at hc; subst hc
          simp only [pop] at hp
          split at hp
          · rename_i hk
            simp only [Option.some.injEq] at hp; subst hp
            exact (boxi_ok hw (io_ok hg ht hx) hk _).next
          · cases hp
        · cases hc
      · cases hc
    · cases hc
  · -- build
    rename_i hop; simp only at hop; subst hop; simp only [execOp]
    split at hc
    · rename_i fs z hu hz
      split at hc
      · rename_i hcond
        obtain ⟨ps, h1, h2⟩ := map_some hc
        simp only [IOp.p.injEq] at h2; subst h2
        simp only [pop] at hp
        exact (build_ok hg ht hw hu hz hcond.2 hcond.1 h1 hp).next
      · cases hc
    · cases hc
  · -- buildSlice
    rename_i hop; simp only at hop; subst hop; simp only [execOp]
    split at hc
    · rename_i e hu
      split at hc
      · rename_i sz z hsz hz
        split at hc
        · rename_i hcond
          obtain ⟨ps, h1, h2⟩ := map_some hc
          simp only [IOp.p.injEq] at h2; subst h2
          simp only [pop] at hp
          split at hp
          · rename_i hf
            simp only [Option.some.injEq] at hp; subst hp
            exact (buildSlice_ok hg ht hw hu hz hsz hcond h1 hf).next
          · cases hp
        · cases hc
      · cases hc
    · cases hc
  · -- load
    rename_i hop; simp only at hop; subst hop; simp only [execOp]
    split at hc
    · rename_i ag n y h1 h2 h3
      split at hc
      · simp only [Option.some.injEq, IOp.p.injEq] at hc; subst hc
        have hx := io_ok hg ht h3
        simp only [pop] at hp
        split at hp
        · rename_i cs he
          rw [he] at hx
          exact (load_frozen hw hx hp h1 h2).next
        · cases hp
      · cases hc
    · cases hc
  · -- store
    split at hc
    · split at hc
      · split at hc <;> cases hc
      · cases hc
    · cases hc
  · -- nilCheck
    rename_i hop; simp only at hop; subst hop; simp only [execOp]
    obtain ⟨y, h1, h2⟩ := map_some hc
    simp only [IOp.p.injEq] at h2; subst h2
    have hx := io_ok hg ht h1
    simp only [pop] at hp
    obtain ⟨rfl, h3⟩ := nilchk_ok hx hp
    rcases h3 with ⟨q, h3⟩ | ⟨f, u, v, h3⟩
    · rw [h3] at hx ⊢; exact .same hw rfl hx
    · rw [h3] at hx ⊢; exact .same hw rfl hx
  · -- binOp
    rename_i hop; simp only at hop; subst hop; simp only [execOp]
    exact (pop_bin (type := type) hc hp hg ht hw).next
  · -- unOp
    rename_i hop; simp only at hop; subst hop; simp only [execOp]
    obtain ⟨y, h1, h2⟩ := map_some hc
    simp only [IOp.p.injEq] at h2; subst h2
    exact (popUn_ok hw (io_ok hg ht h1) hp).next
  · -- convert
    rename_i hop; simp only at hop; subst hop; simp only [execOp]
    exact (pop_conv hc hp hg ht hw).next
  · -- makeInterface
    rename_i hop; simp only at hop; subst hop; simp only [execOp]
    split at hc
    · cases hc
    · rename_i d hd hu
      obtain ⟨y, h1, h2⟩ := map_some hc
      simp only [IOp.p.injEq] at h2; subst h2
      simp only [pop, Option.some.injEq] at hp; subst hp
      refine OkV.next (.same hw (v := .iface _ (a.eval _)) ?_ (by simp only [VR]; exact ⟨_, rfl, io_ok hg ht h1⟩))
      simp only [Instr.makeInterface, Sem.run_bind, run_und hu, Result.andThen_ok]
      cases d <;> first | rfl | exact absurd hu (hd _)
    · cases hc
  · -- makeFunc
    rename_i hop; simp only at hop; subst hop; simp only [execOp]
    split at hc
    · rename_i x y h1 h2
      simp only [Option.some.injEq, IOp.p.injEq] at hc; subst hc
      simp only [pop, Option.some.injEq] at hp; subst hp
      refine OkV.next (.same hw rfl ?_)
      simp only [VR]
      exact ⟨_, _, by simp; exact ⟨(by rw [← List.map_toArray, Array.toArray_toList]), (by rw [← List.map_toArray, Array.toArray_toList])⟩, ios_ok hg ht h1, ios_ok hg ht h2⟩
    · cases hc
  · cases hc
  · -- slice
    rename_i hop; simp only at hop; subst hop; simp only [execOp]
    split at hc
    · rename_i hu
      split at hc
      · rename_i x lo hi h1 h2 h3
        simp only [Option.some.injEq, IOp.p.injEq] at hc; subst hc
        have hx := io_ok hg ht h1
        simp only [pop] at hp
        split at hp
        · rename_i s he
          split at hp
          · rename_i hh h4
            split at hp
            · rename_i ll h5
              split at hp
              · rename_i h6
                simp only [Option.some.injEq] at hp; subst hp
                rw [he] at hx
                exact (sls_ok hw hx (ioOpt_ok hg ht h2) (ioOpt_ok hg ht h3) hu h4 h5 h6.2 h6.1).next
              · cases hp
            · cases hp
          · cases hp
        · cases hp
      · cases hc
    · rename_i e hu
      split at hc
      · rename_i sz x lo hi mx hsz h1 h2 h3 h4
        split at hc
        · cases hc
        · rename_i hmx
          simp only [Option.some.injEq, IOp.p.injEq] at hc; subst hc
          have hx := io_ok hg ht h1
          simp only [pop] at hp
          split at hp
          · rename_i nl sz' es tok he
            rw [he] at hx
            split at hp
            · rename_i hh h5
              split at hp
              · rename_i ll h6
                split at hp
                · rename_i hmn
                  have hmN : mx = none := by simpa using hmn
                  split at hp
                  · rename_i h7
                    simp only [Option.some.injEq] at hp; subst hp
                    subst hmN
                    rw [ioOpt_none h4]
                    exact (slc_ok hw hx (ioOpt_ok hg ht h2) (ioOpt_ok hg ht h3) hu hsz h5 h6 h7.1 h7.2.2 h7.2.1).next
                  · cases hp
                · rename_i m hms
                  obtain ⟨mo, hmo, rfl⟩ := map_some hms
                  split at hp
                  · rename_i mm hm2
                    split at hp
                    · rename_i h7
                      simp only [Option.some.injEq] at hp; subst hp
                      subst hmo
                      obtain ⟨mv, rfl, h8⟩ := ioOpt_some h4
                      cases hi with
                      | none => simp at hmx
                      | some hi' =>
                        obtain ⟨hv, rfl, h9⟩ := ioOpt_some h3
                        exact (slc3_ok hw hx (ioOpt_ok hg ht h2) (ioOpt_ok hg ht h3) (io_ok hg ht h8) hm2 rfl hu hsz h5 h6 h7.1 h7.2.2.2 h7.2.1 h7.2.2.1).next
                    · cases hp
                  · cases hp
              · cases hp
            · cases hp
          · cases hp
      · cases hc
    · cases hc
  · -- fieldAddr
    rename_i hop; simp only at hop; subst hop; simp only [execOp]
    split at hc
    · rename_i fs hu
      split at hc
      · rename_i fd hf
        split at hc
        · rename_i n x hn hx
          split at hc
          · cases hc
          · rename_i hn0
            simp only [Option.some.injEq, IOp.p.injEq] at hc; subst hc
            exact (fieldAt_ok hw (io_ok hg ht hx) hu hf hn hn0 hp).next
        · cases hc
      · cases hc
    · cases hc
  · -- field
    rename_i hop; simp only at hop; subst hop; simp only [execOp]
    split at hc
    · rename_i fs hu
      split at hc
      · rename_i fd hf
        split at hc
        · rename_i ag n x h1 h2 h3
          simp only [Option.some.injEq, IOp.p.injEq] at hc; subst hc
          have hx := io_ok hg ht h3
          simp only [pop] at hp
          split at hp
          · rename_i cs he
            rw [he] at hx; simp only [VR] at hx
            obtain ⟨vs, hxe, k1, k2⟩ := hx
            obtain ⟨v, k3, k4⟩ := part_val (P := P) (w := w) k1 k2 hp h1 h2
            exact OkV.next (.same hw (by simp [Instr.field, run_und hu, hf, hxe, asAgg, k3]) k4)
          · cases hp
        · cases hc
      · cases hc
    · cases hc
  · -- indexAddr
    rename_i hop; simp only at hop; subst hop; simp only [execOp]
    split at hc
    · rename_i e hu
      split at hc
      · rename_i sz x i h1 h2 h3
        simp only [Option.some.injEq, IOp.p.injEq] at hc; subst hc
        have hx := io_ok hg ht h2
        simp only [pop] at hp
        split at hp
        · rename_i nl sz' es tok k he hk
          split at hp
          · rename_i hss; subst hss
            split at hp
            · rename_i el hel
              split at hp
              · rename_i hkn
                simp only [Option.some.injEq] at hp; subst hp
                rw [he] at hx
                exact (indexAt_slice hw hx (io_ok hg ht h3) hk hu h1 hel hkn).next
              · cases hp
            · cases hp
          · cases hp
        · cases hp
      · cases hc
    · rename_i len e hu
      split at hc
      · rename_i sz x i h1 h2 h3
        split at hc
        · simp only [Option.some.injEq, IOp.p.injEq] at hc; subst hc
          have hx := io_ok hg ht h2
          have hi := io_ok hg ht h3
          simp only [pop] at hp
          split at hp
          · rename_i cs k he hk
            rw [he] at hx
            exact (iaddra_ok hw hx hi hk hu h1 hp).next
          · rename_i l o k he hk
            rw [he] at hx
            exact (iaddra_ok hw hx hi hk hu h1 hp).next
          · cases hp
        · cases hc
      · cases hc
    · cases hc
  · -- index
    rename_i hop; simp only at hop; subst hop; simp only [execOp]
    split at hc
    · rename_i hu
      split at hc
      · rename_i x i h1 h2
        simp only [Option.some.injEq, IOp.p.injEq] at hc; subst hc
        have hx := io_ok hg ht h1
        have hi := io_ok hg ht h2
        simp only [pop] at hp
        split at hp
        · rename_i s k he hk
          obtain ⟨b, hb, rfl⟩ := map_some hp
          rw [he] at hx; simp only [VR] at hx
          rw [hx]
          exact (idxs_ok hw hi hk hu hb).next
        · cases hp
      · cases hc
    · rename_i len e hu
      split at hc
      · rename_i ag sz x i h1 h2 h3 h4
        simp only [Option.some.injEq, IOp.p.injEq] at hc; subst hc
        have hx := io_ok hg ht h3
        have hi := io_ok hg ht h4
        simp only [pop] at hp
        split at hp
        · rename_i cs k he hk
          split at hp
          · rename_i hl
            rw [he] at hx
            exact (idxa_ok hw hx hi hk hu h1 h2 hl hp).next
          · cases hp
        · cases hp
      · cases hc
    · cases hc
  · -- lookup
    split at hc
    · split at hc <;> cases hc
    · cases hc
  · -- mapUpdate
    split at hc
    · split at hc <;> cases hc
    · cases hc
  · -- range
    split at hc
    · obtain ⟨y, h1, h2⟩ := map_some hc; cases h2
    · obtain ⟨y, h1, h2⟩ := map_some hc; cases h2
    · cases hc
  · -- next
    split at hc <;> (obtain ⟨y, h1, h2⟩ := map_some hc; cases h2)
  · -- entry
    obtain ⟨y, h1, h2⟩ := map_some hc; cases h2
  · -- mapEntry
    split at hc
    · split at hc <;> cases hc
    · cases hc
  · -- entryStore
    split at hc
    · split at hc <;> cases hc
    · cases hc
  · -- typeAssert
    rename_i hop; simp only at hop; subst hop; simp only [execOp]
    split at hc
    · cases hc
    · rename_i d z hd hu hz
      obtain ⟨y, h1, h2⟩ := map_some hc
      simp only [IOp.p.injEq] at h2; subst h2
      exact (asrt_ok hw (io_ok hg ht h1) hu hd hz hp).next
    · cases hc
  · -- extract
    rename_i hop; simp only at hop; subst hop; simp only [execOp]
    obtain ⟨y, h1, h2⟩ := map_some hc
    simp only [IOp.p.injEq] at h2; subst h2
    have hx := io_ok hg ht h1
    simp only [pop] at hp
    split at hp
    · rename_i vs he
      rw [he] at hx; simp only [VR] at hx
      obtain ⟨us, hxe, k1⟩ := hx
      obtain ⟨v, k2, k3⟩ := k1.get hp
      exact OkV.next (.same hw (v := v) (by simp [Instr.extract, hxe, k2]) k3)
    · cases hp
  · -- call
    rename_i hop; simp only at hop; subst hop; simp only [execOp]
    exact pop_call hc hp hg ht hw
  · -- defer
    split at hc
    · split at hc
      · cases hc
      · cases hc
    · cases hc
  · -- panic
    obtain ⟨y, h1, h2⟩ := map_some hc; cases h2
  · cases hc
end
end Go.VS
