/-
  VALUE SEMANTICS, PART J. A pure operation of the intermediate code is carried out by the model's.
-/
import Derived.Test.YtbmnhnohahacaaaGreatDoorVsI
namespace Go.VS
open Go.RowKit
set_option linter.unusedSimpArgs false
set_option linter.unusedVariables false
set_option maxRecDepth 4000

section
variable {P : Program} {G : Ghost} {σ : AS} {w : World} {γ : Ctx} {t : List AV} {a : Act}

theorem map_some {α β : Type} {x : Option α} {f : α → β} {y : β} (h : x.map f = some y) : ∃ z, x = some z ∧ f z = y := Option.map_eq_some_iff.1 h

theorem ioOpt_ok (hg : GOK γ G) (ht : VRs G t a.tmps.toList) {ty : TypeId} {x : Option Operand} {y : Option XO} (hc : ioOpt P ty x = some y) : VRo G (y.map (XO.ev γ t)) (x.map a.eval) := by
  cases x with
  | none => simp only [ioOpt, Option.some.injEq] at hc; subst hc; trivial
  | some x =>
    simp only [ioOpt] at hc
    obtain ⟨z, h1, rfl⟩ := map_some hc
    exact io_ok hg ht h1

theorem comp2_ok {tx ty : TypeId} {x y : Operand} {f : XO → XO → IOp} {r : IOp} (h : comp2 P tx ty x y f = some r) : ∃ xa ya, ioOf P tx x = some xa ∧ ioOf P ty y = some ya ∧ r = f xa ya := by
  unfold comp2 at h
  split at h
  · rename_i h1 h2; simp only [Option.some.injEq] at h; exact ⟨_, _, h1, h2, h.symm⟩
  · cases h

theorem pop_bin {op : BinOp} {ty yt : TypeId} {x y : Operand} {type : TypeId} {q : POp} {av : AV} (hc : compBin P op ty x y yt = some (.p q)) (hp : pop (XO.ev γ t) q = some av)
    (hg : GOK γ G) (ht : VRs G t a.tmps.toList) (hw : WR G σ w) : OkV P (do eqGuard op ty x y (a.eval x) (a.eval y); binOp op ty (a.eval x) (a.eval y)) G σ w av := by
  have basic : ∀ {xa ya : XO}, ioOf P ty x = some xa → ioOf P yt y = some ya → popBin op (XO.ev γ t xa) (XO.ev γ t ya) = some av →
      OkV P (do eqGuard op ty x y (a.eval x) (a.eval y); binOp op ty (a.eval x) (a.eval y)) G σ w av := fun h1 h2 h3 => by
    have hx := io_ok hg ht h1
    have hy := io_ok hg ht h2
    obtain ⟨v, h4, h5⟩ := popBin_ok (P := P) hx hy h3 ty w
    exact .same hw (by rw [eqGuard_basic hx hy h3]; simpa using h4) h5
  unfold compBin at hc
  split at hc
  · obtain ⟨xa, ya, h1, h2, h3⟩ := comp2_ok hc
    simp only [IOp.p.injEq] at h3; subst h3
    exact basic h1 h2 hp
  · obtain ⟨xa, ya, h1, h2, h3⟩ := comp2_ok hc
    simp only [IOp.p.injEq] at h3; subst h3
    exact basic h1 h2 hp
  · rename_i hni hns
    split at hc
    · rename_i neg hop
      have hop' : (op = .eql ∧ neg = false) ∨ (op = .neq ∧ neg = true) := by
        cases op <;> simp [eqOp] at hop <;> simp [hop]
      split at hc
      · rename_i pl hpl
        obtain ⟨xa, ya, h1, h2, h3⟩ := comp2_ok hc
        simp only [IOp.p.injEq] at h3; subst h3
        simp only [pop] at hp
        obtain ⟨r, hr, rfl⟩ := map_some hp
        have hx := io_ok hg ht h1
        have hy := io_ok hg ht h2
        obtain ⟨e1, e2⟩ := eqd_bin hpl hx hy hr w hni hns
        have hgd := eqd_guard hpl hx hy hr w op x y
        rcases hop' with ⟨rfl, rfl⟩ | ⟨rfl, rfl⟩
        · exact .same hw (v := .bool r) (by simp only [Sem.run_bind, hgd, Result.andThen_ok, e1]) (by simp [VR])
        · exact .same hw (v := .bool (!r)) (by simp only [Sem.run_bind, hgd, Result.andThen_ok, e2]) (by simp [VR])
      · split at hc
        · rename_i hnil
          split at hc
          · rename_i nk hk
            obtain ⟨xa, ya, h1, h2, h3⟩ := comp2_ok hc
            simp only [IOp.p.injEq] at h3; subst h3
            simp only [pop] at hp
            obtain ⟨r, hr, rfl⟩ := map_some hp
            have hx := io_ok hg ht h1
            have hy := io_ok hg ht h2
            obtain ⟨e1, e2⟩ := nil_bin (P := P) hk hx hy hr w
            have hgd := nil_guard (t := ty) hx hy hr w op (by simpa using hnil)
            rcases hop' with ⟨rfl, rfl⟩ | ⟨rfl, rfl⟩
            · exact .same hw (v := .bool r) (by rw [hgd]; simpa using e1) (by simp [VR])
            · exact .same hw (v := .bool (!r)) (by rw [hgd]; simpa using e2) (by simp [VR])
          · cases hc
        · cases hc
    · cases hc

theorem pop_conv {src dst : TypeId} {x : Operand} {q : POp} {av : AV} (hc : compConv P src dst x = some (.p q)) (hp : pop (XO.ev γ t) q = some av)
    (hg : GOK γ G) (ht : VRs G t a.tmps.toList) (hw : WR G σ w) : OkV P (convert src dst (a.eval x)) G σ w av := by
  unfold compConv at hc
  split at hc
  · rename_i k1 k2 hs hd
    obtain ⟨y, h1, h2⟩ := map_some hc
    simp only [IOp.p.injEq] at h2; subst h2
    have hx := io_ok hg ht h1
    simp only [pop] at hp
    split at hp
    · rename_i k n he
      simp only [Option.some.injEq] at hp; subst hp
      rw [he] at hx; simp only [VR] at hx
      exact .same hw (v := .int k2 (k2.wrap n)) (by rw [hx]; simp [convert, run_und hs, run_und hd, Conv.intToInt]) (by simp [VR])
    · cases hp
  · rename_i hs hd
    obtain ⟨y, h1, h2⟩ := map_some hc
    simp only [IOp.p.injEq] at h2; subst h2
    have hx := io_ok hg ht h1
    simp only [pop] at hp
    split at hp
    · rename_i s he
      simp only [Option.some.injEq] at hp; subst hp
      rw [he] at hx
      have hx' := hx
      simp only [VR] at hx
      exact .same hw (by rw [hx]; simp [convert, run_und hs, run_und hd]; rfl) (by rw [← hx]; exact hx')
    · cases hp
  · rename_i e hs hd
    split at hc
    · rename_i he8
      obtain ⟨y, h1, h2⟩ := map_some hc
      simp only [IOp.p.injEq] at h2; subst h2
      have hx := io_ok hg ht h1
      simp only [pop] at hp
      split at hp
      · rename_i nl sz es tok he
        split at hp
        · rename_i hsz
          obtain ⟨s, hb, rfl⟩ := map_some hp
          rw [he] at hx
          obtain ⟨v, w', G', r1, r2⟩ := cvbs_ok (P := P) hw hx hsz hb
          obtain ⟨bb, n, c, hxe, _⟩ := VR.slice_nil' hx
          exact ⟨v, w', G', by rw [hxe] at r1 ⊢; simpa [convert, run_und hs, run_und hd, run_und he8] using r1, r2⟩
        · cases hp
      · cases hp
    · cases hc
  · rename_i e hs hd
    split at hc
    · rename_i he8
      obtain ⟨y, h1, h2⟩ := map_some hc
      simp only [IOp.p.injEq] at h2; subst h2
      have hx := io_ok hg ht h1
      simp only [pop] at hp
      split at hp
      · rename_i s he
        simp only [Option.some.injEq] at hp; subst hp
        rw [he] at hx; simp only [VR] at hx
        obtain ⟨v, w', G', r1, r2⟩ := cvsb_ok (P := P) (s := s) hw e
        exact ⟨v, w', G', by rw [hx]; simpa [convert, run_und hs, run_und hd, run_und he8] using r1, r2⟩
      · cases hp
    · cases hc
  · rename_i hs hd
    obtain ⟨y, h1, h2⟩ := map_some hc
    simp only [IOp.p.injEq] at h2; subst h2
    have hx := io_ok hg ht h1
    simp only [pop] at hp
    split at hp
    · rename_i k n he
      simp only [Option.some.injEq] at hp; subst hp
      rw [he] at hx; simp only [VR] at hx
      exact .same hw (v := .string (Utf8.encode n)) (by rw [hx]; simp [convert, run_und hs, run_und hd, Conv.intToString]) (by simp [VR])
    · cases hp
  · cases hc

theorem call2 {c : Call} {x y : Operand} {tx ty : TypeId} (h1 : c.args.toList = [x, y]) (h2 : c.argTypes.toList = [tx, ty]) : c.args = #[x, y] ∧ c.argTypes = #[tx, ty] :=
  ⟨by rw [← Array.toArray_toList (xs := c.args), h1], by rw [← Array.toArray_toList (xs := c.argTypes), h2]⟩
theorem call1 {c : Call} {x : Operand} {tx : TypeId} (h1 : c.args.toList = [x]) (h2 : c.argTypes.toList = [tx]) : c.args = #[x] ∧ c.argTypes = #[tx] :=
  ⟨by rw [← Array.toArray_toList (xs := c.args), h1], by rw [← Array.toArray_toList (xs := c.argTypes), h2]⟩

theorem pop_call {c : Call} {type : TypeId} {q : POp} {av : AV} (hc : compCall P c = some (.p q)) (hp : pop (XO.ev γ t) q = some av)
    (hg : GOK γ G) (ht : VRs G t a.tmps.toList) (hw : WR G σ w) : OkN P (do let d ← resolve a.eval c type; invoke d.target d.args) G σ w av := by
  unfold compCall at hc
  split at hc
  · rename_i hcal
    split at hc
    · rename_i x ty hargs htys
      obtain ⟨ha, hb⟩ := call1 hargs htys
      unfold compLen at hc
      split at hc
      · rename_i hu
        obtain ⟨y, h1, h2⟩ := map_some hc
        simp only [IOp.p.injEq] at h2; subst h2
        have hx := io_ok hg ht h1
        simp only [pop] at hp
        split at hp
        · rename_i s he
          simp only [Option.some.injEq] at hp; subst hp
          rw [he] at hx; simp only [VR] at hx
          have hsz : (ByteArray.mk s.toArray).size = s.length := by simp [ByteArray.size]
          exact .same hw (v := .int .i64 s.length) (by simp [resolve, hcal, ha, hb, invoke, builtin, Builtin.len_, run_und hu, hx, hsz, goInt]) (by simp [VR])
        · cases hp
      · rename_i e hu
        obtain ⟨y, h1, h2⟩ := map_some hc
        simp only [IOp.p.injEq] at h2; subst h2
        have hx := io_ok hg ht h1
        simp only [pop] at hp
        split at hp
        · rename_i nl sz es tok he
          simp only [Option.some.injEq] at hp; subst hp
          rw [he] at hx
          obtain ⟨bb, n, cc, hxe, hn⟩ := VR.slice_nil' hx
          subst hn
          exact .same hw (v := .int .i64 es.length) (by simp [resolve, hcal, ha, hb, invoke, builtin, Builtin.len_, run_und hu, hxe, goInt]) (by simp [VR])
        · cases hp
      · obtain ⟨y, h1, h2⟩ := map_some hc
        cases h2
      · cases hc
    · cases hc
  · split at hc
    · rename_i h
      unfold compApp at hc
      split at hc
      · split at hc
        · split at hc
          · obtain ⟨xa, ya, h1, h2, h3⟩ := comp2_ok hc
            cases h3
          · cases hc
        · cases hc
      · cases hc
    · cases hc
  · rename_i hcal
    split at hc
    · rename_i x y tx ty hargs htys
      obtain ⟨ha, hb⟩ := call2 hargs htys
      obtain ⟨xa, ya, h1, h2, h3⟩ := comp2_ok hc
      simp only [IOp.p.injEq] at h3; subst h3
      have hx := io_ok hg ht h1
      have hy := io_ok hg ht h2
      simp only [pop] at hp
      split at hp
      · rename_i k n k' m he hf
        simp only [Option.some.injEq, Bool.false_eq_true, if_false] at hp; subst hp
        rw [he] at hx; rw [hf] at hy
        simp only [VR] at hx hy
        exact .same hw (v := .int k (if m < n then m else n)) (by simp [resolve, hcal, ha, hb, invoke, builtin, Builtin.min_, Builtin.min2, hx, hy]) (by simp [VR])
      · cases hp
    · cases hc
  · rename_i hcal
    split at hc
    · rename_i x y tx ty hargs htys
      obtain ⟨ha, hb⟩ := call2 hargs htys
      obtain ⟨xa, ya, h1, h2, h3⟩ := comp2_ok hc
      simp only [IOp.p.injEq] at h3; subst h3
      have hx := io_ok hg ht h1
      have hy := io_ok hg ht h2
      simp only [pop] at hp
      split at hp
      · rename_i k n k' m he hf
        simp only [Option.some.injEq, if_true] at hp; subst hp
        rw [he] at hx; rw [hf] at hy
        simp only [VR] at hx hy
        exact .same hw (v := .int k (if m > n then m else n)) (by simp [resolve, hcal, ha, hb, invoke, builtin, Builtin.max_, Builtin.max2, hx, hy]) (by simp [VR])
      · cases hp
    · cases hc
  · split at hc
    · unfold compFn at hc
      split at hc
      · cases hc
      · obtain ⟨y, h1, h2⟩ := map_some hc
        cases h2
    · cases hc
  · cases hc
end
end Go.VS
