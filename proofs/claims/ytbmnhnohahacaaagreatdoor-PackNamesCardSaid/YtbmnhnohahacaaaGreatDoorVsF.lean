/-
  VALUE SEMANTICS, PART F. The pure operations, on: numbers, texts, structs, slices.
-/
import Derived.Test.YtbmnhnohahacaaaGreatDoorVsE
import Derived.Laws.StructEq
import Derived.WalkSpells
namespace Go.VS
open Go.RowKit
set_option linter.unusedSimpArgs false
set_option linter.unusedVariables false
set_option maxRecDepth 4000

section
variable {P : Program} {G : Ghost} {σ : AS} {w : World}

/-! ### numbers and texts -/

theorem intBin_ok {op : BinOp} {k yk : IntKind} {a b : Int} {av : AV} (hp : intBin op k a yk b = some av) (t : TypeId) (w : World) :
    ∃ v, (binOp op t (.int k a) (.int yk b)).run P w = .ok v w ∧ VR G av v := by
  cases op <;> simp only [intBin] at hp
  case shl =>
    split at hp
    · cases hp
    · rename_i hb
      simp only [Option.some.injEq] at hp; subst hp
      exact ⟨_, by simp [binOp, Op.shift, hb]; rfl, by simp [VR]⟩
  case shr =>
    split at hp
    · cases hp
    · rename_i hb
      simp only [Option.some.injEq] at hp; subst hp
      exact ⟨_, by simp [binOp, Op.shift, hb]; rfl, by simp [VR]⟩
  case quo =>
    split at hp
    · rename_i hb
      obtain ⟨rfl, hb⟩ := hb
      simp only [Option.some.injEq] at hp; subst hp
      exact ⟨_, by simp [binOp, Op.intDiv, hb]; rfl, by simp [VR]⟩
    · cases hp
  case rem =>
    split at hp
    · rename_i hb
      obtain ⟨rfl, hb⟩ := hb
      simp only [Option.some.injEq] at hp; subst hp
      exact ⟨_, by simp [binOp, Op.intDiv, hb]; rfl, by simp [VR]⟩
    · cases hp
  all_goals
    split at hp
    · rename_i hb
      subst hb
      simp only [Option.some.injEq] at hp; subst hp
      exact ⟨_, by simp [binOp, Op.intArith, Op.intBits, Op.intCmp]; rfl, by simp [VR]⟩
    · cases hp

theorem strBin_ok {op : BinOp} {a b : List UInt8} {av : AV} (hp : popBin op (.str a) (.str b) = some av) (t : TypeId) (w : World) :
    ∃ v, (binOp op t (.string ⟨a.toArray⟩) (.string ⟨b.toArray⟩)).run P w = .ok v w ∧ VR G av v := by
  cases op <;> simp only [popBin, strBin] at hp
  case add =>
    split at hp
    · rename_i hb
      simp only [Option.some.injEq] at hp; subst hp
      refine ⟨.string ⟨(a ++ b).toArray⟩, ?_, by simp [VR]⟩
      have := run_string_add_sum (P := P) w ⟨a.toArray⟩ ⟨b.toArray⟩ (by simp [ByteArray.size, strMax] at *; omega)
      simp only [binOp]
      rw [this, ByteArray.mk_append_mk]
    · cases hp
  all_goals first
    | cases hp; done
    | (simp only [Option.some.injEq] at hp; subst hp
       exact ⟨_, by simp [binOp, Op.stringOp]; rfl, by simp [VR]⟩)

theorem popBin_ok {op : BinOp} {x y : Value} {xa ya av : AV} (hx : VR G xa x) (hy : VR G ya y) (hp : popBin op xa ya = some av) (t : TypeId) (w : World) :
    ∃ v, (binOp op t x y).run P w = .ok v w ∧ VR G av v := by
  cases xa <;> cases ya <;> try (simp only [popBin] at hp; cases hp; done)
  · simp only [VR] at hx hy; subst hx hy
    exact intBin_ok (by simpa only [popBin] using hp) t w
  · simp only [VR] at hx hy; subst hx hy
    exact strBin_ok hp t w

theorem eqGuard_basic {op : BinOp} {x y : Value} {xa ya av : AV} (hx : VR G xa x) (hy : VR G ya y) (hp : popBin op xa ya = some av) (t : TypeId) (o1 o2 : Operand) : eqGuard op t o1 o2 x y = pure () := by
  cases xa <;> cases ya <;> try (simp only [popBin] at hp; cases hp; done)
  · simp only [VR] at hx hy; subst hx hy; exact eqGuard_at_int op t o1 o2 _ _ _
  · simp only [VR] at hx hy; subst hx hy; exact eqGuard_at_string op t o1 o2 _ _

theorem popUn_ok {op : UnOp} {x : Value} {xa av : AV} (hw : WR G σ w) (hx : VR G xa x) (hp : popUn op xa = some av) : OkV P (Op.unary op x) G σ w av := by
  cases xa <;> cases op <;> simp only [popUn] at hp <;> (try cases hp; done) <;> simp only [VR] at hx <;> subst hx <;> (try simp only [Option.some.injEq] at hp) <;> first | (cases hp; done) | subst hp
  all_goals exact .same hw (by simp [Op.unary, Op.intArith, Op.intBits]; rfl) (by simp [VR])

/-! ### equality -/

theorem avEq_ok {k : EK} {a b : AV} {x y : Value} {r : Bool} {t : TypeId} (hb : kindT P t = some k) (hx : VR G a x) (hy : VR G b y) (h : avEq k a b = some r) (d : Nat) (w : World) :
    (Op.equalIn (d + 1) t x y).run P w = .ok r w := by
  unfold kindT at hb
  unfold avEq at h
  split at h
  · simp only [VR] at hx hy; subst hx hy
    simp only [Option.some.injEq] at h; subst h
    split at hb <;> simp_all [Op.equalIn, run_underlying]
  · simp only [VR] at hx hy; subst hx hy
    split at h
    · rename_i hk
      subst hk
      simp only [Option.some.injEq] at h; subst h
      split at hb <;> simp_all [Op.equalIn, run_underlying]
    · cases h
  · simp only [VR] at hx hy; subst hx hy
    simp only [Option.some.injEq] at h; subst h
    split at hb <;> simp_all [Op.equalIn, run_underlying, beq_toListBytes]
  · cases h

theorem kind_agg {k : EK} {t : TypeId} (h : kindT P t = some k) : aggOf P t = some false := by
  unfold kindT at h; unfold aggOf
  split at h <;> simp_all

theorem eqFields_ok : ∀ {fs : List Field} {off : Nat} {ks : List EK} {as bs : List AV} {xs ys : List Value} {r : Bool} (d : Nat) (w : World),
    flatFields P off fs = some ks → VRs G as (xs.drop off) → VRs G bs (ys.drop off) → avEqs ks as bs = some r →
    (Op.eqFields (d + 1) xs.toArray ys.toArray fs).run P w = .ok r w
  | [], off, ks, as, bs, xs, ys, r, d, w, hf, hx, hy, h => by
    simp only [flatFields, Option.some.injEq] at hf; subst hf
    cases as <;> cases bs <;> simp only [avEqs] at h <;> first | (cases h; done) | skip
    simp only [Option.some.injEq] at h; subst h
    simp [Op.eqFields]
  | f :: fs, off, ks, as, bs, xs, ys, r, d, w, hf, hx, hy, h => by
    simp only [flatFields] at hf
    split at hf
    · rename_i hn
      obtain ⟨hn, ho⟩ := hn
      split at hf
      · rename_i q qs hq hqs
        simp only [Option.some.injEq] at hf; subst hf
        cases as with
        | nil => simp [avEqs] at h
        | cons a as => cases bs with
          | nil => simp [avEqs] at h
          | cons b bs =>
            simp only [avEqs] at h
            obtain ⟨x, xs', hxe, hax, hxs⟩ := hx.cons_inv
            obtain ⟨y, ys', hye, hby, hys⟩ := hy.cons_inv
            have hxg : xs[off]? = some x := by have := congrArg (·[0]?) hxe; simpa using this
            have hyg : ys[off]? = some y := by have := congrArg (·[0]?) hye; simpa using this
            have hxd : xs.drop (off + 1) = xs' := by rw [← List.drop_drop, hxe]; rfl
            have hyd : ys.drop (off + 1) = ys' := by rw [← List.drop_drop, hye]; rfl
            have hpx : (part f.type xs.toArray f.offset).run P w = .ok x w := by simp [part, run_isAgg (kind_agg hq), ho, hxg]
            have hpy : (part f.type ys.toArray f.offset).run P w = .ok y w := by simp [part, run_isAgg (kind_agg hq), ho, hyg]
            simp only [Op.eqFields, if_pos hn, Sem.run_bind, hpx, hpy, Result.andThen_ok]
            split at h
            · rename_i he
              rw [avEq_ok hq hax hby he d w]
              simp only [Result.andThen_ok, Bool.not_true, Bool.false_eq_true, if_false]
              exact eqFields_ok d w hqs (by rw [hxd]; exact hxs) (by rw [hyd]; exact hys) h
            · rename_i he
              rw [avEq_ok hq hax hby he d w]
              split at h
              · simp only [Option.some.injEq] at h; subst h
                simp
              · cases h
            · cases h
      · cases hf
    · cases hf

theorem avEqd_ok {pl : EP} {a b : AV} {x y : Value} {r : Bool} {t : TypeId} (hb : planT P t = some pl) (hx : VR G a x) (hy : VR G b y) (h : avEqd pl a b = some r) (w : World) (d : Nat) :
    (Op.equalIn (d + 2) t x y).run P w = .ok r w := by
  unfold planT at hb
  split at hb
  · rename_i fs hu
    split at hb
    · rename_i hst
      obtain ⟨hst, hgt⟩ := hst
      cases hff : flatFields P 0 fs.toList with
      | none => simp [hff] at hb
      | some ks =>
        simp only [hff, Option.map_some, Option.some.injEq] at hb; subst hb
        cases a <;> cases b <;> simp only [avEqd] at h <;> try (cases h; done)
        simp only [VR] at hx hy
        obtain ⟨xs, rfl, hxs, _⟩ := hx
        obtain ⟨ys, rfl, hys, _⟩ := hy
        have hfo : P.fieldsOf t = fs := by simp [Program.fieldsOf, hu]
        rw [run_equalIn_struct w (d + 1) t _ _ (by rw [hfo]; exact hu) hst, hfo]
        exact eqFields_ok d w hff (by simpa using hxs) (by simpa using hys) h
    · cases hb
  · rename_i hns
    cases hk : kindT P t with
    | none => simp [hk] at hb
    | some k =>
      simp only [hk, Option.map_some, Option.some.injEq] at hb; subst hb
      exact avEq_ok hk hx hy h (d + 1) w

theorem eqd_guard {pl : EP} {a b : AV} {x y : Value} {r : Bool} {t : TypeId} (hb : planT P t = some pl) (hx : VR G a x) (hy : VR G b y) (h : avEqd pl a b = some r) (w : World)
    (op : BinOp) (o1 o2 : Operand) : (eqGuard op t o1 o2 x y).run P w = .ok () w := by
  unfold planT at hb
  split at hb
  · rename_i fs hu
    split at hb
    · rename_i hst
      obtain ⟨hst, hgt⟩ := hst
      cases hff : flatFields P 0 fs.toList with
      | none => simp [hff] at hb
      | some ks =>
        simp only [hff, Option.map_some, Option.some.injEq] at hb; subst hb
        cases a <;> cases b <;> simp only [avEqd] at h <;> try (cases h; done)
        simp only [VR] at hx hy
        obtain ⟨xs, rfl, hxs, _⟩ := hx
        obtain ⟨ys, rfl, hys, _⟩ := hy
        exact run_eqGuard_agg w op t o1 o2 _ _ hgt
    · cases hb
  · cases hk : kindT P t with
    | none => simp [hk] at hb
    | some k =>
      simp only [hk, Option.map_some, Option.some.injEq] at hb; subst hb
      simp only [avEqd] at h
      unfold avEq at h
      split at h
      · simp only [VR] at hx hy; subst hx hy; rw [eqGuard_at_bool]; simp
      · simp only [VR] at hx hy; subst hx hy; rw [eqGuard_at_int]; simp
      · simp only [VR] at hx hy; subst hx hy; rw [eqGuard_at_string]; simp
      · cases h

/-- '==' and '!=' on data. -/
theorem eqd_bin {pl : EP} {a b : AV} {x y : Value} {r : Bool} {t : TypeId} (hb : planT P t = some pl) (hx : VR G a x) (hy : VR G b y) (h : avEqd pl a b = some r) (w : World)
    (hnb : ∀ k, P.underlying t ≠ some (.int k)) (hns : P.underlying t ≠ some .string) :
    (binOp .eql t x y).run P w = .ok (.bool r) w ∧ (binOp .neq t x y).run P w = .ok (.bool (!r)) w := by
  have he := avEqd_ok hb hx hy h w 9998
  have key : (∃ p q, x = .bool p ∧ y = .bool q) ∨ (∃ p q, x = .agg p ∧ y = .agg q) := by
    unfold planT at hb
    split at hb
    · rename_i fs hu
      split at hb
      · cases hff : flatFields P 0 fs.toList with
        | none => simp [hff] at hb
        | some ks =>
          simp only [hff, Option.map_some, Option.some.injEq] at hb; subst hb
          cases a <;> cases b <;> simp only [avEqd] at h <;> try (cases h; done)
          simp only [VR] at hx hy
          obtain ⟨xs, rfl, hxs, _⟩ := hx
          obtain ⟨ys, rfl, hys, _⟩ := hy
          exact .inr ⟨_, _, rfl, rfl⟩
      · cases hb
    · cases hk : kindT P t with
      | none => simp [hk] at hb
      | some k =>
        simp only [hk, Option.map_some, Option.some.injEq] at hb; subst hb
        unfold kindT at hk
        split at hk
        · simp only [Option.some.injEq] at hk; subst hk
          simp only [avEqd] at h
          unfold avEq at h
          split at h
          · simp only [VR] at hx hy; exact .inl ⟨_, _, hx, hy⟩
          · contradiction
          · contradiction
          · cases h
        · rename_i k' hu; exact absurd hu (hnb k')
        · rename_i hu; exact absurd hu hns
        · cases hk
  rcases key with ⟨p, q, rfl, rfl⟩ | ⟨p, q, rfl, rfl⟩
  · simp [binOp, Op.equal, Op.maxDepth, he]
  · simp [binOp, Op.equal, Op.maxDepth, he]

/-! ### nil -/

theorem nilT_p {t : TypeId} (h : nilT P t = some .p) : ∃ a, P.underlying t = some (.pointer a) := by
  unfold nilT at h
  split at h <;> first | (cases h; done) | (cases h; exact ⟨_, ‹_›⟩) | (cases h; exact ⟨_, _, ‹_›⟩) | (cases h; exact ⟨_, _, _, ‹_›⟩) | exact ⟨_, ‹_›⟩ | exact ⟨_, _, ‹_›⟩ | exact ⟨_, _, _, ‹_›⟩
theorem nilT_s {t : TypeId} (h : nilT P t = some .s) : ∃ a, P.underlying t = some (.slice a) := by
  unfold nilT at h
  split at h <;> first | (cases h; done) | (cases h; exact ⟨_, ‹_›⟩) | (cases h; exact ⟨_, _, ‹_›⟩) | (cases h; exact ⟨_, _, _, ‹_›⟩) | exact ⟨_, ‹_›⟩ | exact ⟨_, _, ‹_›⟩ | exact ⟨_, _, _, ‹_›⟩
theorem nilT_m {t : TypeId} (h : nilT P t = some .m) : ∃ a b, P.underlying t = some (.map a b) := by
  unfold nilT at h
  split at h <;> first | (cases h; done) | (cases h; exact ⟨_, ‹_›⟩) | (cases h; exact ⟨_, _, ‹_›⟩) | (cases h; exact ⟨_, _, _, ‹_›⟩) | exact ⟨_, ‹_›⟩ | exact ⟨_, _, ‹_›⟩ | exact ⟨_, _, _, ‹_›⟩
theorem nilT_f {t : TypeId} (h : nilT P t = some .f) : ∃ a b c, P.underlying t = some (.func a b c) := by
  unfold nilT at h
  split at h <;> first | (cases h; done) | (cases h; exact ⟨_, ‹_›⟩) | (cases h; exact ⟨_, _, ‹_›⟩) | (cases h; exact ⟨_, _, _, ‹_›⟩) | exact ⟨_, ‹_›⟩ | exact ⟨_, _, ‹_›⟩ | exact ⟨_, _, _, ‹_›⟩
theorem nilT_i {t : TypeId} (h : nilT P t = some .i) : ∃ a, P.underlying t = some (.interface a) := by
  unfold nilT at h
  split at h <;> first | (cases h; done) | (cases h; exact ⟨_, ‹_›⟩) | (cases h; exact ⟨_, _, ‹_›⟩) | (cases h; exact ⟨_, _, _, ‹_›⟩) | exact ⟨_, ‹_›⟩ | exact ⟨_, _, ‹_›⟩ | exact ⟨_, _, _, ‹_›⟩
theorem VR.slice_nil' {nl : Bool} {sz : Nat} {es : List AV} {tok : Tok} {x : Value} (h : VR G (.slice nl sz es tok) x) : ∃ b n c, x = .slice b n c ∧ n = es.length := by
  simp only [VR] at h; obtain ⟨base, cap, cs, h1, h2, _⟩ := h; exact ⟨base, _, cap, h1, rfl⟩
theorem nil_eq {nk : NK} {a b : AV} {x y : Value} {r : Bool} {t : TypeId} (ht : nilT P t = some nk) (hx : VR G a x) (hy : VR G b y) (h : avNil nk a b = some r)
    (w : World) (d : Nat) : (Op.equalIn (d + 1) t x y).run P w = .ok r w := by
  unfold avNil at h
  split at h <;> (try simp only [VR] at hx hy)
  · obtain ⟨e, hu⟩ := nilT_p ht
    subst hx
    subst hy
    simp only [Option.some.injEq] at h; subst h
    simp [Op.equalIn, run_und hu]
  · obtain ⟨e, hu⟩ := nilT_p ht
    subst hx
    obtain ⟨b2, h2, rfl⟩ := hy
    simp only [Option.some.injEq] at h; subst h
    simp [Op.equalIn, run_und hu]
  · obtain ⟨e, hu⟩ := nilT_p ht
    subst hx
    obtain ⟨b2, o2, v2, rfl, h2⟩ := hy
    simp only [Option.some.injEq] at h; subst h
    simp [Op.equalIn, run_und hu]
  · obtain ⟨e, hu⟩ := nilT_p ht
    obtain ⟨b1, h1, rfl⟩ := hx
    subst hy
    simp only [Option.some.injEq] at h; subst h
    simp [Op.equalIn, run_und hu]
  · obtain ⟨e, hu⟩ := nilT_p ht
    obtain ⟨b1, o1, v1, rfl, h1⟩ := hx
    subst hy
    simp only [Option.some.injEq] at h; subst h
    simp [Op.equalIn, run_und hu]
  · obtain ⟨e, hu⟩ := nilT_s ht
    obtain ⟨b1, c1, cs1, rfl, h1, _⟩ := hx
    obtain ⟨b2, c2, cs2, rfl, h2, _⟩ := hy
    cases b1 with
    | some _ => simp at h1
    | none =>
      simp only [Option.some.injEq] at h; subst h
      cases b2 <;> simp at h2 <;> subst h2 <;> simp [Op.equalIn, run_und hu]
  · obtain ⟨e, hu⟩ := nilT_s ht
    obtain ⟨b1, c1, cs1, rfl, h1, _⟩ := hx
    obtain ⟨b2, c2, cs2, rfl, h2, _⟩ := hy
    cases b1 with
    | none => simp at h1
    | some _ => cases b2 with
      | some _ => simp at h2
      | none =>
        simp only [Option.some.injEq] at h; subst h
        simp [Op.equalIn, run_und hu]
  · obtain ⟨k, e, hu⟩ := nilT_m ht
    subst hx
    subst hy
    simp only [Option.some.injEq] at h; subst h
    simp [Op.equalIn, run_und hu]
  · obtain ⟨k, e, hu⟩ := nilT_m ht
    subst hx
    obtain ⟨b2, h2, rfl⟩ := hy
    simp only [Option.some.injEq] at h; subst h
    simp [Op.equalIn, run_und hu]
  · obtain ⟨k, e, hu⟩ := nilT_m ht
    obtain ⟨b1, h1, rfl⟩ := hx
    subst hy
    simp only [Option.some.injEq] at h; subst h
    simp [Op.equalIn, run_und hu]
  · obtain ⟨a, b, c, hu⟩ := nilT_f ht
    subst hx
    subst hy
    simp only [Option.some.injEq] at h; subst h
    simp [Op.equalIn, run_und hu]
  · obtain ⟨a, b, c, hu⟩ := nilT_f ht
    subst hx
    obtain ⟨v3, v4, rfl, h2⟩ := hy
    simp only [Option.some.injEq] at h; subst h
    simp [Op.equalIn, run_und hu]
  · obtain ⟨a, b, c, hu⟩ := nilT_f ht
    obtain ⟨v1, v2, rfl, h1⟩ := hx
    subst hy
    simp only [Option.some.injEq] at h; subst h
    simp [Op.equalIn, run_und hu]
  · obtain ⟨ms, hu⟩ := nilT_i ht
    subst hx
    subst hy
    simp only [Option.some.injEq] at h; subst h
    simp [Op.equalIn, run_und hu]
  · obtain ⟨ms, hu⟩ := nilT_i ht
    subst hx
    obtain ⟨u2, rfl, h2⟩ := hy
    simp only [Option.some.injEq] at h; subst h
    simp [Op.equalIn, run_und hu]
  · obtain ⟨ms, hu⟩ := nilT_i ht
    obtain ⟨u1, rfl, h1⟩ := hx
    subst hy
    simp only [Option.some.injEq] at h; subst h
    simp [Op.equalIn, run_und hu]
  · cases h

theorem nil_guard {nk : NK} {a b : AV} {x y : Value} {r : Bool} {t : TypeId} (hx : VR G a x) (hy : VR G b y) (h : avNil nk a b = some r)
    (w : World) (op : BinOp) {o1 o2 : Operand} (hc : isNilC o1 = true ∨ isNilC o2 = true) : eqGuard op t o1 o2 x y = pure () := by
  unfold avNil at h
  split at h <;> (try simp only [VR] at hx hy)
  iterate 5
    · first | subst hx | obtain ⟨b1, h1, rfl⟩ := hx | obtain ⟨b1, o1, v1, rfl, h1⟩ := hx
      exact eqGuard_at_pointer op t _ _ _ _
  iterate 2
    · obtain ⟨b1, c1, cs1, rfl, h1, _⟩ := hx
      exact eqGuard_at_slice op t o1 o2 _ _ _ _
  iterate 3
    · first | subst hx | obtain ⟨b1, h1, rfl⟩ := hx
      exact eqGuard_at_map op t o1 o2 _ _
  · subst hx; exact eqGuard_at_nilFunc op t o1 o2 _
  · subst hx; exact eqGuard_at_nilFunc op t o1 o2 _
  · obtain ⟨v1, v2, rfl, h1⟩ := hx; exact eqGuard_at_func op t o1 o2 _ _ _ _
  · subst hx hy
    rcases hc with hc | hc
    · cases o1 <;> simp only [isNilC] at hc <;> first | (cases hc; done) | exact eqGuard_nil_constL op t o2 _
    · cases o2 <;> simp only [isNilC] at hc <;> first | (cases hc; done) | exact eqGuard_nil_constR op t o1 _
  · subst hx
    obtain ⟨u2, rfl, h2⟩ := hy
    exact eqGuard_nil_iface op t o1 o2 _ _
  · obtain ⟨u1, rfl, h1⟩ := hx
    exact eqGuard_at_iface op t o1 o2 _ _ _
  · cases h

theorem nil_bin {nk : NK} {a b : AV} {x y : Value} {r : Bool} {t : TypeId} (ht : nilT P t = some nk) (hx : VR G a x) (hy : VR G b y) (h : avNil nk a b = some r) (w : World) :
    (binOp .eql t x y).run P w = .ok (.bool r) w ∧ (binOp .neq t x y).run P w = .ok (.bool (!r)) w := by
  have he := nil_eq (P := P) ht hx hy h w 9999
  have hb : (∀ k n, x ≠ .int k n) ∧ (∀ k n, x ≠ .float k n) ∧ (∀ k n m, x ≠ .complex k n m) ∧ (∀ s, x ≠ .string s) := by
    unfold avNil at h
    split at h <;> (try simp only [VR] at hx) <;> first
      | (cases h; done)
      | (subst hx; refine ⟨?_, ?_, ?_, ?_⟩ <;> intros <;> simp; done)
      | (obtain ⟨_, _, rfl⟩ := hx; refine ⟨?_, ?_, ?_, ?_⟩ <;> intros <;> simp; done)
      | (obtain ⟨_, _, _, rfl, _⟩ := hx; refine ⟨?_, ?_, ?_, ?_⟩ <;> intros <;> simp; done)
      | (obtain ⟨_, _, rfl, _⟩ := hx; refine ⟨?_, ?_, ?_, ?_⟩ <;> intros <;> simp; done)
      | (obtain ⟨_, rfl, _⟩ := hx; refine ⟨?_, ?_, ?_, ?_⟩ <;> intros <;> simp; done)
  obtain ⟨h1, h2, h3, h4⟩ := hb
  cases x <;> first
    | (exact absurd rfl (h1 _ _)) | (exact absurd rfl (h2 _ _)) | (exact absurd rfl (h3 _ _ _)) | (exact absurd rfl (h4 _))
    | (constructor <;> (simp only [binOp]; simp [Op.equal, Op.maxDepth, he]))
end
end Go.VS
