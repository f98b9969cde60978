/-
  VALUE SEMANTICS, PART M. Maps.
-/
import Derived.Test.YtbmnhnohahacaaaGreatDoorVsL
namespace Go.VS
open Go.RowKit
set_option linter.unusedSimpArgs false
set_option linter.unusedVariables false
set_option maxRecDepth 4000

section
variable {P : Program} {G : Ghost} {σ : AS} {w : World}

theorem fitK_check {k : EK} {a : AV} {x : Value} {t : TypeId} (hk : kindT P t = some k) (hx : VR G a x) (hf : fitK k a = true) (em : Bool) (d : Nat) (w : World) :
    (Instr.checkKey em (d + 1) t x).run P w = .ok () w := by
  unfold kindT at hk
  split at hk <;> rename_i hu <;> (try cases hk) <;> simp [Instr.checkKey, run_und hu]

theorem fields_check {xs : List Value} : ∀ {fs : List Field} {off : Nat} {ks : List EK} {as : List AV} (em : Bool) (d : Nat) (w : World),
    flatFields P off fs = some ks → VRs G as (xs.drop off) → fitKs ks as = true →
    (forIn fs PUnit.unit (fun f _ =>
      (if f.name ≠ "_" then do
        let x ← part f.type xs.toArray f.offset
        Instr.checkKey em (d + 1) f.type x
        pure (ForInStep.yield PUnit.unit)
      else pure (ForInStep.yield PUnit.unit))) : Sem PUnit).run P w = .ok PUnit.unit w
  | [], off, ks, as, em, d, w, hf, hx, h => by simp
  | f :: fs, off, ks, as, em, d, w, hf, hx, h => by
    simp only [flatFields] at hf
    split at hf
    · rename_i hn
      obtain ⟨hn, ho⟩ := hn
      split at hf
      · rename_i q qs hq hqs
        simp only [Option.some.injEq] at hf; subst hf
        cases as with
        | nil => simp [fitKs] at h
        | cons a as =>
          simp only [fitKs, Bool.and_eq_true] at h
          obtain ⟨x, xs', hxe, hax, hxs⟩ := hx.cons_inv
          have hxg : xs[off]? = some x := by have := congrArg (·[0]?) hxe; simpa using this
          have hxd : xs.drop (off + 1) = xs' := by rw [← List.drop_drop, hxe]; rfl
          have hpx : (part f.type xs.toArray f.offset).run P w = .ok x w := by simp [part, run_isAgg (kind_agg hq), ho, hxg]
          have ih := fields_check em d w hqs (by rw [hxd]; exact hxs) h.2
          simp only [List.forIn_cons, Sem.run_bind, if_pos hn, hpx, Result.andThen_ok, fitK_check hq hax h.1 em d w, Sem.run_pure]
          exact ih
      · cases hf
    · cases hf

theorem check_at {pl : EP} {a : AV} {x : Value} {t : TypeId} (hp : planT P t = some pl) (hx : VR G a x) (hf : fitP pl a = true) (em : Bool) (d : Nat) (w : World) :
    (Instr.checkKey em (d + 2) t x).run P w = .ok () w := by
  unfold planT at hp
  split at hp
  · rename_i fs hu
    split at hp
    · cases hff : flatFields P 0 fs.toList with
      | none => simp [hff] at hp
      | some ks =>
        simp only [hff, Option.map_some, Option.some.injEq] at hp; subst hp
        cases a <;> simp only [fitP] at hf <;> try (cases hf; done)
        simp only [VR] at hx
        obtain ⟨xs, rfl, hxs, _⟩ := hx
        have := fields_check (xs := xs) em d w hff (by simpa using hxs) hf
        rw [show d + 2 = (d + 1) + 1 from rfl, Instr.checkKey]
        simp only [Sem.run_bind, run_und hu, Result.andThen_ok]
        rw [← Array.forIn_toList, this]
        rfl
    · cases hp
  · obtain ⟨k, hk, rfl⟩ := Option.map_eq_some_iff.1 hp
    exact fitK_check hk hx hf em (d + 1) w

theorem EntR.get : ∀ {es : List (AV × AV)} {ms : List MapEntry} {i : Nat} {k v : AV}, EntR G es ms → es[i]? = some (k, v) → ∃ m, ms[i]? = some m ∧ VR G k m.key ∧ VR G v m.val
  | [], ms, i, k, v, h, e => by simp at e
  | (k0, v0) :: es, ms, 0, k, v, h, e => by
    obtain ⟨m, ms', rfl, h1, h2, h3⟩ := h
    simp at e; obtain ⟨rfl, rfl⟩ := e
    exact ⟨m, rfl, h1, h2⟩
  | (k0, v0) :: es, ms, i + 1, k, v, h, e => by
    obtain ⟨m, ms', rfl, h1, h2, h3⟩ := h
    simp at e
    simpa using EntR.get h3 e

theorem EntR.set : ∀ {es : List (AV × AV)} {ms : List MapEntry} (i : Nat) {k v : AV} {x : MapEntry}, EntR G es ms → VR G k x.key → VR G v x.val → EntR G (es.set i (k, v)) (ms.set i x)
  | [], ms, i, k, v, x, h, h1, h2 => by simp only [EntR] at h; subst h; simp [EntR]
  | (k0, v0) :: es, ms, 0, k, v, x, h, h1, h2 => by
    obtain ⟨m, ms', rfl, _, _, h3⟩ := h
    exact ⟨x, ms', rfl, h1, h2, h3⟩
  | (k0, v0) :: es, ms, i + 1, k, v, x, h, h1, h2 => by
    obtain ⟨m, ms', rfl, h4, h5, h3⟩ := h
    exact ⟨m, _, rfl, h4, h5, EntR.set i h3 h1 h2⟩

theorem EntR.snoc : ∀ {es : List (AV × AV)} {ms : List MapEntry} {k v : AV} {x : MapEntry}, EntR G es ms → VR G k x.key → VR G v x.val → EntR G (es ++ [(k, v)]) (ms ++ [x])
  | [], ms, k, v, x, h, h1, h2 => by simp only [EntR] at h; subst h; exact ⟨x, [], rfl, h1, h2, rfl⟩
  | (k0, v0) :: es, ms, k, v, x, h, h1, h2 => by
    obtain ⟨m, ms', rfl, h4, h5, h3⟩ := h
    exact ⟨m, _, rfl, h4, h5, EntR.snoc h3 h1 h2⟩

theorem EntR.length : ∀ {es : List (AV × AV)} {ms : List MapEntry}, EntR G es ms → ms.length = es.length
  | [], ms, h => by simp only [EntR] at h; subst h; rfl
  | (k0, v0) :: es, ms, h => by obtain ⟨m, ms', rfl, _, _, h3⟩ := h; simp [EntR.length h3]

/-- Where a key stands. -/
def posA (pl : EP) : List (AV × AV) → AV → Option (Option Nat)
  | [], _ => some none
  | (k, _) :: es, x => match avEqd pl x k with
    | some true => some (some 0)
    | some false => (posA pl es x).map fun r => r.map (· + 1)
    | none => none

theorem lookA_pos {pl : EP} : ∀ {es : List (AV × AV)} {x : AV}, (∀ r, lookA pl es x = some r → ∃ q, posA pl es x = some q ∧ (match q with | none => r = none | some i => ∃ k v, es[i]? = some (k, v) ∧ r = some v ∧ avEqd pl x k = some true)) ∧
    (∀ y r, setA pl es x y = some r → ∃ q, posA pl es x = some q ∧ (match q with | none => r = es ++ [(x, y)] | some i => ∃ k v, es[i]? = some (k, v) ∧ r = es.set i (x, y) ∧ avEqd pl x k = some true))
  | [], x => ⟨fun r h => by simp only [lookA, Option.some.injEq] at h; subst h; exact ⟨none, rfl, rfl⟩, fun y r h => by simp only [setA, Option.some.injEq] at h; subst h; exact ⟨none, rfl, rfl⟩⟩
  | (k, v) :: es, x => by
    obtain ⟨ih1, ih2⟩ := lookA_pos (pl := pl) (es := es) (x := x)
    constructor
    · intro r h
      simp only [lookA] at h
      split at h
      · rename_i he
        simp only [Option.some.injEq] at h; subst h
        exact ⟨some 0, by simp [posA, he], k, v, rfl, rfl, he⟩
      · rename_i he
        obtain ⟨q, h1, h2⟩ := ih1 r h
        refine ⟨q.map (· + 1), by simp [posA, he, h1], ?_⟩
        cases q with
        | none => exact h2
        | some i => obtain ⟨k', v', h3, h4⟩ := h2; exact ⟨k', v', by simpa using h3, h4⟩
      · cases h
    · intro y r h
      simp only [setA] at h
      split at h
      · rename_i he
        simp only [Option.some.injEq] at h; subst h
        exact ⟨some 0, by simp [posA, he], k, v, rfl, rfl, he⟩
      · rename_i he
        cases hs : setA pl es x y with
        | none => simp [hs] at h
        | some r' =>
          simp only [hs, Option.map_some, Option.some.injEq] at h; subst h
          obtain ⟨q, h1, h2⟩ := ih2 y r' hs
          refine ⟨q.map (· + 1), by simp [posA, he, h1], ?_⟩
          cases q with
          | none => simp only [Option.map_none] at *; rw [h2]; rfl
          | some i => obtain ⟨k', v', h3, h4, h5⟩ := h2; exact ⟨k', v', by simpa using h3, by rw [h4]; rfl, h5⟩
      · cases h

theorem findAsk_ok {pl : EP} {x : AV} {kx : Value} {t : TypeId} (hp : planT P t = some pl) (hx : VR G x kx) (w : World) : ∀ {es : List (AV × AV)} {ms : List MapEntry} {q : Option Nat} (n : Nat),
    EntR G es ms → posA pl es x = some q → (Instr.findAsking t kx ms n).run P w = .ok (q.bind fun i => (ms[i]?).map fun m => (n + i, m.val)) w
  | [], ms, q, n, h, hq => by simp only [EntR] at h; subst h; simp only [posA, Option.some.injEq] at hq; subst hq; rfl
  | (k, v) :: es, ms, q, n, h, hq => by
    obtain ⟨m, ms', rfl, h1, h2, h3⟩ := h
    simp only [posA] at hq
    split at hq
    · rename_i he
      simp only [Option.some.injEq] at hq; subst hq
      have := avEqd_ok hp hx h1 he w 9998
      simp [Instr.findAsking, Op.equal, Op.maxDepth, this]
    · rename_i he
      have := avEqd_ok hp hx h1 he w 9998
      obtain ⟨q', hq', rfl⟩ := Option.map_eq_some_iff.1 hq
      have ih := findAsk_ok hp hx w (n + 1) h3 hq'
      simp only [Instr.findAsking, Op.equal, Op.maxDepth, Sem.run_bind, this, Result.andThen_ok, Bool.false_eq_true, if_false, ih]
      cases q' with
      | none => rfl
      | some i => simp [Nat.add_assoc, Nat.add_comm 1 i]
    · cases hq

theorem findNow_ok {k : EK} {x : AV} {kx : Value} {t : TypeId} {d : TypeDesc} (hk : kindT P t = some k) (hd : P.underlying t = some d) (hx : VR G x kx) : ∀ {es : List (AV × AV)} {ms : List MapEntry} {q : Option Nat} (n : Nat),
    EntR G es ms → posA (.one k) es x = some q → Instr.findNow d kx ms n = some (q.bind fun i => (ms[i]?).map fun m => (n + i, m.val))
  | [], ms, q, n, h, hq => by simp only [EntR] at h; subst h; simp only [posA, Option.some.injEq] at hq; subst hq; rfl
  | (k0, v) :: es, ms, q, n, h, hq => by
    obtain ⟨m, ms', rfl, h1, h2, h3⟩ := h
    have key : ∀ r, avEq k x k0 = some r → Instr.sameNow d kx m.key = some r := fun r he => by
      unfold kindT at hk; rw [hd] at hk
      unfold avEq at he
      split at he
      · simp only [VR] at hx h1; subst hx; rw [h1]
        split at hk <;> simp_all [Instr.sameNow]
      · simp only [VR] at hx h1; subst hx; rw [h1]
        split at he
        · rename_i hkk; subst hkk
          split at hk <;> simp_all [Instr.sameNow]
        · cases he
      · simp only [VR] at hx h1; subst hx; rw [h1]
        split at hk <;> simp_all [Instr.sameNow, beq_toListBytes]
      · cases he
    simp only [posA, avEqd] at hq
    split at hq
    · rename_i he
      simp only [Option.some.injEq] at hq; subst hq
      simp [Instr.findNow, key _ he]
    · rename_i he
      obtain ⟨q', hq', rfl⟩ := Option.map_eq_some_iff.1 hq
      have ih := findNow_ok hk hd hx (n + 1) h3 hq'
      simp only [Instr.findNow, key _ he, ih]
      cases q' with
      | none => rfl
      | some i => simp [Nat.add_assoc, Nat.add_comm 1 i]
    · cases hq

theorem findNow_struct {fs : Array Field} {kx : Value} : ∀ (ms : List MapEntry) (n : Nat), Instr.findNow (.struct fs) kx ms n = if ms.isEmpty then some none else none
  | [], n => rfl
  | m :: ms, n => by simp [Instr.findNow, Instr.sameNow]

theorem find_ok {pl : EP} {x : AV} {kx : Value} {t : TypeId} (hp : planT P t = some pl) (hx : VR G x kx) (w : World) {es : List (AV × AV)} {ms : List MapEntry} {q : Option Nat}
    (h : EntR G es ms) (hq : posA pl es x = some q) : (Instr.findKey t kx ms).run P w = .ok (q.bind fun i => (ms[i]?).map fun m => (i, m.val)) w := by
  have hask := findAsk_ok hp hx w 0 h hq
  simp only [Nat.zero_add] at hask
  have hp' := hp
  unfold planT at hp
  split at hp
  · rename_i fs hu
    simp only [Instr.findKey, Sem.run_bind, run_und hu, Result.andThen_ok, findNow_struct]
    cases ms with
    | nil =>
      cases es with
      | cons _ _ => obtain ⟨_, _, h', _⟩ := h; cases h'
      | nil => simp only [posA, Option.some.injEq] at hq; subst hq; simp
    | cons m ms => simpa using hask
  · obtain ⟨k, hk, rfl⟩ := Option.map_eq_some_iff.1 hp
    cases hd : P.underlying t with
    | none => simp [kindT, hd] at hk
    | some d =>
      have := findNow_ok hk hd hx 0 h hq
      simp only [Nat.zero_add] at this
      simp [Instr.findKey, run_und hd, this]

theorem sameBits_one {k : EK} {a b : AV} {x y : Value} (hx : VR G a x) (hy : VR G b y) (h : avEq k a b = some true) (n : Nat) : Instr.sameBits n y x = true := by
  unfold avEq at h
  split at h
  · simp only [VR] at hx hy; subst hx hy
    simp only [Option.some.injEq, beq_iff_eq] at h; subst h
    cases n <;> simp [Instr.sameBits]
  · simp only [VR] at hx hy; subst hx hy
    split at h
    · rename_i hk; subst hk
      simp only [Option.some.injEq, beq_iff_eq] at h; subst h
      cases n <;> simp [Instr.sameBits]
    · cases h
  · simp only [VR] at hx hy; subst hx hy
    simp only [Option.some.injEq, beq_iff_eq] at h; subst h
    cases n <;> simp [Instr.sameBits, beq_toListBytes]
  · cases h

theorem sameBits_all (n : Nat) : ∀ {ks : List EK} {as bs : List AV} {xs ys : List Value}, VRs G as xs → VRs G bs ys → avEqs ks as bs = some true →
    ys.length = xs.length ∧ (ys.zip xs).all (fun p => Instr.sameBits n p.1 p.2) = true
  | [], [], [], xs, ys, hx, hy, h => by have := hx.nil_inv; have := hy.nil_inv; subst_vars; simp
  | k :: ks, a :: as, b :: bs, xs, ys, hx, hy, h => by
    obtain ⟨x, xs', rfl, h1, h2⟩ := hx.cons_inv
    obtain ⟨y, ys', rfl, h3, h4⟩ := hy.cons_inv
    simp only [avEqs] at h
    split at h
    · rename_i he
      obtain ⟨h5, h6⟩ := sameBits_all n h2 h4 h
      refine ⟨by simp [h5], ?_⟩
      simp only [List.zip_cons_cons, List.all_cons, sameBits_one h1 h3 he n, Bool.true_and]
      exact h6
    · split at h <;> simp at h
    · cases h
  | [], [], _ :: _, _, _, _, _, h => by simp [avEqs] at h
  | [], _ :: _, _, _, _, _, _, h => by simp [avEqs] at h
  | _ :: _, [], _, _, _, _, _, h => by simp [avEqs] at h
  | _ :: _, _ :: _, [], _, _, _, _, h => by simp [avEqs] at h

theorem key_stays {pl : EP} {a b : AV} {x y : Value} (hx : VR G a x) (hy : VR G b y) (h : avEqd pl a b = some true) (w : World) : (Instr.keyThatStays y x).run P w = .ok x w := by
  have : Instr.sameBits 10000 y x = true := by
    unfold avEqd at h
    split at h
    · exact sameBits_one hx hy h 10000
    · simp only [VR] at hx hy
      obtain ⟨xs, rfl, hxs, _⟩ := hx
      obtain ⟨ys, rfl, hys, _⟩ := hy
      obtain ⟨h1, h2⟩ := sameBits_all 9999 hxs hys h
      show Instr.sameBits (9999 + 1) _ _ = true
      simp [Instr.sameBits, h1, h2]
    · cases h
  simp [Instr.keyThatStays, this]
end
end Go.VS
