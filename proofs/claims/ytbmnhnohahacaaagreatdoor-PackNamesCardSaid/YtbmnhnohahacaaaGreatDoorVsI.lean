/-
  VALUE SEMANTICS, PART I. Slicing, indexing, assertions; all pure operations together.
-/
import Derived.Test.YtbmnhnohahacaaaGreatDoorVsH
namespace Go.VS
open Go.RowKit
set_option linter.unusedSimpArgs false
set_option linter.unusedVariables false
set_option maxRecDepth 4000

section
variable {P : Program} {G : Ghost} {σ : AS} {w : World}

theorem bound_ok {x : Value} {xa : AV} {k y : Nat} {c : BoundsCode} (hx : VR G xa x) (h : asNat xa = some k) (hk : k ≤ y) (w : World) : (Instr.sliceBound x y c).run P w = .ok k w := by
  obtain ⟨q, rfl⟩ := asNat_ok hx h
  simp [Instr.sliceBound, asIntOf, hk]

/-- The relation of an operand that may be missing. -/
def VRo (G : Ghost) : Option AV → Option Value → Prop
  | none, none => True
  | some a, some v => VR G a v
  | _, _ => False

theorem bounds_ok {isS : Bool} {len cap l h m : Nat} {lo hi : Option Value} {loa hia : Option AV} (hlo : VRo G loa lo) (hhi : VRo G hia hi)
    (h1 : bnd len hia = some h) (h2 : bnd 0 loa = some l) (hle : l ≤ h) (hc : h ≤ cap) (w : World) : (Instr.sliceBounds isS len cap lo hi none).run P w = .ok (l, h, cap) w := by
  have e1 : (match hi with | some v => Instr.sliceBound v cap (if isS then .sliceAcap else .sliceAlen) | none => pure len : Sem Nat).run P w = .ok h w := by
    cases hi with
    | none => cases hia with
      | none => simp only [bnd, Option.some.injEq] at h1; subst h1; simp
      | some _ => exact hhi.elim
    | some v => cases hia with
      | none => exact hhi.elim
      | some a => exact bound_ok hhi h1 hc w
  have e2 : (match lo with | some v => Instr.sliceBound v h (if false then .slice3C else .sliceB) | none => pure 0 : Sem Nat).run P w = .ok l w := by
    cases lo with
    | none => cases loa with
      | none => simp only [bnd, Option.some.injEq] at h2; subst h2; simp
      | some _ => exact hlo.elim
    | some v => cases loa with
      | none => exact hlo.elim
      | some a => exact bound_ok hlo h2 hle w
  unfold Instr.sliceBounds
  simp only [Sem.run_bind, Sem.run_pure, Result.andThen_ok]
  cases hi with
  | none =>
    simp only [Sem.run_pure, Result.ok.injEq, and_true] at e1; subst e1
    simp only [Sem.run_pure, Result.andThen_ok]
    cases lo with
    | none => simp only [Sem.run_pure, Result.ok.injEq, and_true] at e2; subst e2; simp
    | some v => simp only [Option.isSome_none, Bool.false_eq_true, if_false] at e2 ⊢; simp [e2]
  | some v =>
    simp only at e1
    cases lo with
    | none => simp only [Sem.run_pure, Result.ok.injEq, and_true] at e2; subst e2; simp; rw [e1]; rfl
    | some v => simp only [Option.isSome_none, Bool.false_eq_true, if_false] at e2 ⊢; simp; rw [e1]; simp [e2]

theorem bounds3_ok {isS : Bool} {len cap l h m : Nat} {lo hi : Option Value} {mv : Value} {ma : AV} {loa hia : Option AV} (hlo : VRo G loa lo) (hhi : VRo G hia hi) (hm : VR G ma mv)
    (h0 : asNat ma = some m) (hs : hi.isSome = true) (h1 : bnd len hia = some h) (h2 : bnd 0 loa = some l) (hle : l ≤ h) (hc : h ≤ m) (hmc : m ≤ cap) (w : World) :
    (Instr.sliceBounds isS len cap lo hi (some mv)).run P w = .ok (l, h, m) w := by
  unfold Instr.sliceBounds
  have e0 := bound_ok (P := P) (c := if isS then .slice3Acap else .slice3Alen) hm h0 hmc w
  simp only [Sem.run_bind, e0, Result.andThen_ok]
  cases hi with
  | none => cases hs
  | some v => cases hia with
    | none => exact hhi.elim
    | some a =>
      have e1 := bound_ok (P := P) (c := .slice3B) hhi h1 hc w
      cases lo with
      | none => cases loa with
        | none => simp only [bnd, Option.some.injEq] at h2; subst h2; simp; rw [e1]; rfl
        | some _ => exact hlo.elim
      | some u => cases loa with
        | none => exact hlo.elim
        | some b =>
          have e2 := bound_ok (P := P) (c := .slice3C) hlo h2 hle w
          simp; rw [e1]; simp [e2]

theorem sls_ok {x : Value} {s : List UInt8} {l h : Nat} {lo hi : Option Value} {loa hia : Option AV} {t : TypeId} (hw : WR G σ w) (hx : VR G (.str s) x) (hlo : VRo G loa lo) (hhi : VRo G hia hi)
    (hu : P.underlying t = some .string) (h1 : bnd s.length hia = some h) (h2 : bnd 0 loa = some l) (hle : l ≤ h) (hc : h ≤ s.length) :
    OkV P (Instr.sliceAt t x lo hi none) G σ w (.str ((s.take h).drop l)) := by
  simp only [VR] at hx; subst hx
  have hsz : (ByteArray.mk s.toArray).size = s.length := by simp [ByteArray.size]
  have hb := bounds_ok (P := P) (isS := false) (m := 0) hlo hhi h1 h2 hle hc w
  refine .same hw (v := .string ⟨((s.take h).drop l).toArray⟩) ?_ (by simp [VR])
  simp only [Instr.sliceAt, Instr.slice, Sem.run_bind, run_und hu, Result.andThen_ok, Option.isSome_none, Bool.false_eq_true, if_false, hsz, Sem.run_pure]
  rw [hb]
  simp only [Result.andThen_ok, Sem.run_pure]
  congr 2
  apply ByteArray.ext
  simp [ByteArray.data_extract, List.extract_toArray, List.extract_eq_take_drop, List.drop_take]

theorem TokR.slice {tok : Tok} {b o sz len cap l h : Nat} (ht : TokR G tok (some ⟨b, o, none⟩) sz len cap) (hlh : l ≤ h) (hc : h ≤ len) :
    TokR G (tokSlice tok len h) (some ((⟨b, o, none⟩ : Addr).add (l * sz))) sz (h - l) (cap - l) := by
  rw [add_none]
  unfold tokSlice
  split
  · rename_i hh
    subst hh
    cases tok with
    | full => simp only [TokR] at *; omega
    | unk => simp only [TokR] at *; omega
    | opn t g =>
      simp only [TokR] at *
      obtain ⟨k1, b', s, n, k2, k3, k4⟩ := ht
      refine ⟨by omega, b', s, n, k2, by rw [k3]; congr 1; omega, k4.imp id ?_⟩
      rintro ⟨o', e1, e2⟩
      simp only [Option.some.injEq, Addr.mk.injEq] at e1
      obtain ⟨rfl, rfl, _⟩ := e1
      refine ⟨o + l * sz, rfl, ?_⟩
      rw [e2, Nat.add_assoc, ← Nat.add_mul, show l + (h - l) = h by omega]
  · cases tok <;> simp only [TokR] at * <;> omega

theorem slc_base {es : List AV} {cs : List Value} {sz l h : Nat} (hv : VRf G sz es cs) : VRf G sz ((es.take h).drop l) ((cs.take (h * sz)).drop (l * sz)) := ((hv.take_drop h).1.take_drop l).2

theorem slc_ok {x : Value} {nl : Bool} {sz sz' : Nat} {es : List AV} {tok : Tok} {l h : Nat} {lo hi : Option Value} {loa hia : Option AV} {t e : TypeId} (hw : WR G σ w) (hx : VR G (.slice nl sz' es tok) x)
    (hlo : VRo G loa lo) (hhi : VRo G hia hi) (hu : P.underlying t = some (.slice e)) (hsz : szOf P e = some sz) (h1 : bnd es.length hia = some h) (h2 : bnd 0 loa = some l)
    (hs : sz' = sz ∨ es = []) (hle : l ≤ h) (hc : h ≤ es.length) :
    OkV P (Instr.sliceAt t x lo hi none) G σ w (.slice nl sz ((es.take h).drop l) (if sz' = sz then tokSlice tok es.length h else .unk)) := by
  simp only [VR] at hx
  obtain ⟨base, cap, cs, rfl, k1, k2, k3, k4⟩ := hx
  have hcap : es.length ≤ cap := by cases tok <;> simp only [TokR] at k2 <;> omega
  have hb := bounds_ok (P := P) (isS := true) (m := 0) hlo hhi h1 h2 hle (Nat.le_trans hc hcap) w
  have k3' : VRf G sz es cs := by
    rcases hs with rfl | rfl
    · exact k3
    · simpa only [VRf] using k3
  have hlen : ((es.take h).drop l).length = h - l := by simp [Nat.min_eq_left hc]
  refine .same hw (v := .slice (if cap = l then base else base.map (·.add (l * sz))) (h - l) (cap - l)) ?_ ?_
  · simp only [Instr.sliceAt, Instr.slice, Sem.run_bind, run_und hu, Result.andThen_ok, hb, run_sz hsz, Sem.run_pure]
  · simp only [VR, hlen]
    cases base with
    | none =>
      simp only [BaseR] at k4
      obtain ⟨q1, q2⟩ := k4
      have he : es = [] := List.length_eq_zero_iff.1 q1
      subst he; subst q2
      have : l = 0 := by simp at hc; omega
      subst this
      have : h = 0 := by simpa using hc
      subst this
      refine ⟨none, 0, [], by simp, by simpa using k1, ?_, by simp [VRf], ⟨rfl, rfl⟩⟩
      split
      · rename_i hss; subst hss
        simp only [List.length_nil] at k2
        unfold tokSlice; simp only [List.length_nil, if_true]; simpa using k2
      · simp [TokR]
    | some a =>
      simp only [BaseR] at k4
      obtain ⟨q1, q2⟩ := k4
      by_cases hcl : cap = l
      · -- nothing is left
        have hh : h = l := by omega
        subst hh
        have he0 : (es.take h).drop h = [] := by simp
        rw [if_pos hcl, he0]
        refine ⟨some a, cap - h, [], by simp, by simpa using k1, ?_, by simp [VRf], ⟨by intro hh; simp at hh, Ghost.frz_nil _ _ _⟩⟩
        have : cap = es.length := by omega
        split
        · rename_i hss; subst hss
          unfold tokSlice
          rw [if_pos (by omega)]
          cases tok with
          | full => simp only [TokR] at *; omega
          | unk => simp only [TokR] at *; omega
          | opn t g =>
            simp only [TokR] at *
            obtain ⟨j1, b', s, n, j2, j3, j4⟩ := k2
            refine ⟨by omega, b', s, n, j2, ?_, .inl ?_⟩
            · rw [j3]; congr 1; omega
            · rw [j3, show cap - es.length = 0 by omega]; simp
        · simp only [TokR]; omega
      · rw [if_neg hcl]
        refine ⟨some (a.add (l * sz)), cap - l, (cs.take (h * sz)).drop (l * sz), rfl, by simpa using k1, ?_, slc_base k3', ⟨fun _ => ?_, ?_⟩⟩
        · split
          · rename_i hss; subst hss
            by_cases h0 : es = []
            · subst h0
              simp at hc; subst hc
              have : l = 0 := by omega
              subst this
              simp only [Nat.zero_mul, Addr.add_zero', List.length_nil, Nat.sub_zero] at *
              unfold tokSlice; rw [if_pos rfl]; exact k2
            · have hsp : a.spot = none := q1 (List.length_pos_iff.2 h0)
              obtain ⟨ab, ao, asp⟩ := a
              simp only at hsp; subst hsp
              exact k2.slice hle hc
          · simp only [TokR]; omega
        · by_cases h0 : es = []
          · subst h0; simp at hc; omega
          · have hsp : a.spot = none := q1 (List.length_pos_iff.2 h0)
            unfold Addr.add; split <;> simp [hsp]
        · have hfa : G.frz a.block (a.off + l * sz) ((cs.take (h * sz)).drop (l * sz)) := frz_drop (frz_take q2 _) _
          unfold Addr.add; split
          · rename_i hz; rw [hz] at hfa ⊢; simpa using hfa
          · exact hfa

theorem slc3_ok {x mv : Value} {nl : Bool} {sz sz' : Nat} {es : List AV} {tok : Tok} {l h m : Nat} {lo hi : Option Value} {ma : AV} {loa hia : Option AV} {t e : TypeId} (hw : WR G σ w) (hx : VR G (.slice nl sz' es tok) x)
    (hlo : VRo G loa lo) (hhi : VRo G hia hi) (hm : VR G ma mv) (h0 : asNat ma = some m) (hs1 : hi.isSome = true)
    (hu : P.underlying t = some (.slice e)) (hsz : szOf P e = some sz) (h1 : bnd es.length hia = some h) (h2 : bnd 0 loa = some l)
    (hs : sz' = sz ∨ es = []) (hle : l ≤ h) (hc : h ≤ m) (hmc : m ≤ es.length) :
    OkV P (Instr.sliceAt t x lo hi (some mv)) G σ w (.slice nl sz ((es.take h).drop l) (if h = m then .full else .unk)) := by
  simp only [VR] at hx
  obtain ⟨base, cap, cs, rfl, k1, k2, k3, k4⟩ := hx
  have hcap : es.length ≤ cap := by cases tok <;> simp only [TokR] at k2 <;> omega
  have hb := bounds3_ok (P := P) (isS := true) hlo hhi hm h0 hs1 h1 h2 hle hc (Nat.le_trans hmc hcap) w
  have k3' : VRf G sz es cs := by
    rcases hs with rfl | rfl
    · exact k3
    · simpa only [VRf] using k3
  have hlen : ((es.take h).drop l).length = h - l := by simp [Nat.min_eq_left (Nat.le_trans hc hmc)]
  refine .same hw (v := .slice (if m = l then base else base.map (·.add (l * sz))) (h - l) (m - l)) ?_ ?_
  · simp only [Instr.sliceAt, Instr.slice, Sem.run_bind, run_und hu, Result.andThen_ok, hb, run_sz hsz, Sem.run_pure]
  · simp only [VR, hlen]
    have htok : ∀ base' : Option Addr, TokR G (if h = m then .full else .unk) base' sz (h - l) (m - l) := fun base' => by
      split
      · rename_i e1; subst e1; simp only [TokR]
      · simp only [TokR]; omega
    cases base with
    | none =>
      simp only [BaseR] at k4
      obtain ⟨q1, q2⟩ := k4
      have he : es = [] := List.length_eq_zero_iff.1 q1
      subst he; subst q2
      have hm0 : m = 0 := by simpa using hmc
      subst hm0
      have hh0 : h = 0 := by omega
      subst hh0
      have hl0 : l = 0 := by omega
      subst hl0
      exact ⟨none, 0, [], by simp, by simpa using k1, by simpa using htok none, by simp [VRf], ⟨rfl, rfl⟩⟩
    | some a =>
      simp only [BaseR] at k4
      obtain ⟨q1, q2⟩ := k4
      by_cases hcl : m = l
      · have hh : h = l := by omega
        subst hh
        have he0 : (es.take h).drop h = [] := by simp
        rw [if_pos hcl, he0]
        exact ⟨some a, m - h, [], rfl, by simpa using k1, htok _, by simp [VRf], ⟨by intro hh; simp at hh, Ghost.frz_nil _ _ _⟩⟩
      · rw [if_neg hcl]
        refine ⟨some (a.add (l * sz)), m - l, (cs.take (h * sz)).drop (l * sz), rfl, by simpa using k1, htok _, slc_base k3', ⟨fun _ => ?_, ?_⟩⟩
        · by_cases h0 : es = []
          · subst h0; simp at hmc; omega
          · have hsp : a.spot = none := q1 (List.length_pos_iff.2 h0)
            unfold Addr.add; split <;> simp [hsp]
        · have hfa : G.frz a.block (a.off + l * sz) ((cs.take (h * sz)).drop (l * sz)) := frz_drop (frz_take q2 _) _
          unfold Addr.add; split
          · rename_i hz; rw [hz] at hfa ⊢; simpa using hfa
          · exact hfa

theorem iaddra_ok {x i : Value} {xa ia av : AV} {k sz len : Nat} {t el : TypeId} (hw : WR G σ w) (hx : VR G xa x) (hi : VR G ia i) (hk : asNat ia = some k)
    (hu : P.underlying t = some (.array len el)) (hsz : szOf P el = some sz)
    (hp : (match xa with | .iptr cs => if k < len ∧ k * sz < cs.length then some (AV.iptr (cs.drop (k * sz))) else none | .ptr l o => if k < len then some (.ptr l (o + k * sz)) else none | _ => none) = some av) :
    OkV P (Instr.indexAt t x i) G σ w av := by
  obtain ⟨q, rfl⟩ := asNat_ok hi hk
  have run : ∀ b o, k < len → (Instr.indexAt t (.pointer (some ⟨b, o, none⟩)) (.int q k)).run P w = .ok (.pointer (some ⟨b, o + k * sz, none⟩)) w := fun b o hl => by
    simp [Instr.indexAt, asIntOf, run_und hu, Instr.sureAddr, hl, run_sz hsz, add_none]
  cases xa <;> simp only at hp <;> try (cases hp; done)
  · split at hp
    · rename_i hl
      simp only [Option.some.injEq] at hp; subst hp
      simp only [VR] at hx; obtain ⟨b, h1, rfl⟩ := hx
      exact .same hw (run _ _ hl) (by simp only [VR]; exact ⟨b, h1, rfl⟩)
    · cases hp
  · split at hp
    · rename_i hl
      simp only [Option.some.injEq] at hp; subst hp
      simp only [VR] at hx; obtain ⟨b, o, vs, rfl, h1, h2, h3⟩ := hx
      exact .same hw (run _ _ hl.1) (by simp only [VR]; exact ⟨b, o + k * sz, vs.drop _, rfl, h1.drop _, frz_drop h2 _, h3.drop _⟩)
    · cases hp

theorem idxs_ok {i : Value} {s : List UInt8} {ia : AV} {k : Nat} {b : UInt8} {t : TypeId} (hw : WR G σ w) (hi : VR G ia i) (hk : asNat ia = some k)
    (hu : P.underlying t = some .string) (hb : s[k]? = some b) : OkV P (Instr.index t (.string ⟨s.toArray⟩) i) G σ w (bAV b) := by
  obtain ⟨q, rfl⟩ := asNat_ok hi hk
  have hg : (ByteArray.mk s.toArray)[k]? = some b := by
    have hlt := (List.getElem?_eq_some_iff.1 hb).1
    have : k < (ByteArray.mk s.toArray).size := by simpa [ByteArray.size] using hlt
    rw [getElem?_pos (ByteArray.mk s.toArray) k this]
    have h2 := (List.getElem?_eq_some_iff.1 hb).2
    rw [← h2]; rfl
  refine .same hw (v := .int .u8 b.toNat) ?_ (by simp [bAV, VR])
  simp only [Instr.index, asIntOf, Sem.run_bind, Sem.run_pure, Result.andThen_ok, run_und hu]
  simp [hg]

theorem idxa_ok {x i : Value} {cs : List AV} {ia av : AV} {k sz len : Nat} {ag : Bool} {t el : TypeId} (hw : WR G σ w) (hx : VR G (.agg cs) x) (hi : VR G ia i) (hk : asNat ia = some k)
    (hu : P.underlying t = some (.array len el)) (hag : aggOf P el = some ag) (hsz : szOf P el = some sz) (hl : k < len) (hp : partA ag cs (k * sz) sz = some av) : OkV P (Instr.index t x i) G σ w av := by
  obtain ⟨q, rfl⟩ := asNat_ok hi hk
  simp only [VR] at hx; obtain ⟨vs, rfl, h1, h2⟩ := hx
  obtain ⟨v, h3, h4⟩ := part_val (P := P) (w := w) h1 h2 hp hag hsz
  exact .same hw (by simp [Instr.index, asIntOf, run_und hu, hl, run_sz hsz, h3]) h4

theorem asrt_ok {x : Value} {xa av z : AV} {ok : Bool} {t xt : TypeId} {d : TypeDesc} (hw : WR G σ w) (hx : VR G xa x) (hu : P.underlying t = some d) (hd : ∀ ms, d ≠ .interface ms) (hz : zeroOf P t = some z)
    (hp : asrtA ok t z xa = some av) :
    OkV P (Instr.typeAssert x xt t ok) G σ w av := by
  obtain ⟨zv, hz1, hz2⟩ := zeroOf_ok hz w G
  have hzt : VR G (.tuple [z, .bool false]) (.tuple #[zv, .bool false]) := by
    simp only [VR]; exact ⟨[zv, .bool false], rfl, VRs.cons hz2 (VRs.cons (by simp [VR]) VRs.nil)⟩
  unfold asrtA at hp
  split at hp
  · rename_i u v
    simp only [VR] at hx; obtain ⟨y, rfl, h1⟩ := hx
    split at hp
    · rename_i hut; subst hut
      simp only [Option.some.injEq] at hp; subst hp
      refine .same hw (v := if ok then .tuple #[y, .bool true] else y) ?_ ?_
      · cases d <;> first | exact absurd rfl (hd _) | simp [Instr.typeAssert, run_und hu]
      · cases ok
        · simpa using h1
        · simp only [if_true, VR]; exact ⟨[y, .bool true], rfl, VRs.cons h1 (VRs.cons (by simp [VR]) VRs.nil)⟩
    · rename_i hut
      split at hp
      · rename_i hok; subst hok
        simp only [Option.some.injEq] at hp; subst hp
        refine .same hw ?_ hzt
        cases d <;> first | exact absurd rfl (hd _) | simp [Instr.typeAssert, run_und hu, hut, hz1]
      · cases hp
  · simp only [VR] at hx; subst hx
    split at hp
    · rename_i hok; subst hok
      simp only [Option.some.injEq] at hp; subst hp
      refine .same hw ?_ hzt
      cases d <;> first | exact absurd rfl (hd _) | simp [Instr.typeAssert, run_und hu, hz1]
    · cases hp
  · cases hp
end
end Go.VS
