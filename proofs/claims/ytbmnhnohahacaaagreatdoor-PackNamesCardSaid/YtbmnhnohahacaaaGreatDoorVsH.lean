/-
  VALUE SEMANTICS, PART H. The pure operations, the rest; all of them together.
-/
import Derived.Test.YtbmnhnohahacaaaGreatDoorVsG
namespace Go.VS
open Go.RowKit
set_option linter.unusedSimpArgs false
set_option linter.unusedVariables false
set_option maxRecDepth 4000

section
variable {P : Program} {G : Ghost} {σ : AS} {w : World}

theorem boxi_ok {x : Value} {xa : AV} (hw : WR G σ w) (hx : VR G xa x) (hk : xa.known = true) (e : TypeId) : OkV P (Instr.box e x) G σ w (.iptr xa.cells) := by
  refine ⟨.pointer (some ⟨w.heap.size, 0, none⟩), w.alloc (.cells x.cells.toList.toArray e), G.addF w.heap.size x.cells.toList, ?_, hw.le_addF _, hw.allocF _ _, ?_⟩
  · simp [Instr.box, newVar, newRow]
  · simp only [VR]
    exact ⟨_, 0, x.cells.toList, rfl, VRs.mono (hw.le_addF _) _ _ (hx.cells (knownA hk)), frz_addF G _ _, hx.ones hk⟩

theorem nilchk_ok {x : Value} {xa av : AV} (hx : VR G xa x) (hp : nilchkA xa = some av) :
    av = xa ∧ ((∃ q, x = .pointer (some q)) ∨ (∃ f a b, x = .func (.func f) a b)) := by
  unfold nilchkA at hp
  split at hp
  · simp only [Option.some.injEq] at hp; subst hp
    simp only [VR] at hx; obtain ⟨b, _, rfl⟩ := hx; exact ⟨rfl, .inl ⟨_, rfl⟩⟩
  · simp only [Option.some.injEq] at hp; subst hp
    simp only [VR] at hx; obtain ⟨b, o, vs, rfl, _⟩ := hx; exact ⟨rfl, .inl ⟨_, rfl⟩⟩
  · simp only [Option.some.injEq] at hp; subst hp
    simp only [VR] at hx; obtain ⟨vf, vc, rfl, _⟩ := hx; exact ⟨rfl, .inr ⟨_, _, _, rfl⟩⟩
  · cases hp

theorem bytesOf_ok : ∀ {es : List AV} {s : List UInt8} {cs : List Value} {sz : Nat}, bytesOf es = some s → VRf G sz es cs → ∃ ns : List Int, cs = ns.map (Value.int .u8) ∧ ns.map (fun n => UInt8.ofNat n.toNat) = s ∧ ns.length = es.length
  | [], s, cs, sz, h, hv => by
    simp only [bytesOf, Option.some.injEq] at h; subst h
    simp only [VRf] at hv; subst hv
    exact ⟨[], rfl, rfl, rfl⟩
  | e :: es, s, cs, sz, h, hv => by
    simp only [bytesOf] at h
    split at h
    · rename_i b hb
      cases hr : bytesOf es with
      | none => simp [hr] at h
      | some r =>
        simp only [hr, Option.map_some, Option.some.injEq] at h; subst h
        simp only [VRf] at hv
        obtain ⟨v, cs', h1, h2, rfl, h4⟩ := hv
        obtain ⟨ns, rfl, h5, h6⟩ := bytesOf_ok hr h4
        unfold byteOf at hb
        split at hb
        · rename_i n
          simp only [Option.some.injEq] at hb; subst hb
          simp only [VR] at h1; subst h1
          exact ⟨n :: ns, by simp [Value.cells], by simp [h5], by simp [h6]⟩
        · cases hb
    · cases h

theorem foldl_push (ns : List Int) : ∀ (acc : List UInt8), ns.foldl (fun r n => r.push (UInt8.ofNat n.toNat)) (ByteArray.mk acc.toArray) = ByteArray.mk (acc ++ ns.map fun n => UInt8.ofNat n.toNat).toArray := by
  induction ns with
  | nil => intro acc; simp
  | cons n ns ih =>
    intro acc
    simp only [List.foldl_cons, List.map_cons]
    have : (ByteArray.mk acc.toArray).push (UInt8.ofNat n.toNat) = ByteArray.mk (acc ++ [UInt8.ofNat n.toNat]).toArray := by
      simp [ByteArray.push]
    rw [this, ih]; simp

theorem cvbs_ok {x : Value} {nl : Bool} {sz : Nat} {es : List AV} {tok : Tok} {s : List UInt8} (hw : WR G σ w) (hx : VR G (.slice nl sz es tok) x) (hsz : sz = 1 ∨ es = []) (hb : bytesOf es = some s) :
    OkV P (Conv.bytesToString x) G σ w (.str s) := by
  simp only [VR] at hx
  obtain ⟨base, cap, cs, rfl, h1, h2, h3, h4⟩ := hx
  obtain ⟨ns, rfl, h5, h6⟩ := bytesOf_ok hb h3
  cases base with
  | none =>
    simp only [BaseR] at h4
    have : es = [] := List.length_eq_zero_iff.1 h4.1
    subst this
    simp only [bytesOf, Option.some.injEq] at hb; subst hb
    exact .same hw (v := .string .empty) (by simp [Conv.bytesToString]) (by simp [VR]; rfl)
  | some a =>
    simp only [BaseR] at h4
    have hl : (loadCells a es.length).run P w = .ok (ns.map (Value.int .u8)).toArray w := by
      have := run_loadCells_list (P := P) w a (ns.map (Value.int .u8)) (fun j v e => by
        have hjl : j < ns.length := by have := (List.getElem?_eq_some_iff.1 e).1; simpa using this
        obtain ⟨ab, ao, asp⟩ := a
        have hsp : asp = none := h4.1 (by omega)
        subst hsp
        rw [add_none]
        exact hw.frz _ _ _ (h4.2 j v e))
      rwa [List.length_map, h6] at this
    refine .same hw (v := .string ⟨s.toArray⟩) ?_ (by simp [VR])
    rw [run_bytesToString w a _ cap ns hl]
    have := foldl_push ns []
    simp only [List.nil_append] at this
    rw [← h5, ← this]; rfl

theorem freeze_alloc (w : World) (c : Array Value) (e : TypeId) (n : Nat) :
    (w.alloc (.cells c e (0, 0))).freeze { block := w.heap.size, off := n } 1 = w.alloc (.cells c e (n, n + 1)) := by
  unfold World.freeze World.alloc
  simp only [Nat.one_ne_zero, if_false]
  refine congrArg (fun h => ({ w with heap := h } : World)) ?_
  apply Array.ext_getElem?
  intro i
  rw [Array.getElem?_modify, Array.getElem?_push, Array.getElem?_push]
  by_cases hi : i = w.heap.size
  · subst hi; simp
  · rw [if_neg (fun h => hi h.symm), if_neg hi, if_neg hi]

theorem heap_new (w : World) (o : Obj) : (w.alloc o).heap[w.heap.size]? = some o := by
  show (w.heap.push o)[w.heap.size]? = _
  simp
theorem shape_new (w : World) (c : Array Value) (e : TypeId) : (w.alloc (.cells c e)).shape? w.heap.size = some (e, c.size) := by
  unfold World.shape?
  rw [heap_new]

def bC (s : List UInt8) : List Value := s.map fun (b : UInt8) => Value.int .u8 (b.toNat : Int)

theorem bC_ok (s : List UInt8) : VRf G 1 (s.map bAV) (bC s) := by
  induction s with
  | nil => simp [VRf, bC]
  | cons b s ih => simp only [List.map_cons, VRf, bC]; exact ⟨.int .u8 b.toNat, _, by simp [bAV, VR], ⟨by simp [Value.cells], by simp [Value.cells]; exact Ones.one rfl⟩, by simp [Value.cells, bC], ih⟩

theorem cvsb_ok {s : List UInt8} (hw : WR G σ w) (e : TypeId) : OkV P (Conv.stringToBytes e ⟨s.toArray⟩) G σ w (.slice false 1 (s.map bAV) .unk) := by
  have hsz : (ByteArray.mk s.toArray).size = s.length := by simp [ByteArray.size]
  obtain ⟨c, hc, hrun⟩ : ∃ c, s.length ≤ c ∧ (choose (.appendCap s.length 0 e)).run P w = .ok c w.drew := by
    refine ⟨_, ?_, by simp only [run_choose, Question.forced]; rfl⟩
    simp [Question.cut]
  have hw' := hw.drew
  obtain ⟨C, hCd⟩ : ∃ C, C = bC s ++ List.replicate (c - s.length) (Value.int .u8 0) := ⟨_, rfl⟩
  have hC : ((s.toArray.map fun (b : UInt8) => Value.int .u8 (b.toNat : Int)) ++ Array.replicate (c - s.length) (Value.int .u8 0)) = C.toArray := by simp [hCd, bC]
  have hl : C.toArray.size = c := by simp [hCd, bC]; omega
  refine ⟨.slice (some ⟨w.heap.size, 0, none⟩) s.length c, w.drew.alloc (.cells C.toArray e (c, c + 1)), _, ?_, hw'.le_addF C, hw'.allocF C e (c, c + 1), ?_⟩
  · have hfr := freeze_alloc w.drew C.toArray e c
    have hsh := shape_new w.drew C.toArray e
    rw [hl] at hsh
    simp only [Conv.stringToBytes, hsz, Sem.run_bind, hrun, Result.andThen_ok, newRow, run_newObj, World.alloc_eq, Sem.run_pure, markStringish, run_shape]
    rw [hC]
    rw [hsh]
    simp only [run_freeze, Result.andThen_ok, Sem.run_pure]
    rw [hfr]
    simp
  · simp only [VR]
    refine ⟨some ⟨w.heap.size, 0, none⟩, c, bC s, by simp, rfl, by simp [TokR]; exact hc, VRf.mono (hw'.le_addF _) _ _ _ (bC_ok s), ⟨fun _ => rfl, ?_⟩⟩
    have := frz_addF G w.drew.heap.size C
    rw [hCd] at this ⊢
    exact (Ghost.frz_append.1 this).1
end
end Go.VS
