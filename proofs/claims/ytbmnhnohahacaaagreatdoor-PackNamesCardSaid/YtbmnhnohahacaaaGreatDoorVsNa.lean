/-
  VALUE SEMANTICS, PART NA. Ranges over maps; an entry made ready, and written.
-/
import Derived.Test.YtbmnhnohahacaaaGreatDoorVsN
namespace Go.VS
open Go.RowKit
set_option linter.unusedSimpArgs false
set_option linter.unusedVariables false
set_option maxRecDepth 4000

section
variable {P : Program} {G : Ghost} {σ : AS} {w : World}

theorem stamp_at {b : Nat} : ∀ {bs : List Nat} {es : List (AV × AV)} {ms : List MapEntry} {e : AV × AV}, EntR G es ms → ms.map (·.born) = bs → stampAt b bs es = some e →
    ∃ m, ms.find? (fun m => m.born == b) = some m ∧ VR G e.1 m.key ∧ VR G e.2 m.val
  | [], es, ms, e, h1, h2, h3 => by cases es <;> simp [stampAt] at h3
  | c :: bs, [], ms, e, h1, h2, h3 => by simp [stampAt] at h3
  | c :: bs, (k, v) :: es, ms, e, h1, h2, h3 => by
    obtain ⟨m, ms', rfl, k1, k2, k3⟩ := h1
    simp only [List.map_cons, List.cons.injEq] at h2
    simp only [stampAt] at h3
    split at h3
    · rename_i hc
      simp only [Option.some.injEq] at h3; subst h3
      exact ⟨m, by simp [h2.1, hc], k1, k2⟩
    · rename_i hc
      obtain ⟨m', j1, j2⟩ := stamp_at k3 h2.2 h3
      refine ⟨m', ?_, j2⟩
      rw [List.find?_cons_of_neg (by simp [h2.1, hc])]
      exact j1

theorem mentry_ok {it : Value} {l m : Nat} {since stepped : Nat} {seen : List Nat} {es : List (AV × AV)} {st : Stamps} {b : Nat} {e : AV × AV} (hw : WR G σ w) (hi : VR G (.ptr l 0) it)
    (hs : σ l = some (.miter (some m) since seen stepped)) (hm : σ m = some (.map es st)) (hclk : st.clk = stepped) (hl : seen.getLast? = some b) (he : stampAt b st.bs es = some e) :
    OkV P (Instr.entry it) G σ w (.tuple [e.1, e.2]) := by
  simp only [VR] at hi
  obtain ⟨bl, hb, rfl⟩ := hi
  obtain ⟨b1, r, h1, h2, bm, rfl, h3⟩ := hw.obj l _ hs
  rw [hb] at h1; cases h1
  obtain ⟨b2, ms, k1, k2, k3, k4⟩ := hw.obj m _ hm
  rw [h3] at k1; cases k1
  obtain ⟨me, j1, j2, j3⟩ := stamp_at k3 k4 he
  have hgo : (getObj bl).run P w = .ok (.mapIter (some bm) since seen.toArray stepped) w := by simp [getObj, Sem.run, h2]
  have hgm := run_getMap (P := P) k2
  refine .same hw (v := .tuple #[me.key, me.val]) ?_ ?_
  · have hf : ms.find? (fun m => m.born == b) = some me := by rw [← Array.find?_toList]; exact j1
    have hbk : seen.toArray.back? = some b := by simpa using hl
    simp only [Instr.entry, Sem.run_bind, hgo, Result.andThen_ok, hbk, hgm]
    simp [hclk, hf]
  · simp only [VR]; exact ⟨_, rfl, VRs.cons j2 (VRs.cons j3 VRs.nil)⟩

theorem modify_list {ms : Array MapEntry} {i : Nat} {m : MapEntry} (h : ms[i]? = some m) (f : MapEntry → MapEntry) : (ms.modify i f).toList = ms.toList.set i (f m) := by
  have hil : i < ms.size := (Array.getElem?_eq_some_iff.1 h).1
  have hme : ms[i] = m := (Array.getElem?_eq_some_iff.1 h).2
  rw [Array.toList_modify]
  apply List.ext_getElem?
  intro j
  rw [List.getElem?_modify, List.getElem?_set]
  by_cases hij : i = j
  · subst hij; simp [hil, hme]
  · simp [hij]

theorem stamp_set {b : Nat} {y : AV} {vy : Value} (hy : VR G y vy) : ∀ {bs : List Nat} {es es' : List (AV × AV)} {ms : List MapEntry}, EntR G es ms → ms.map (·.born) = bs → stampSet b y bs es = some es' →
    ∃ i m, ms.findIdx? (fun m => (m.born : Int) == (b : Int)) = some i ∧ ms[i]? = some m ∧ EntR G es' (ms.set i { m with val := vy }) ∧ (ms.set i { m with val := vy }).map (·.born) = bs
  | [], es, es', ms, h1, h2, h3 => by cases es <;> simp [stampSet] at h3
  | c :: bs, [], es', ms, h1, h2, h3 => by simp [stampSet] at h3
  | c :: bs, (k, v) :: es, es', ms, h1, h2, h3 => by
    obtain ⟨m, ms', rfl, k1, k2, k3⟩ := h1
    simp only [List.map_cons, List.cons.injEq] at h2
    simp only [stampSet] at h3
    split at h3
    · rename_i hc
      simp only [Option.some.injEq] at h3; subst h3
      refine ⟨0, m, ?_, rfl, ⟨_, ms', rfl, k1, hy, k3⟩, by simp [h2]⟩
      rw [List.findIdx?_cons, if_pos (by simp [h2.1, hc])]
    · rename_i hc
      obtain ⟨r, h4, h5⟩ := map_some h3
      subst h5
      obtain ⟨i, m', j1, j2, j3, j4⟩ := stamp_set hy k3 h2.2 h4
      refine ⟨i + 1, m', ?_, by simpa using j2, ⟨m, _, rfl, k1, k2, j3⟩, by simp [h2.1, j4]⟩
      have hne : ((m.born : Int) == (b : Int)) = false := by
        rw [beq_eq_false_iff_ne]; rw [h2.1]; omega
      simp [List.findIdx?_cons, hne, j1]

theorem entst_ok {mv sv vx : Value} {y : AV} {l : Nat} {es es' : List (AV × AV)} {st : Stamps} {b : Int} {k : IntKind} {t : TypeId} (hw : WR G σ w) (hm : VR G (.map l) mv) (hs : σ l = some (.map es st)) (hsv : VR G (.int k b) sv)
    (hy : VR G y vx) (hb0 : 0 ≤ b) (hl : stampSet b.toNat y st.bs es = some es') :
    ∃ w', (Instr.entryStore t mv sv vx).run P w = .ok () w' ∧ WR G (σ.upd l (.map es' st)) w' := by
  simp only [VR] at hm hsv
  obtain ⟨bl, hb, rfl⟩ := hm
  subst hsv
  obtain ⟨b', ms, h1, h2, h3, hbs⟩ := hw.obj l _ hs
  rw [hb] at h1; cases h1
  have hblk : G.blk l (.map es st) = some bl := hb
  have hown := hw.own l _ bl hs hblk
  have hnoF := noF_of_obj hw h2 (by simp)
  obtain ⟨i, m, j1, j2, j3, j4⟩ := stamp_set hy h3 hbs hl
  have j2' : ms[i]? = some m := by rw [← Array.getElem?_toList]; exact j2
  have hidx : ms.findIdx? (fun e => (e.born : Int) == b) = some i := by
    rw [show b = (b.toNat : Int) by omega]
    have h := List.findIdx?_toArray (p := fun (m : MapEntry) => (m.born : Int) == (b.toNat : Int)) (l := ms.toList)
    rw [Array.toArray_toList] at h
    rw [h]; exact j1
  refine ⟨{ w with heap := w.heap.setIfInBounds bl (.map (ms.modify i fun e => { e with val := vx }) st.clk) }, ?_, ?_⟩
  · simp [Instr.entryStore, run_getMap (P := P) h2, asInt, asIntOf, hidx, setObj, Sem.run, h2]
  · refine hw.setObj hs hblk hb hnoF ⟨bl, _, hb, heap_set w bl _ hown.2, ?_, ?_⟩
    · rw [modify_list j2']; exact j3
    · rw [modify_list j2']; exact j4

theorem keyPos_eq (pl : EP) : ∀ (es : List (AV × AV)) (x : AV), keyPos pl es x = posA pl es x
  | [], x => rfl
  | (k, v) :: es, x => by
    simp only [keyPos, posA]
    rw [keyPos_eq pl es x]
    rfl

theorem posA_eq {pl : EP} : ∀ {es : List (AV × AV)} {x : AV} {i : Nat} {e : AV × AV}, posA pl es x = some (some i) → es[i]? = some e → avEqd pl x e.1 = some true
  | [], x, i, e, h, he => by simp [posA] at h
  | (k, v) :: es, x, i, e, h, he => by
    simp only [posA] at h
    split at h
    · rename_i hk
      simp only [Option.some.injEq] at h; subst h
      simp at he; subst he; exact hk
    · obtain ⟨r, h1, h2⟩ := map_some h
      cases r with
      | none => simp at h2
      | some j =>
        simp at h2; subst h2
        exact posA_eq h1 (by simpa using he)
    · cases h

theorem ment_ok {m kx : Value} {pl : EP} {x z : AV} {l : Nat} {es : List (AV × AV)} {st : Stamps} {r : AV × AV × List (AV × AV) × Stamps} {t kt et : TypeId} (hw : WR G σ w) (hm : VR G (.map l) m) (hs : σ l = some (.map es st))
    (hx : VR G x kx) (hu : P.underlying t = some (.map kt et)) (hp : planT P kt = some pl) (hf : fitP pl x = true) (hz : zeroOf P et = some z) (hl : mentA pl z es st x = some r) :
    ∃ v w', (Instr.mapEntry t m kx).run P w = .ok v w' ∧ WR G (σ.upd l (.map r.2.2.1 r.2.2.2)) w' ∧ VR G (.tuple [r.1, r.2.1]) v := by
  simp only [VR] at hm
  obtain ⟨b, hb, rfl⟩ := hm
  obtain ⟨b', ms, h1, h2, h3, hbs⟩ := hw.obj l _ hs
  rw [hb] at h1; cases h1
  have hblk : G.blk l (.map es st) = some b := hb
  have hown := hw.own l _ b hs hblk
  have hck := check_at (P := P) hp hx hf false 9998 w
  have hnoF := noF_of_obj hw h2 (by simp)
  obtain ⟨zv, hz1, hz2⟩ := zeroOf_ok hz w G
  unfold mentA at hl
  rw [keyPos_eq] at hl
  split at hl
  · rename_i i hq
    have hfind := find_ok (P := P) hp hx w h3 hq
    split at hl
    · rename_i e bi he hbi
      simp only [Option.some.injEq] at hl; subst hl
      obtain ⟨me, h6, h7, h8⟩ := h3.get (k := e.1) (v := e.2) he
      have h6' : ms[i]? = some me := by rw [← Array.getElem?_toList]; exact h6
      have hborn : me.born = bi := by
        rw [← hbs] at hbi
        simp only [List.getElem?_map, h6, Option.map_some, Option.some.injEq] at hbi
        exact hbi
      have h5 := posA_eq hq he
      have hks := key_stays (P := P) hx h7 h5 w
      refine ⟨.tuple #[me.val, .int .i64 bi], { w with heap := w.heap.setIfInBounds b (.map (ms.modify i fun e => { e with key := kx }) st.clk) }, ?_, ?_, ?_⟩
      · simp only [Option.bind_some, h6, Option.map_some] at hfind
        simp only [Instr.mapEntry, Sem.run_bind, run_und hu, Result.andThen_ok, run_getMap h2]
        rw [show (10000 : Nat) = 9998 + 2 from rfl, hck]
        simp [hfind, h6', hks, setObj, Sem.run, h2, goInt, hborn]
      · refine hw.setObj hs hblk hb hnoF ⟨b, _, hb, heap_set w b _ hown.2, ?_, ?_⟩
        · rw [modify_list h6']; exact h3.set i hx h8
        · rw [modify_list h6', ← hbs]
          apply List.ext_getElem?
          intro j
          simp only [List.getElem?_map, List.getElem?_set]
          by_cases hij : i = j
          · subst hij
            have hil : i < ms.toList.length := (List.getElem?_eq_some_iff.1 h6).1
            simp [h6, hil]
            simpa using hil
          · simp [hij]
      · simp only [VR]; exact ⟨_, rfl, VRs.cons h8 (VRs.cons (by simp [VR]) VRs.nil)⟩
    · cases hl
  · rename_i hq
    have hfind := find_ok (P := P) hp hx w h3 hq
    simp only [Option.some.injEq] at hl; subst hl
    refine ⟨.tuple #[zv, .int .i64 st.clk], { w with heap := w.heap.setIfInBounds b (.map (ms.push { key := kx, val := zv, born := st.clk }) (st.clk + 1)) }, ?_, ?_, ?_⟩
    · simp only [Option.bind_none] at hfind
      simp only [Instr.mapEntry, Sem.run_bind, run_und hu, Result.andThen_ok, run_getMap h2]
      rw [show (10000 : Nat) = 9998 + 2 from rfl, hck]
      simp [hfind, hz1, setObj, Sem.run, h2, goInt]
    · refine hw.setObj hs hblk hb hnoF ⟨b, _, hb, heap_set w b _ hown.2, ?_, ?_⟩
      · simpa using h3.snoc (x := { key := kx, val := zv, born := st.clk }) hx hz2
      · simp [Stamps.push, ← hbs]
    · simp only [VR]; exact ⟨_, rfl, VRs.cons hz2 (VRs.cons (by simp [VR]) VRs.nil)⟩
  · cases hl
end
end Go.VS
