/-
  VALUE SEMANTICS, PART N. Every operation, whatever it does to memory.
-/
import Derived.Test.YtbmnhnohahacaaaGreatDoorVsM
namespace Go.VS
open Go.RowKit
set_option linter.unusedSimpArgs false
set_option linter.unusedVariables false
set_option maxRecDepth 4000

theorem upd_upd (σ : AS) (l : Nat) (a b : AObj) : (σ.upd l a).upd l b = σ.upd l b := by
  unfold AS.upd; congr 1
  · funext k; simp only; split <;> rfl
  · show max (max σ.nxt (l + 1)) (l + 1) = max σ.nxt (l + 1); omega

section
variable {P : Program} {G : Ghost} {σ : AS} {w : World}

theorem run_getMap {r : Nat} {ms : Array MapEntry} {clk : Nat} (h : w.heap[r]? = some (.map ms clk)) : (getObj r).run P w = .ok (.map ms clk) w := by
  simp [getObj, Sem.run, h]

theorem lookup_ok {m kx : Value} {pl : EP} {x z : AV} {l : Nat} {es : List (AV × AV)} {st : Stamps} {r : Option AV} {t kt et : TypeId} (ok : Bool) (hw : WR G σ w) (hm : VR G (.map l) m) (hs : σ l = some (.map es st)) (hx : VR G x kx)
    (hu : P.underlying t = some (.map kt et)) (hp : planT P kt = some pl) (hf : fitP pl x = true) (hz : zeroOf P et = some z) (hl : lookA pl es x = some r) :
    OkV P (Instr.lookup t m kx ok) G σ w (match r with | some v => if ok then .tuple [v, .bool true] else v | none => if ok then .tuple [z, .bool false] else z) := by
  simp only [VR] at hm
  obtain ⟨b, hb, rfl⟩ := hm
  obtain ⟨b', ms, h1, h2, h3, hbs⟩ := hw.obj l _ hs
  rw [hb] at h1; cases h1
  obtain ⟨q, hq, hr⟩ := lookA_pos.1 r hl
  have hfind := find_ok (P := P) hp hx w h3 hq
  have hck := check_at (P := P) hp hx hf ms.isEmpty 9998 w
  obtain ⟨zv, hz1, hz2⟩ := zeroOf_ok hz w G
  cases q with
  | none =>
    simp only at hr; subst hr
    refine .same hw (v := if ok then .tuple #[zv, .bool false] else zv) ?_ ?_
    · simp only [Option.bind_none] at hfind
      simp only [Instr.lookup, Sem.run_bind, run_und hu, Result.andThen_ok, run_getMap h2, Sem.run_pure]
      rw [show (10000 : Nat) = 9998 + 2 from rfl, hck]
      simp [hfind, hz1]
    · cases ok
      · exact hz2
      · simp only [if_true, VR]; exact ⟨[zv, .bool false], rfl, VRs.cons hz2 (VRs.cons (by simp [VR]) VRs.nil)⟩
  | some i =>
    obtain ⟨k, v, h4, rfl, h5⟩ := hr
    obtain ⟨me, h6, h7, h8⟩ := h3.get h4
    refine .same hw (v := if ok then .tuple #[me.val, .bool true] else me.val) ?_ ?_
    · simp only [Option.bind_some, h6, Option.map_some] at hfind
      simp only [Instr.lookup, Sem.run_bind, run_und hu, Result.andThen_ok, run_getMap h2, Sem.run_pure]
      rw [show (10000 : Nat) = 9998 + 2 from rfl, hck]
      simp [hfind]
    · cases ok
      · exact h8
      · simp only [if_true, VR]; exact ⟨[me.val, .bool true], rfl, VRs.cons h8 (VRs.cons (by simp [VR]) VRs.nil)⟩

theorem lookup_nil {kx : Value} {pl : EP} {x z : AV} {t kt et : TypeId} (ok : Bool) (hw : WR G σ w) (hx : VR G x kx)
    (hu : P.underlying t = some (.map kt et)) (hp : planT P kt = some pl) (hf : fitP pl x = true) (hz : zeroOf P et = some z) :
    OkV P (Instr.lookup t (.map none) kx ok) G σ w (if ok then .tuple [z, .bool false] else z) := by
  have hfind := find_ok (P := P) (es := []) (ms := []) (q := none) hp hx w rfl rfl
  have hck := check_at (P := P) hp hx hf true 9998 w
  obtain ⟨zv, hz1, hz2⟩ := zeroOf_ok hz w G
  refine .same hw (v := if ok then .tuple #[zv, .bool false] else zv) ?_ ?_
  · simp only [Option.bind_none] at hfind
    simp only [Instr.lookup, Sem.run_bind, run_und hu, Result.andThen_ok, Sem.run_pure]
    rw [show (10000 : Nat) = 9998 + 2 from rfl]
    have : (#[] : Array MapEntry).isEmpty = true := rfl
    rw [this, hck]
    simp [hfind, hz1]
  · cases ok
    · exact hz2
    · simp only [if_true, VR]; exact ⟨[zv, .bool false], rfl, VRs.cons hz2 (VRs.cons (by simp [VR]) VRs.nil)⟩

/-- A place's object (no row) is put anew. -/
theorem WR.setObj (h : WR G σ w) {l b : Nat} {x x' : AObj} {o : Obj} (hs : σ l = some x) (hb : G.blk l x = some b) (hb' : G.blk l x' = some b) (hF : ∀ o, G.F b o = none)
    (hx : ObjR G { w with heap := w.heap.setIfInBounds b o } l x') : WR G (σ.upd l x') { w with heap := w.heap.setIfInBounds b o } := by
  refine h.write hs hb hb' ⟨rfl, rfl, rfl, by simp, fun k hk => ?_⟩ (fun k hk => ?_) (fun o v ev => by rw [hF o] at ev; cases ev) hx
  · have := (h.own l x b hs hb).1
    show (w.heap.setIfInBounds b o)[k]? = _
    rw [Array.getElem?_setIfInBounds_ne (by omega)]
  · show (w.heap.setIfInBounds b o)[k]? = _
    rw [Array.getElem?_setIfInBounds_ne (fun hh => hk hh.symm)]

theorem noF_of_obj (h : WR G σ w) {b : Nat} {o : Obj} (hh : w.heap[b]? = some o) (hn : ∀ c t f, o ≠ .cells c t f) (x : Nat) : G.F b x = none := by
  cases hf : G.F b x with
  | none => rfl
  | some v =>
    have := h.frz _ _ _ hf
    simp only [World.cell?, hh] at this
    cases o <;> first | exact absurd rfl (hn _ _ _) | simp at this

theorem heap_set (w : World) (b : Nat) (o : Obj) (hb : b < w.heap.size) : ({ w with heap := w.heap.setIfInBounds b o } : World).heap[b]? = some o := by
  show (w.heap.setIfInBounds b o)[b]? = _
  simp [hb]

theorem mapset_ok {m kx vx : Value} {pl : EP} {x y : AV} {l : Nat} {es es' : List (AV × AV)} {st : Stamps} {t kt et : TypeId} (hw : WR G σ w) (hm : VR G (.map l) m) (hs : σ l = some (.map es st)) (hx : VR G x kx) (hy : VR G y vx)
    (hu : P.underlying t = some (.map kt et)) (hp : planT P kt = some pl) (hf : fitP pl x = true) (hl : setA pl es x y = some es') :
    ∃ w', (Instr.mapUpdate t m kx vx).run P w = .ok () w' ∧ WR G (σ.upd l (.map es' (st.next es.length es'.length))) w' := by
  simp only [VR] at hm
  obtain ⟨b, hb, rfl⟩ := hm
  obtain ⟨b', ms, h1, h2, h3, hbs⟩ := hw.obj l _ hs
  rw [hb] at h1; cases h1
  have hblk : G.blk l (.map es st) = some b := hb
  have hown := hw.own l _ b hs hblk
  obtain ⟨q, hq, hr⟩ := lookA_pos.2 y es' hl
  have hfind := find_ok (P := P) hp hx w h3 hq
  have hck := check_at (P := P) hp hx hf false 9998 w
  have hnoF := noF_of_obj hw h2 (by simp)
  cases q with
  | none =>
    simp only at hr; subst hr
    refine ⟨{ w with heap := w.heap.setIfInBounds b (.map (ms.push { key := kx, val := vx, born := st.clk }) (st.clk + 1)) }, ?_, ?_⟩
    · simp only [Option.bind_none] at hfind
      simp only [Instr.mapUpdate, Sem.run_bind, run_und hu, Result.andThen_ok, run_getMap h2]
      rw [show (10000 : Nat) = 9998 + 2 from rfl, hck]
      simp [hfind, setObj, Sem.run, h2]
    · have hst : st.next es.length (es ++ [(x, y)]).length = st.push := by simp [Stamps.next]
      rw [hst]
      refine hw.setObj hs hblk hb hnoF ⟨b, _, hb, heap_set w b _ hown.2, ?_, ?_⟩
      · simpa using h3.snoc (x := { key := kx, val := vx, born := st.clk }) hx hy
      · simp [Stamps.push, ← hbs]
  | some i =>
    obtain ⟨k, v, h4, rfl, h5⟩ := hr
    obtain ⟨me, h6, h7, h8⟩ := h3.get h4
    have hks := key_stays (P := P) hx h7 h5 w
    have h6' : ms[i]? = some me := by rw [← Array.getElem?_toList]; exact h6
    refine ⟨{ w with heap := w.heap.setIfInBounds b (.map (ms.modify i fun e => { e with key := kx, val := vx }) st.clk) }, ?_, ?_⟩
    · simp only [Option.bind_some, h6, Option.map_some] at hfind
      simp only [Instr.mapUpdate, Sem.run_bind, run_und hu, Result.andThen_ok, run_getMap h2]
      rw [show (10000 : Nat) = 9998 + 2 from rfl, hck]
      simp [hfind, h6', hks, setObj, Sem.run, h2]
    · have hst : st.next es.length (es.set i (x, y)).length = st := by simp [Stamps.next]
      rw [hst]
      have hil : i < ms.size := (Array.getElem?_eq_some_iff.1 h6').1
      have : (ms.modify i fun e => { e with key := kx, val := vx }).toList = ms.toList.set i { me with key := kx, val := vx } := by
        have hme : ms[i] = me := (Array.getElem?_eq_some_iff.1 h6').2
        rw [Array.toList_modify]
        apply List.ext_getElem?
        intro j
        rw [List.getElem?_modify, List.getElem?_set]
        by_cases hij : i = j
        · subst hij; simp [hil, hme]
        · simp [hij]
      refine hw.setObj hs hblk hb hnoF ⟨b, _, hb, heap_set w b _ hown.2, ?_, ?_⟩
      · rw [this]
        exact h3.set i hx hy
      · rw [this, ← hbs]
        apply List.ext_getElem?
        intro j
        have h6l : ms.toList[i]? = some me := h6
        simp only [List.getElem?_map, List.getElem?_set]
        by_cases hij : i = j
        · subst hij; simp [h6l, hil]
          have hme : ms[i] = me := (Array.getElem?_eq_some_iff.1 h6').2
          rw [hme]
        · simp [hij]

/-- A new place, made by a run that pushes one object. -/
theorem alloc_place (h : WR G σ w) (o : Obj) (x : AObj) (hns : ∀ g, x ≠ .spare g) (hx : ∀ l, G.ρ l = none → ObjR (G.addρ l w.heap.size) (w.alloc o) l x) :
    ∃ l G', (σ l = none ∧ (G.det = true → l = σ.nxt)) ∧ G.le G' ∧ WR G' (σ.upd l x) (w.alloc o) ∧ G'.ρ l = some w.heap.size := by
  obtain ⟨l, h1, h2, h3⟩ := h.fresh
  exact ⟨l, G.addρ l w.heap.size, h1, Ghost.le_addρ h2, h.allocM h1.1 h2 o x hns (hx l h2), by simp [Ghost.addρ]⟩

theorem alloc_cells (h : WR G σ w) {cs : List AV} {vs : List Value} (e : TypeId) (hv : VRs G cs vs) (ho : Ones vs) :
    ∃ l G', (σ l = none ∧ (G.det = true → l = σ.nxt)) ∧ G.le G' ∧ WR G' (σ.upd l (.cells cs)) (w.alloc (.cells vs.toArray e)) ∧ VR G' (.ptr l 0) (.pointer (some ⟨w.heap.size, 0, none⟩)) := by
  obtain ⟨l, G', h1, h2, h3, h4⟩ := alloc_place h (.cells vs.toArray e) (.cells cs) (by simp) (fun l hl => by
    refine ⟨w.heap.size, vs, e, by simp [Ghost.addρ], heap_new w _, VRs.mono (Ghost.le_addρ hl) _ _ hv, fun o => ?_, ho⟩
    exact h.F_none (Nat.le_refl _) o)
  exact ⟨l, G', h1, h2, h3, by simp only [VR]; exact ⟨_, h4, rfl⟩⟩

theorem tok_new (h : WR G σ w) {x : Value} {nl : Bool} {sz sz' : Nat} {es : List AV} (hx : VR G (.slice nl sz' es .full) x) (hs : sz' = sz ∨ es = []) :
    ∃ t G', (σ t = none ∧ (G.det = true → t = σ.nxt)) ∧ G.le G' ∧ WR G' (σ.upd t (.spare 0)) w ∧ VR G' (.slice nl sz es (.opn t 0)) x := by
  obtain ⟨t, h1, h2, h3⟩ := h.fresh
  have hle := Ghost.le_addT (G := G) (t := t) (g := 0) (0, 0, 0) (h3 0)
  refine ⟨t, G.addT t 0 (0, 0, 0), h1, hle, ?_, ?_⟩
  · refine h.spare (y := none) (g := 0) h1.1 (.inr rfl) hle rfl (Below.refl _ _) (bo := none) (fun b hb => by cases hb) (fun _ _ _ => rfl) h.frz (fun _ _ _ _ => rfl) rfl (fun l g' hl => ?_) ?_ ?_
    · simp only [Ghost.addT]; rw [if_neg (fun hh => hl hh.1)]
    · refine ⟨fun g' hg => ?_, 0, 0, 0, by simp [Ghost.addT], fun hn => absurd rfl hn⟩
      simp only [Ghost.addT]; rw [if_neg (by omega)]; exact h3 g'
    · intro b hb; simp [Ghost.blk, Ghost.addT] at hb
  · simp only [VR] at *
    obtain ⟨base, cap, cs, rfl, k1, k2, k3, k4⟩ := hx
    have k3' : VRf G sz es cs := by
      rcases hs with rfl | rfl
      · exact k3
      · simpa only [VRf] using k3
    refine ⟨base, cap, cs, rfl, k1, ?_, VRf.mono hle _ _ _ k3', k4.mono hle⟩
    simp only [TokR] at k2
    simp only [TokR]
    exact ⟨by omega, 0, 0, 0, by simp [Ghost.addT], by rw [k2]; simp, .inl rfl⟩

theorem next_ok {it : Value} {l : Nat} {s : List UInt8} {pos : Nat} (ty : TypeId) (hw : WR G σ w) (hi : VR G (.ptr l 0) it) (hs : σ l = some (.iter s pos)) :
    ∃ v w', (Instr.next it true ty).run P w = .ok v w' ∧ (if pos < s.length then
        VR G (.tuple [.bool true, .int .i64 pos, .int .i32 (Utf8.decode ⟨s.toArray⟩ pos).1]) v ∧ WR G (σ.upd l (.iter s (pos + (Utf8.decode ⟨s.toArray⟩ pos).2))) w'
      else VR G (.tuple [.bool false]) v ∧ w' = w) := by
  simp only [VR] at hi
  obtain ⟨b, hb, rfl⟩ := hi
  obtain ⟨b', h1, h2⟩ := hw.obj l _ hs
  rw [hb] at h1; cases h1
  have hsz : (ByteArray.mk s.toArray).size = s.length := by simp [ByteArray.size]
  have hgo : (getObj b).run P w = .ok (.stringIter ⟨s.toArray⟩ pos) w := by simp [getObj, Sem.run, h2]
  have hblk : G.blk l (.iter s pos) = some b := hb
  by_cases hp : pos < s.length
  · refine ⟨.tuple #[.bool true, goInt pos, .int .i32 (Utf8.decode ⟨s.toArray⟩ pos).1], { w with heap := w.heap.setIfInBounds b (.stringIter ⟨s.toArray⟩ (pos + (Utf8.decode ⟨s.toArray⟩ pos).2)) }, ?_, ?_⟩
    · simp only [Instr.next, Sem.run_bind, hgo, Result.andThen_ok, hsz, if_pos hp]
      simp [setObj, Sem.run, h2]
    · rw [if_pos hp]
      refine ⟨?_, hw.setObj hs hblk hb (noF_of_obj hw h2 (by simp)) ⟨b, hb, heap_set w b _ (hw.own l _ b hs hblk).2⟩⟩
      simp only [VR]
      exact ⟨_, rfl, VRs.cons (by simp [VR]) (VRs.cons (by simp [VR, goInt]) (VRs.cons (by simp [VR]) VRs.nil))⟩
  · refine ⟨.tuple #[.bool false], w, ?_, ?_⟩
    · simp only [Instr.next, Sem.run_bind, hgo, Result.andThen_ok, hsz, if_neg hp, Sem.run_pure]
    · rw [if_neg hp]
      refine ⟨?_, rfl⟩
      simp only [VR]
      exact ⟨_, rfl, VRs.cons (by simp [VR]) VRs.nil⟩
end
end Go.VS
