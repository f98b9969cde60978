/-
  VALUE SEMANTICS, PART L. Memory that is written: stores, and append.
-/
import Derived.Test.YtbmnhnohahacaaaGreatDoorVsK
import Derived.Laws.CopyOwn
namespace Go.VS
open Go.RowKit
set_option linter.unusedSimpArgs false
set_option linter.unusedVariables false
set_option maxRecDepth 4000

theorem setCells_eq : ∀ (us cs : List AV) (o : Nat), o + us.length ≤ cs.length → setCells cs o us = cs.take o ++ us ++ cs.drop (o + us.length)
  | [], cs, o, h => by simp [setCells]
  | u :: us, cs, o, h => by
    simp only [setCells]
    rw [setCells_eq us (cs.set o u) (o + 1) (by simp at h ⊢; omega)]
    have ho : o < cs.length := by simp at h; omega
    have e1 : (cs.set o u).take (o + 1) = cs.take o ++ [u] := by
      rw [List.take_succ_eq_append_getElem (by simpa using ho)]
      simp [List.take_set]
      rw [List.set_eq_of_length_le (by simp; omega)]
    have e2 : (cs.set o u).drop (o + 1 + us.length) = cs.drop (o + (us.length + 1)) := by
      rw [List.drop_set, if_pos (by omega), show o + 1 + us.length = o + (us.length + 1) by omega]
    rw [e1, e2]; simp

section
variable {P : Program} {G : Ghost} {σ : AS} {w : World}

theorem Ones.splice {vs xs : List Value} (h : Ones vs) (k : Ones xs) (o n : Nat) : Ones (vs.take o ++ xs ++ vs.drop n) := ((h.take o).append k).append (h.drop n)

theorem storeAt_ok {x v : Value} {l o n : Nat} {cs : List AV} {va : AV} {t : TypeId} (hw : WR G σ w) (hs : σ l = some (.cells cs)) (hx : VR G (.ptr l o) x) (hv : VR G va v) (hk : va.known = true)
    (hn : va.cells.length = n) (hsz : szOf P t = some n) (hle : o + n ≤ cs.length) :
    ∃ w', (Instr.storeAt t x v).run P w = .ok () w' ∧ WR G (σ.upd l (.cells (setCells cs o va.cells))) w' := by
  simp only [VR] at hx
  obtain ⟨b, hb, rfl⟩ := hx
  obtain ⟨b', vs, e, h1, h2, h3, h4, h5⟩ := hw.obj l _ hs
  rw [hb] at h1; cases h1
  have hc := hv.cells (knownA hk)
  have hcl := hc.length
  have hvl := h3.length
  have hst := run_storeCells_at P b o e v.cells.toList 0 vs.toArray w h2 (by simp at hcl ⊢; omega) (hv.ones hk)
  simp only [Nat.add_zero, List.toList_toArray] at hst
  refine ⟨w.setRow b (vs.take o ++ v.cells.toList ++ vs.drop (o + v.cells.toList.length)).toArray, ?_, ?_⟩
  · simp only [Instr.storeAt, Instr.sureAddr, Sem.run_bind, Sem.run_pure, Result.andThen_ok, storeVar, run_sz hsz]
    rw [if_neg (by simp at hcl; omega)]
    exact hst
  · have hB : G.n0 ≤ b := (hw.own l _ b hs hb).1
    have hbk : G.blk l (.cells cs) = some b := hb
    have hbk' : G.blk l (.cells (setCells cs o va.cells)) = some b := hb
    refine hw.write hs hbk hbk' (below_setRow (Below.refl _ _) hB _) (fun k hk => setRow_other w b k _ hk) (fun o v ev => by rw [h4 o] at ev; cases ev) ?_
    refine ⟨b, vs.take o ++ v.cells.toList ++ vs.drop (o + v.cells.toList.length), e, hb, ?_, ?_, h4, h5.splice (hv.ones hk) _ _⟩
    · rw [setRow_heap w b _ _ e (0, 0) h2]
    · rw [setCells_eq _ _ _ (by omega), hcl]
      exact ((h3.take o).append hc).append (h3.drop _)

theorem growBy_le (need : Nat) : ∀ (r c : Nat), c ≤ need + (need + 768) / 4 → Builtin.growBy need r c ≤ need + (need + 768) / 4
  | 0, c, h => by simpa [Builtin.growBy] using h
  | r + 1, c, h => by
    simp only [Builtin.growBy]
    split
    · exact h
    · rename_i hc
      exact growBy_le need r _ (by omega)

theorem nextcap_le {need cap : Nat} (h : cap < need) : Builtin.nextslicecap need cap ≤ 2 * need + 512 := by
  unfold Builtin.nextslicecap
  split
  · omega
  · split
    · omega
    · have := growBy_le need 4 cap (by omega)
      omega

/-- What is appended, as cells. -/
theorem src_ok {y : Value} {ya : AV} {ys : List AV} {sz : Nat} (hw : WR G σ w) (hy : VR G ya y) (h : srcA sz ya = some ys) :
    ∃ news, VRf G sz ys news ∧ (Builtin.lenOf y).run P w = .ok ys.length w ∧ (∀ w', WR G σ w' → (Builtin.firstCells sz ys.length y).run P w' = .ok (List.toArray news) w') := by
  unfold srcA at h
  split at h
  · split at h
    · rename_i nl sz' es tok hsz
      simp only [Option.some.injEq] at h; subst h
      simp only [VR] at hy
      obtain ⟨base, cap, cs, rfl, k1, k2, k3, k4⟩ := hy
      have k3' : VRf G sz es cs := by
        rcases hsz with rfl | rfl
        · exact k3
        · simpa only [VRf] using k3
      refine ⟨cs, k3', by simp [Builtin.lenOf], fun w' hw' => ?_⟩
      cases base with
      | none =>
        simp only [BaseR] at k4
        have : es = [] := List.length_eq_zero_iff.1 k4.1
        subst this
        simp only [VRf] at k3'; subst k3'
        simp [Builtin.firstCells]
      | some a =>
        simp only [BaseR] at k4
        have hl := run_loadCells_list (P := P) w' a cs (fun j v e => by
          have hjl : j < cs.length := (List.getElem?_eq_some_iff.1 e).1
          have : 0 < es.length := by
            rw [k3'.length] at hjl
            rcases Nat.eq_zero_or_pos es.length with h0 | h0
            · rw [h0] at hjl; simp at hjl
            · exact h0
          obtain ⟨ab, ao, asp⟩ := a
          have hsp : asp = none := k4.1 this
          subst hsp
          rw [add_none]
          exact hw'.frz _ _ _ (k4.2 j v e))
        rw [k3'.length] at hl
        simpa [Builtin.firstCells] using hl
    · cases h
  · split at h
    · rename_i s hsz
      subst hsz
      simp only [Option.some.injEq] at h; subst h
      simp only [VR] at hy; subst hy
      have hszz : (ByteArray.mk s.toArray).size = s.length := by simp [ByteArray.size]
      refine ⟨bC s, bC_ok s, by simp [Builtin.lenOf, hszz], fun w' _ => ?_⟩
      simp only [Builtin.firstCells, Sem.run_pure, List.length_map]
      congr 1
      simp [bC, ByteArray.data_extract]
    · cases h
  · cases h

def Ghost.addT (G : Ghost) (t g : Nat) (x : Nat × Nat × Nat) : Ghost := { G with T := fun t' g' => if t' = t ∧ g' = g then some x else G.T t' g' }
theorem Ghost.le_addT {t g : Nat} (x : Nat × Nat × Nat) (h : G.T t g = none) : G.le (G.addT t g x) := by
  refine ⟨rfl, rfl, rfl, rfl, fun _ _ _ e => e, fun _ _ e => e, fun t' g' y e => ?_⟩
  simp only [Ghost.addT]
  split
  · rename_i hh; obtain ⟨rfl, rfl⟩ := hh; rw [h] at e; cases e
  · exact e

/-- The general step of an owner of spare room: its room is turned, in its own block or in a new one. -/
theorem WR.spare (h : WR G σ w) {t g : Nat} {y : Option AObj} (hs : σ t = y) (hy : y = some (.spare g) ∨ y = none) {G' : Ghost} {w' : World} (hle : G.le G')
    (hn0 : G'.n0 = G.n0) (hB : Below G.n0 w w') {bo : Option Nat} (hbo : ∀ b, bo = some b → y = some (.spare g) ∧ G.blk t (.spare g) = some b)
    (hh : ∀ k, k < w.heap.size → some k ≠ bo → w'.heap[k]? = w.heap[k]?)
    (hF : ∀ b o v, G'.F b o = some v → w'.cell? ⟨b, o, none⟩ = some v) (hF2 : ∀ b o, b < w.heap.size → some b ≠ bo → G'.F b o = G.F b o)
    (hρ : G'.ρ = G.ρ) (hT : ∀ l g', l ≠ t → G'.T l g' = G.T l g') {g1 : Nat} (hx : ObjR G' w' t (.spare g1))
    (hnew : ∀ b, G'.blk t (.spare g1) = some b → G.n0 ≤ b ∧ b < w'.heap.size ∧ (some b = bo ∨ w.heap.size ≤ b)) (hd : G.trk = true → w.drawn ≤ w'.drawn := by intro; first | exact Nat.le_refl _ | exact Nat.le_succ _) : WR G' (σ.upd t (.spare g1)) w' := by
  have hsz := hB.size
  have ht : ∀ l x, σ l = some x → l ≠ t → (∀ b, G.blk l x = some b → some b ≠ bo) := fun l x e hlt b hb hbb => by
    obtain ⟨h1, h2⟩ := hbo b hbb.symm
    exact hlt (h.sep l t x _ b e (hs.trans h1) hb h2)
  have keep : ∀ l x, σ l = some x → l ≠ t → ObjR G' w' l x := fun l x e hlt =>
    (h.obj l x e).keep hle (hT l · hlt) fun b hb => ⟨hh b (h.own l x b e hb).2 (ht l x e hlt b hb), fun o => hF2 b o (h.own l x b e hb).2 (ht l x e hlt b hb)⟩
  have bk : ∀ l x, σ l = some x → l ≠ t → G'.blk l x = G.blk l x := fun l x e hlt => blk_keep (h.obj l x e) hle (hT l · hlt)
  refine ⟨by rw [hn0, hle.w0]; exact h.below.trans hB, by rw [hle.w0, hle.trk]; exact fun ht => Nat.le_trans (h.drawn ht) (hd ht), by rw [hn0]; have := h.n0le; omega, hF, fun l x e => ?_, fun l1 l2 x1 x2 c e1 e2 k1 k2 => ?_, fun l x c e k => ?_, fin_upd h.fin t (fun l hl => by rw [hρ]) (fun l g' hl => hT l g' hl), fun hd k hk => ?_⟩
  · simp only [AS.upd_at] at e
    by_cases hl : l = t
    · subst hl; simp only [if_true, Option.some.injEq] at e; subst e; exact hx
    · rw [if_neg hl] at e; exact keep l x e hl
  · simp only [AS.upd_at] at e1 e2
    by_cases h1 : l1 = t <;> by_cases h2 : l2 = t
    · rw [h1, h2]
    · subst h1; rw [if_neg h2] at e2
      simp only [if_true, Option.some.injEq] at e1; subst e1
      rw [bk l2 x2 e2 h2] at k2
      obtain ⟨_, _, h3⟩ := hnew c k1
      rcases h3 with h3 | h3
      · exact absurd h3 (ht l2 x2 e2 h2 c k2)
      · have := (h.own l2 x2 c e2 k2).2; omega
    · subst h2; rw [if_neg h1] at e1
      simp only [if_true, Option.some.injEq] at e2; subst e2
      rw [bk l1 x1 e1 h1] at k1
      obtain ⟨_, _, h3⟩ := hnew c k2
      rcases h3 with h3 | h3
      · exact absurd h3 (ht l1 x1 e1 h1 c k1)
      · have := (h.own l1 x1 c e1 k1).2; omega
    · rw [if_neg h1] at e1; rw [if_neg h2] at e2
      rw [bk l1 x1 e1 h1] at k1
      rw [bk l2 x2 e2 h2] at k2
      exact h.sep l1 l2 x1 x2 c e1 e2 k1 k2
  · simp only [AS.upd_at] at e
    rw [hn0]
    by_cases hl : l = t
    · subst hl; simp only [if_true, Option.some.injEq] at e; subst e
      obtain ⟨h1, h2, _⟩ := hnew c k; exact ⟨h1, h2⟩
    · rw [if_neg hl] at e; rw [bk l x e hl] at k
      have := h.own l x c e k; omega
  · have h1 : σ.nxt ≤ k := Nat.le_trans (Nat.le_max_left _ _) hk
    have h2 : t + 1 ≤ k := Nat.le_trans (Nat.le_max_right _ _) hk
    rw [hle.det] at hd
    obtain ⟨h3, h4⟩ := h.nx hd k h1
    exact ⟨by rw [hρ]; exact h3, fun g' => by rw [hT k g' (by omega)]; exact h4 g'⟩

theorem zeroCells_size (z : Array Value) (n : Nat) : (Builtin.zeroCells z n).size = n * z.size := by simp [Builtin.zeroCells]

theorem srcT_ok {u : TypeId} (h : srcT P u = true) : ∃ d, P.underlying u = some d ∧ ∀ k, d ≠ .int k := by
  unfold srcT at h
  split at h
  · rename_i hu; exact ⟨_, hu, by simp⟩
  · rename_i hu; exact ⟨_, hu, by simp⟩
  · cases h

theorem append_room {y : Value} {base : Option Addr} {l m cap sz : Nat} {t u e ty : TypeId} {d : TypeDesc} {news : Array Value} (hu : P.underlying t = some (.slice e)) (hd : P.underlying u = some d) (hdi : ∀ k, d ≠ .int k)
    (hsz : szOf P e = some sz) (hlen : (Builtin.lenOf y).run P w = .ok m w) (hcells : (Builtin.firstCells sz m y).run P w = .ok news w) (hfit : l + m ≤ cap) :
    (Builtin.append_ #[t, u] ty #[.slice base l cap, y]).run P w =
      ((match base with | some a => storeCells (a.add (l * sz)) news.toList | none => pure () : Sem Unit).run P w).andThen fun _ w' => .ok (.slice base (l + m) cap) w' := by
  have hd2 : (underlying u).run P w = .ok d w := run_und hd w
  have hz : (match d with | .int _ => true | _ => false) = false := by cases d <;> first | rfl | exact absurd rfl (hdi _)
  cases base with
  | none => simp [Builtin.append_, run_und hu, run_sz hsz, hd2, hz, hlen, hcells, hfit]
  | some a => simp [Builtin.append_, run_und hu, run_sz hsz, hd2, hz, hlen, hcells, hfit]

theorem append_grow {y : Value} {base : Option Addr} {l m cap sz by' : Nat} {t u e ty : TypeId} {d : TypeDesc} {news olds : Array Value} {zv : Value} (hu : P.underlying t = some (.slice e)) (hd : P.underlying u = some d) (hdi : ∀ k, d ≠ .int k)
    (hsz : szOf P e = some sz) (hby : byOf P e = some by') (hlen : (Builtin.lenOf y).run P w = .ok m w) (hcells : (Builtin.firstCells sz m y).run P w.drew = .ok news w.drew)
    (holds : (Builtin.firstCells sz l (.slice base l cap)).run P w.drew = .ok olds w.drew) (hz : (zeroValue e).run P w.drew = .ok zv w.drew) (hfit : cap < l + m) (hb0 : by' ≠ 0)
    (hcap : Builtin.nextslicecap (l + m) cap * by' ≤ 2 ^ 48) :
    ∃ c, l + m ≤ c ∧ (Builtin.append_ #[t, u] ty #[.slice base l cap, y]).run P w =
      .ok (.slice (some ⟨w.heap.size, 0, none⟩) (l + m) c) (w.drew.alloc (.cells (olds ++ news ++ Builtin.zeroCells zv.cells (c - (l + m))) e)) := by
  have hd2 : (underlying u).run P w = .ok d w := run_und hd w
  have hzz : (match d with | .int _ => true | _ => false) = false := by cases d <;> first | rfl | exact absurd rfl (hdi _)
  obtain ⟨info, hinfo, hib⟩ := run_by hby w
  obtain ⟨info', hinfo', hib'⟩ := run_by hby w.drew
  have hnf : ¬ (l + m ≤ cap) := by omega
  have hnc : ¬ (Builtin.nextslicecap (l + m) cap * by' > 2 ^ 48) := by omega
  refine ⟨(Question.appendCap (l + m) cap e).cut (w.tape w.drawn (.appendCap (l + m) cap e)), by simp [Question.cut], ?_⟩
  have hnn : (281474976710656 < Builtin.nextslicecap (l + m) cap * by') = False := by simp; omega
  have hfo : (Question.appendCap (l + m) cap e).forced = false := rfl
  simp [Builtin.append_, run_und hu, run_sz hsz, hd2, hzz, hlen, hnf, hinfo, hib, hb0, hnn, hfo, hinfo', hcells, holds, hz, newRow]

theorem append_opn {x y : Value} {xa ya : AV} {nl : Bool} {sz sz' by' : Nat} {es ys : List AV} {t0 g : Nat} {t u e : TypeId} {z : AV} (ty : TypeId) (hw : WR G σ w)
    (hx : VR G (.slice nl sz es (.opn t0 g)) x) (hy : VR G ya y) (hys : srcA sz ya = some ys) (hsp : σ t0 = some (.spare g)) (hroom : (es.length + ys.length) * by' ≤ roomMax)
    (hu : P.underlying t = some (.slice e)) (hsz : szOf P e = some sz) (hby : byOf P e = some by') (hz : zeroOf P e = some z)
    (hc : 0 < by' ∧ by' ≤ 65536 ∧ 0 < sz ∧ z.known = true ∧ z.cells.length = sz) (hsrc : srcT P u = true) :
    ∃ v w' G', (Builtin.append_ #[t, u] ty #[x, y]).run P w = .ok v w' ∧ G.le G' ∧ WR G' (σ.upd t0 (.spare (g + 1))) w' ∧ VR G' (.slice (nl && ys.isEmpty) sz (es ++ ys) (.opn t0 (g + 1))) v := by
  obtain ⟨hc1, hc2, hc3, hc4, hc5⟩ := hc
  obtain ⟨olds, ho1, ho2, ho3⟩ := src_ok (P := P) (sz := sz) (ys := es) hw hx (by simp [srcA])
  simp only [VR] at hx
  obtain ⟨base, cap, cs, rfl, k1, k2, k3, k4⟩ := hx
  simp only [TokR] at k2
  obtain ⟨hlc, b, s, n, hT, hn, hreg⟩ := k2
  obtain ⟨hfut, b', s', n', hT', hobj⟩ := hw.obj t0 _ hsp
  rw [hT] at hT'; cases hT'
  obtain ⟨news, hnews, hlen, hcells⟩ := src_ok (P := P) hw hy hys
  have hnl := hnews.length
  obtain ⟨d, hd, hdi⟩ := srcT_ok hsrc
  by_cases hfit : es.length + ys.length ≤ cap
  · -- there is room
    have hrun := append_room (ty := ty) (base := base) hu hd hdi hsz hlen (hcells w hw) hfit
    simp only [List.toList_toArray] at hrun
    by_cases hm : ys = []
    · subst hm
      simp only [VRf] at hnews; subst hnews
      refine ⟨.slice base (es.length + ([] : List AV).length) cap, w, G.addT t0 (g + 1) (b, s, n), ?_, Ghost.le_addT _ (hfut _ (by omega)), ?_, ?_⟩
      · rw [hrun]; cases base <;> simp [storeCells]
      · have hle := Ghost.le_addT (G := G) (t := t0) (g := g + 1) (b, s, n) (hfut _ (by omega))
        refine hw.spare hsp (.inl rfl) hle rfl (Below.refl _ _) (bo := G.blk t0 (.spare g)) (fun b hb => ⟨rfl, hb⟩) (fun _ _ _ => rfl) hw.frz (fun _ _ _ _ => rfl) rfl (fun l g' hl => ?_) ?_ ?_
        · simp only [Ghost.addT]; rw [if_neg (fun hh => hl hh.1)]
        · refine ⟨fun g' hg => ?_, b, s, n, by simp [Ghost.addT], hobj⟩
          simp only [Ghost.addT]; rw [if_neg (by omega)]; exact hfut g' (by omega)
        · intro c hcb
          have : G.blk t0 (.spare g) = some c := by
            simp only [Ghost.blk, Ghost.addT, and_self, if_true] at hcb
            simp only [Ghost.blk, hT]; exact hcb
          have ho := hw.own t0 _ c hsp this
          exact ⟨ho.1, ho.2, .inl this.symm⟩
      · have hle := Ghost.le_addT (G := G) (t := t0) (g := g + 1) (b, s, n) (hfut _ (by omega))
        simp only [VR, List.append_nil, List.length_nil, Nat.add_zero]
        refine ⟨base, cap, cs, rfl, by simpa using k1, ?_, VRf.mono hle _ _ _ k3, k4.mono hle⟩
        simp only [TokR]
        exact ⟨hlc, b, s, n, by simp [Ghost.addT], hn, hreg⟩
    · -- cells are written
      have hypos : 0 < ys.length := List.length_pos_iff.2 hm
      have hcl : (cap - es.length) * sz ≥ ys.length * sz := Nat.mul_le_mul_right _ (by omega)
      have hmpos : 0 < ys.length * sz := Nat.mul_pos hypos hc3
      have hn0 : n ≠ 0 := by omega
      obtain ⟨o, rfl, hso⟩ := hreg.resolve_left hn0
      obtain ⟨vs, e', hrow, hfitv, hfree⟩ := hobj hn0
      have hst := run_storeCells_at P b s e' news 0 vs w hrow (by rw [hnl]; omega) hnews.ones
      simp only [Nat.add_zero] at hst
      obtain ⟨w', hw'⟩ : ∃ w', w' = w.setRow b (vs.toList.take s ++ news ++ vs.toList.drop (s + news.length)).toArray := ⟨_, rfl⟩
      rw [← hw'] at hst
      obtain ⟨G', hG'⟩ : ∃ G' : Ghost, G' = { (G.addT t0 (g + 1) (b, s + news.length, n - news.length)) with F := fun b' o' => if b' = b ∧ s ≤ o' ∧ o' < s + news.length then news[o' - s]? else G.F b' o' } := ⟨_, rfl⟩
      have hblk : G.blk t0 (.spare g) = some b := by
        obtain ⟨n1, rfl⟩ : ∃ n1, n = n1 + 1 := ⟨n - 1, by omega⟩
        simp [Ghost.blk, hT]
      have hown := hw.own t0 _ b hsp hblk
      have hle : G.le G' := by
        subst hG'
        refine ⟨rfl, rfl, rfl, rfl, fun b1 o1 v1 ev => ?_, fun _ _ ev => ev, (Ghost.le_addT _ (hfut _ (by omega))).T⟩
        simp only
        split
        · rename_i hh; obtain ⟨rfl, h2, h3⟩ := hh
          rw [hfree o1 h2 (by rw [hnl] at h3; omega)] at ev; cases ev
        · exact ev
      have hcell : ∀ j, w'.cell? ⟨b, j, none⟩ = (vs.toList.take s ++ news ++ vs.toList.drop (s + news.length))[j]? := fun j => by
        rw [hw', cell_setRow_same w b j vs _ e' (0, 0) hrow]; simp
      have hsv : s + n ≤ vs.toList.length := by simpa using hfitv
      refine ⟨.slice (some ⟨b, o, none⟩) (es.length + ys.length) cap, w', G', ?_, hle, ?_, ?_⟩
      · rw [hrun]; simp only [add_none]; rw [← hso, hst]; rfl
      · refine hw.spare hsp (.inl rfl) hle (by rw [hG']; rfl) (by rw [hw']; exact below_setRow (Below.refl _ _) hown.1 _) (bo := some b) (fun c hc => by cases hc; exact ⟨rfl, hblk⟩)
          (fun k hk hkb => by rw [hw']; exact setRow_other w b k _ (fun hh => hkb (by rw [hh]))) (fun b1 o1 v1 ev => ?_) (fun b1 o1 hb1 hbb => ?_) (by rw [hG']; rfl) (fun l g' hl => ?_) (g1 := g + 1) ?_ ?_ (by rw [hw']; exact fun _ => Nat.le_refl _)
        · rw [hG'] at ev; simp only at ev
          split at ev
          · rename_i hh; obtain ⟨rfl, h2, h3⟩ := hh
            rw [hcell, List.append_assoc, List.getElem?_append_right (by simp; omega), List.getElem?_append_left (by simp; omega)]
            simpa [Nat.min_eq_left (show s ≤ vs.size by simpa using (by omega : s ≤ vs.toList.length))] using ev
          · rename_i hh
            by_cases hb1 : b1 = b
            · subst hb1
              have hold := hw.frz _ _ _ ev
              have hold' : vs.toList[o1]? = some v1 := by
                simp only [World.cell?, hrow] at hold; simpa using hold
              rw [hcell]
              by_cases h1 : o1 < s
              · rw [List.append_assoc, List.getElem?_append_left (by simp; omega), List.getElem?_take, if_pos h1]; exact hold'
              · have h2 : s + news.length ≤ o1 := by
                  rcases Nat.lt_or_ge o1 (s + news.length) with h3 | h3
                  · exact absurd ⟨rfl, by omega, h3⟩ hh
                  · exact h3
                rw [List.getElem?_append_right (by simp; omega), List.getElem?_drop]
                rw [← hold']; congr 1
                have : min s vs.size = s := Nat.min_eq_left (by simpa using (by omega : s ≤ vs.toList.length))
                simp [this]; omega
            · have := setRow_other w b b1 (vs.toList.take s ++ news ++ vs.toList.drop (s + news.length)).toArray hb1
              rw [← hw'] at this
              rw [World.cell?_of_block (w := w) (a := ⟨b1, o1, none⟩) this]
              exact hw.frz _ _ _ ev
        · rw [hG']; simp only; rw [if_neg (fun hh => hbb (by rw [hh.1]))]
        · rw [hG']; simp only [Ghost.addT]; rw [if_neg (fun hh => hl hh.1)]
        · refine ⟨fun g' hg => ?_, b, s + news.length, n - news.length, by rw [hG']; simp [Ghost.addT], fun _ => ?_⟩
          · rw [hG']; simp only [Ghost.addT]; rw [if_neg (by omega)]; exact hfut g' (by omega)
          · refine ⟨_, e', by rw [hw']; exact setRow_heap w b vs _ e' (0, 0) hrow, by simp; rw [hnl] at *; simp at hsv; omega, fun o1 h1 h2 => ?_⟩
            rw [hG']; simp only; rw [if_neg (by omega)]
            exact hfree o1 (by omega) (by rw [hnl] at *; omega)
        · intro c hcb
          have : c = b := by
            rw [hG'] at hcb
            simp only [Ghost.blk, Ghost.addT, and_self, if_true] at hcb
            split at hcb
            · rename_i heq; simp only [Option.some.injEq, Prod.mk.injEq] at heq; simp only [Option.some.injEq] at hcb; rw [← hcb]; exact heq.1.symm
            · cases hcb
          subst this
          exact ⟨hown.1, by rw [hw']; simpa using hown.2, .inl rfl⟩
      · simp only [VR, List.length_append]
        refine ⟨some ⟨b, o, none⟩, cap, cs ++ news, rfl, ?_, ?_, (VRf.mono hle _ _ _ k3).append (VRf.mono hle _ _ _ hnews), ⟨fun _ => rfl, ?_⟩⟩
        · simp at k1; simp [k1]
        · simp only [TokR]
          refine ⟨hfit, b, s + news.length, n - news.length, by rw [hG']; simp [Ghost.addT], ?_, .inr ⟨o, rfl, ?_⟩⟩
          · rw [hn, hnl, ← Nat.mul_sub_right_distrib]; congr 1; omega
          · rw [hso, hnl, Nat.add_assoc, ← Nat.add_mul]
        · simp only [BaseR] at k4
          rw [Ghost.frz_append]
          refine ⟨k4.2.mono hle, fun i v ev => ?_⟩
          have hil := (List.getElem?_eq_some_iff.1 ev).1
          rw [hG', k3.length, ← hso]
          simp only
          rw [if_pos (by refine ⟨?_, ?_, ?_⟩ <;> first | trivial | omega), Nat.add_sub_cancel_left]
          exact ev
  · -- it grows
    have hnext := nextcap_le (need := es.length + ys.length) (cap := cap) (by omega)
    have hroom2 : Builtin.nextslicecap (es.length + ys.length) cap * by' ≤ 2 ^ 48 := by
      have h1 : Builtin.nextslicecap (es.length + ys.length) cap * by' ≤ (2 * (es.length + ys.length) + 512) * by' := Nat.mul_le_mul_right _ hnext
      have h2 : (2 * (es.length + ys.length) + 512) * by' = 2 * ((es.length + ys.length) * by') + 512 * by' := by rw [Nat.add_mul, Nat.mul_assoc]
      simp only [roomMax] at hroom
      omega
    have hwd := hw.drew
    obtain ⟨zv, hz1, hz2⟩ := zeroOf_ok hz w.drew G
    have hzc := (hz2.cells (knownA hc4)).length
    rw [hc5] at hzc
    obtain ⟨c, hcn, hrun⟩ := append_grow (ty := ty) (base := base) (cap := cap) hu hd hdi hsz hby hlen (hcells _ hwd) (ho3 _ hwd) hz1 (by omega) (by omega) hroom2
    have hol := ho1.length
    obtain ⟨C, hC⟩ : ∃ C : Array Value, C = olds.toArray ++ news.toArray ++ Builtin.zeroCells zv.cells (c - (es.length + ys.length)) := ⟨_, rfl⟩
    rw [← hC] at hrun
    have hCs : C.size = c * sz := by
      rw [hC]
      simp only [Array.size_append, List.size_toArray, zeroCells_size, hol, hnl]
      rw [show zv.cells.size = sz by simpa using hzc, ← Nat.add_mul, ← Nat.add_mul]; congr 1; omega
    have hCp : ∀ i v, (olds ++ news)[i]? = some v → C[i]? = some v := fun i v ev => by
      have hil := (List.getElem?_eq_some_iff.1 ev).1
      rw [hC, Array.getElem?_append_left (by simp at hil ⊢; omega)]
      simpa using ev
    obtain ⟨G', hG'⟩ : ∃ G' : Ghost, G' = { (G.addT t0 (g + 1) (w.heap.size, (es.length + ys.length) * sz, (c - (es.length + ys.length)) * sz)) with F := fun b' o' => if b' = w.heap.size then (olds ++ news)[o']? else G.F b' o' } := ⟨_, rfl⟩
    have hle : G.le G' := by
      subst hG'
      refine ⟨rfl, rfl, rfl, rfl, fun b1 o1 v1 ev => ?_, fun _ _ ev => ev, (Ghost.le_addT _ (hfut _ (by omega))).T⟩
      have := hw.F_lt ev
      simp only
      rw [if_neg (by omega)]; exact ev
    have hnewcell : ∀ j, (w.drew.alloc (.cells C e)).cell? ⟨w.heap.size, j, none⟩ = C[j]? := fun j => cell_alloc_fr w.drew C e (0, 0) j
    have hdl : (es.length + ys.length) * sz + (c - (es.length + ys.length)) * sz = c * sz := by rw [← Nat.add_mul]; congr 1; omega
    refine ⟨_, _, G', hrun, hle, ?_, ?_⟩
    · refine hw.spare hsp (.inl rfl) hle (by rw [hG']; rfl) ((Below.refl _ _).drew.alloc hw.n0le _) (bo := none) (fun b hb => by cases hb)
        (fun k hk _ => Below.heap_alloc w.drew _ k hk) (fun b1 o1 v1 ev => ?_) (fun b1 o1 hb1 _ => ?_) (by rw [hG']; rfl) (fun l g' hl => ?_) (g1 := g + 1) ?_ ?_
      · rw [hG'] at ev; simp only at ev
        split at ev
        · rename_i hh; subst hh; rw [hnewcell]; exact hCp _ _ ev
        · have := hw.F_lt ev
          rw [World.cell?_alloc_old w.drew _ ⟨b1, o1, none⟩ (by simp; omega)]
          exact hw.frz _ _ _ ev
      · rw [hG']; simp only; rw [if_neg (by omega)]
      · rw [hG']; simp only [Ghost.addT]; rw [if_neg (fun hh => hl hh.1)]
      · refine ⟨fun g' hg => ?_, w.heap.size, (es.length + ys.length) * sz, (c - (es.length + ys.length)) * sz, by rw [hG']; simp [Ghost.addT], fun _ => ?_⟩
        · rw [hG']; simp only [Ghost.addT]; rw [if_neg (by omega)]; exact hfut g' (by omega)
        · refine ⟨C, e, heap_new w.drew _, by omega, fun o1 h1 h2 => ?_⟩
          rw [hG']; simp only [if_true]
          rw [List.getElem?_eq_none_iff]; simp only [List.length_append, hol, hnl, ← Nat.add_mul]; exact h1
      · intro b1 hcb
        have : b1 = w.heap.size := by
          rw [hG'] at hcb
          simp only [Ghost.blk, Ghost.addT, and_self, if_true] at hcb
          split at hcb
          · rename_i heq; simp only [Option.some.injEq, Prod.mk.injEq] at heq; simp only [Option.some.injEq] at hcb; rw [← hcb]; exact heq.1.symm
          · cases hcb
        subst this
        exact ⟨hw.n0le, by simp, .inr (Nat.le_refl _)⟩
    · simp only [VR, List.length_append]
      have hyne : ys.isEmpty = false := by
        cases ys with
        | nil => simp at hfit; omega
        | cons _ _ => rfl
      refine ⟨some ⟨w.heap.size, 0, none⟩, c, olds ++ news, rfl, by simp [hyne], ?_, (VRf.mono hle _ _ _ ho1).append (VRf.mono hle _ _ _ hnews), ⟨fun _ => rfl, fun i v ev => ?_⟩⟩
      · simp only [TokR]
        exact ⟨hcn, w.heap.size, (es.length + ys.length) * sz, (c - (es.length + ys.length)) * sz, by rw [hG']; simp [Ghost.addT], rfl, .inr ⟨0, rfl, by simp⟩⟩
      · rw [hG']; simp only [if_true, Nat.zero_add]; exact ev
end
end Go.VS
