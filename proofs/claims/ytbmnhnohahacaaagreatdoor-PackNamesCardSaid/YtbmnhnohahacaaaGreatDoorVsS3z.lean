import Derived.Test.YtbmnhnohahacaaaGreatDoorVsS2z
import Derived.Test.YtbmnhnohahacaaaGreatDoorVsPlacez
import Derived.Test.YtbmnhnohahacaaaGreatDoorTryzLayP
import Derived.Shelf.SlSortCmp.NoneTotal
namespace Go.Proofs.Tryzv
open Go.RowKit Go.Maps Go.Sort Go.Shelf Go.VS
set_option linter.unusedSimpArgs false
set_option linter.unusedVariables false
set_option maxRecDepth 100000

theorem grow_of {w w' : World} (hb : RowKit.Below w.heap.size w w') (hd : w.drawn ≤ w'.drawn) : ∃ q os', w' = grow (w.drewN q) os' := by
  refine ⟨w'.drawn - w.drawn, w'.heap.extract w.heap.size w'.heap.size, ?_⟩
  have hh : w'.heap = w.heap ++ w'.heap.extract w.heap.size w'.heap.size := by
    apply Array.ext_getElem?
    intro i
    rw [Array.getElem?_append]
    have := hb.size
    split
    · rename_i hi; exact hb.block i hi
    · rename_i hi
      rw [Array.getElem?_extract]
      split
      · congr 1; omega
      · rw [Array.getElem?_eq_none]; omega
  obtain ⟨h1, t1, d1, o1, u1⟩ := w'
  obtain ⟨h2, t2, d2, o2, u2⟩ := w
  have e1 := hb.tape; have e2 := hb.os; have e3 := hb.output
  simp only at *
  subst e1 e2 e3
  simp only [grow, World.drewN]
  rw [← hh]
  congr 1
  omega

/-- Nothing is known of memory. -/
def G0 (w : World) (trk : Bool) : Ghost := { n0 := w.heap.size, w0 := w, det := false, trk := trk, F := fun _ _ => none, ρ := fun _ => none, T := fun _ _ => none }
def σ0 : AS := ⟨fun _ => none, 0⟩
theorem wr0 (w : World) (trk : Bool) : WR (G0 w trk) σ0 w :=
  ⟨RowKit.Below.refl _ _, fun _ => Nat.le_refl _, Nat.le_refl _, (fun _ _ _ h => by cases h), (fun _ _ h => by cases h), (fun _ _ _ _ _ h => by cases h), (fun _ _ _ h => by cases h), ⟨0, fun _ _ => ⟨rfl, fun _ => rfl⟩⟩, (fun h => by cases h)⟩
def γ0 : Ctx := ⟨fun _ => .any, false, true⟩
theorem gok0 (w : World) : GOK γ0 (G0 w true) := ⟨rfl, rfl, fun g => by simp [γ0, VR]⟩

/-- A call that needs nothing of memory: what it leaves behind is new blocks, and draws. -/
theorem calls0 {P : Program} {f : FuncId} {args : List AV} {vs : Array Value} {w : World} {R : AEnd → AS → Prop} (h : ACall P γ0 f args σ0 R) (eg : ∀ args w, (callFunc f args).run P w = .ok (.enter f args) w)
    (hv : VRs (G0 w true) args vs.toList) : Calls P f vs w fun e w' => (∃ G r σ, ER G r e ∧ R r σ) ∧ ∃ q os', w' = grow (w.drewN q) os' := by
  have h1 := h (G0 w true) w vs.toList (gok0 w) (wr0 w true) hv
  rw [Array.toArray_toList] at h1
  have h2 : Calls P f vs w fun e w' => ∃ G' r σ', (G0 w true).le G' ∧ WR G' σ' w' ∧ ER G' r e ∧ R r σ' := by
    rcases h1 with ⟨_, h1⟩ | ⟨v, w', h1, _⟩
    · exact h1
    · rw [eg] at h1; cases h1
  refine h2.mono fun e w' ⟨G', r, σ', hle, hw, he, hr⟩ => ⟨⟨G', r, σ', he, hr⟩, ?_⟩
  have hb := hw.below
  rw [hle.n0, hle.w0] at hb
  have hd := hw.drawn (by rw [hle.trk]; rfl)
  rw [hle.w0] at hd
  exact grow_of hb hd

/-! ### the order of places -/

theorem less_irrefl : ∀ a : List UInt8, Op.bytesLess a a = false
  | [] => rfl
  | x :: xs => by simp [Op.bytesLess, less_irrefl xs]
theorem less_cons (a b : UInt8) (x y : List UInt8) : Op.bytesLess (a :: x) (b :: y) = (decide (a < b) || (a == b && Op.bytesLess x y)) := rfl
theorem less_trans : ∀ a b c : List UInt8, Op.bytesLess a b = true → Op.bytesLess b c = true → Op.bytesLess a c = true
  | _, _, [], _, h => by cases ‹List UInt8› <;> simp [Op.bytesLess] at h
  | [], _, _ :: _, _, _ => rfl
  | _ :: _, [], _, h, _ => by simp [Op.bytesLess] at h
  | a :: x, b :: y, c :: z, h1, h2 => by
    rw [less_cons] at *
    simp only [Bool.or_eq_true, decide_eq_true_eq, Bool.and_eq_true, beq_iff_eq] at *
    rcases h1 with h1 | ⟨rfl, h1⟩
    · rcases h2 with h2 | ⟨rfl, h2⟩
      · exact .inl (UInt8.lt_trans h1 h2)
      · exact .inl h1
    · rcases h2 with h2 | ⟨rfl, h2⟩
      · exact .inl h2
      · exact .inr ⟨rfl, less_trans x y z h1 h2⟩
theorem less_total : ∀ a b : List UInt8, Op.bytesLess a b = false → Op.bytesLess b a = false → a = b
  | [], [], _, _ => rfl
  | [], _ :: _, h, _ => by simp [Op.bytesLess] at h
  | _ :: _, [], _, h => by simp [Op.bytesLess] at h
  | a :: x, b :: y, h1, h2 => by
    rw [less_cons] at *
    simp only [Bool.or_eq_false_iff, decide_eq_false_iff_not, Bool.and_eq_false_imp, beq_iff_eq] at *
    have hab : a = b := UInt8.le_antisymm (UInt8.not_lt.1 h2.1) (UInt8.not_lt.1 h1.1)
    subst hab
    rw [less_total x y (h1.2 rfl) (h2.2 rfl)]

def cfP (x y : List UInt8 × List UInt8) : Int := cmpP x.1 x.2 y.1 y.2
def ltP (x y : List UInt8 × List UInt8) : Bool := Op.bytesLess x.1 y.1 || (x.1 == y.1 && Op.bytesLess x.2 y.2)
theorem ltOf_cfP (x y : List UInt8 × List UInt8) : ltOf cfP x y = ltP x y := by
  unfold ltOf cfP cmpP ltP
  simp only [orI]
  unfold cmpS
  by_cases h1 : Op.bytesLess x.1 y.1 = true
  · simp [h1]
  · have h1' : Op.bytesLess x.1 y.1 = false := by simpa using h1
    by_cases h2 : x.1 = y.1
    · simp only [h1', Bool.false_eq_true, if_false, h2, if_true, beq_self_eq_true, Bool.true_and, Bool.false_or]
      by_cases h3 : Op.bytesLess x.2 y.2 = true
      · simp [h3, less_irrefl]
      · have h3' : Op.bytesLess x.2 y.2 = false := by simpa using h3
        by_cases h4 : x.2 = y.2 <;> simp [h3', h4, less_irrefl]
    · have h2' : (x.1 == y.1) = false := by simpa using h2
      simp [h1', h2, h2']
theorem ltP_irrefl (x : List UInt8 × List UInt8) : ltP x x = false := by simp [ltP, less_irrefl]
theorem ltP_trans {x y z : List UInt8 × List UInt8} (h1 : ltP x y = true) (h2 : ltP y z = true) : ltP x z = true := by
  unfold ltP at *
  simp only [Bool.or_eq_true, Bool.and_eq_true, beq_iff_eq] at *
  rcases h1 with h1 | ⟨e1, h1⟩
  · rcases h2 with h2 | ⟨e2, h2⟩
    · exact .inl (less_trans _ _ _ h1 h2)
    · exact .inl (e2 ▸ h1)
  · rcases h2 with h2 | ⟨e2, h2⟩
    · exact .inl (e1 ▸ h2)
    · exact .inr ⟨e1.trans e2, less_trans _ _ _ h1 h2⟩
theorem ltP_total {x y : List UInt8 × List UInt8} (h1 : ltP x y = false) (h2 : ltP y x = false) : x = y := by
  unfold ltP at *
  simp only [Bool.or_eq_false_iff, Bool.and_eq_false_imp, beq_iff_eq] at *
  have e1 := less_total _ _ h1.1 h2.1
  exact Prod.ext e1 (less_total _ _ (h1.2 e1) (h2.2 e1.symm))
theorem swoP : SWO (ltOf cfP) where
  irrefl x := by rw [ltOf_cfP]; exact ltP_irrefl x
  trans x y z h1 h2 := by rw [ltOf_cfP] at *; exact ltP_trans h1 h2
  ntrans x y z h1 h2 := by
    rw [ltOf_cfP] at *
    rw [Bool.eq_false_iff] at *
    intro h3
    by_cases hxy : ltP y x = true
    · exact h2 (ltP_trans hxy h3)
    · have := ltP_total (by simpa using h1) (by simpa using hxy)
      exact h2 (this ▸ h3)

/-- The places, in their row. -/
def sortP (ks : List (List UInt8 × List UInt8)) : List (List UInt8 × List UInt8) := ks.mergeSort fun x y => !ltOf cfP y x
theorem sortP_perm (ks : List (List UInt8 × List UInt8)) : (sortP ks).Perm ks := List.mergeSort_perm _ _
theorem sortP_sorted (ks : List (List UInt8 × List UInt8)) : (sortP ks).Pairwise fun x y => ltP y x = false := by
  have h := List.pairwise_mergeSort (le := fun x y => !ltOf cfP y x)
    (fun a b c h1 h2 => by
      simp only [Bool.not_eq_true'] at *
      exact swoP.ntrans _ _ _ h2 h1)
    (fun a b => by
      simp only [Bool.or_eq_true, Bool.not_eq_true', ltOf_cfP]
      cases h1 : ltP b a with
      | false => exact .inl rfl
      | true =>
        refine .inr ?_
        rw [Bool.eq_false_iff]
        intro h2
        have := ltP_trans h1 h2
        rw [ltP_irrefl] at this; cases this) ks
  exact h.imp fun h => by simpa [ltOf_cfP] using h
theorem sortP_congr {a b : List (List UInt8 × List UInt8)} (h : a.Perm b) : sortP a = sortP b :=
  List.Perm.eq_of_pairwise (le := fun x y => ltP y x = false) (fun x y _ _ h1 h2 => ltP_total h2 h1) (sortP_sorted a) (sortP_sorted b) (((sortP_perm a).trans h).trans (sortP_perm b).symm)

theorem enc_vr (G : Ghost) (x : List UInt8 × List UInt8) : VR G (plc x.1 x.2) (.agg (encC x).toArray) := by
  simp only [plc, VR]
  exact ⟨encC x, rfl, VRs.cons (by simp [VR]) (VRs.cons (by simp [VR]) VRs.nil), fun v hv => by simp [encC] at hv; rcases hv with rfl | rfl <;> rfl⟩

theorem cmp88 (x y : List UInt8 × List UInt8) (W : World) : Calls Tryz.prog 88 #[.agg (encC x).toArray, .agg (encC y).toArray] W fun e w' => e = .returned (.int .i64 (cfP x y)) ∧ ∃ q os', w' = grow (W.drewN q) os' := by
  have eg : ∀ args w, (callFunc 88 args).run Tryz.prog w = .ok (.enter 88 args) w := enters_of Tryz.func88 (by kernel_rfl) rfl
  have h : ACall Tryz.prog γ0 88 [plc x.1 x.2, plc y.1 y.2] σ0 (fun r σ => r = .ret (.int .i64 (cfP x y))) := place_compare_c γ0 x.1 x.2 y.1 y.2 σ0 _ rfl
  have hv : VRs (G0 W true) [plc x.1 x.2, plc y.1 y.2] (#[.agg (encC x).toArray, .agg (encC y).toArray] : Array Value).toList := VRs.cons (enc_vr _ x) (VRs.cons (enc_vr _ y) VRs.nil)
  refine (calls0 h eg hv).mono ?_
  rintro e w' ⟨⟨G, r, σ, he, hr⟩, hg⟩
  subst hr
  obtain ⟨v, he, hv⟩ := he
  simp only [VR] at hv
  exact ⟨by rw [he, hv], hg⟩

theorem cmpLays (blk off size : Nat) (w : World) : CmpLays Tryz.prog 88 #[] encC 2 cfP blk off size w := by
  unfold CmpLays
  intro m os dk hs x y
  generalize sortWorldK encC 2 w blk off m dk os = W
  exact cmp88 x y W

theorem flat_encL (d : List (List UInt8 × List UInt8)) : (flatK encC 2 d.toArray).toList = encL d := by
  apply List.ext_getElem?
  intro i
  by_cases hi : i < d.length * 2
  · have h1 : (flatK encC 2 d.toArray)[i]! = (encC d.toArray[i / 2]!)[i % 2]! := get_flatK encC 2 d.toArray i (by simpa using hi)
    have h2 : i / 2 < d.length := by omega
    have h3 : (flatK encC 2 d.toArray).toList[i]? = some (flatK encC 2 d.toArray)[i]! := by
      rw [Array.getElem?_toList, Array.getElem?_eq_getElem (by simpa using hi), getElem!_pos _ i (by simpa using hi)]
    rw [h3, h1]
    have key : ∀ (d : List (List UInt8 × List UInt8)) (i : Nat), i / 2 < d.length → (encL d)[i]? = some (encC d.toArray[i / 2]!)[i % 2]! := by
      intro d
      induction d with
      | nil => intro i h; simp at h
      | cons x d ih =>
        intro i h
        rw [show encL (x :: d) = encC x ++ encL d from rfl]
        by_cases h0 : i < 2
        · rw [List.getElem?_append_left (by simpa [encC] using h0)]
          have : i = 0 ∨ i = 1 := by omega
          rcases this with rfl | rfl <;> simp [encC]
        · rw [List.getElem?_append_right (by simp [encC]; omega)]
          have h4 : (encC x).length = 2 := rfl
          rw [h4, ih (i - 2) (by simp at h; omega)]
          have e1 : i / 2 = (i - 2) / 2 + 1 := by omega
          have e2 : i % 2 = (i - 2) % 2 := by omega
          rw [e1, e2]
          simp
    rw [key d i h2]
  · rw [List.getElem?_eq_none (by simp; omega), List.getElem?_eq_none]
    have : ∀ d : List (List UInt8 × List UInt8), (encL d).length = d.length * 2 := by
      intro d; induction d with
      | nil => rfl
      | cons x d ih => rw [show encL (x :: d) = encC x ++ encL d from rfl]; simp [encC, ih]; omega
    rw [this]; omega

/-- What a row in memory holds. -/
def RowAt (w : World) (blk : Nat) (vs : List Value) : Prop := ∀ i u, vs[i]? = some u → w.cell? ⟨blk, i, none⟩ = some u

theorem holds_rowAt {w : World} {blk : Nat} {d : List (List UInt8 × List UInt8)} (h : HoldsK encC 2 w blk 0 d.toArray) : RowAt w blk (encL d) := fun i u hu => by
  rw [← flat_encL] at hu
  have hi := (List.getElem?_eq_some_iff.1 hu).1
  have := (h i (by simpa using hi)).1
  rw [Nat.zero_add] at this
  rw [this]
  rw [Array.getElem?_toList, Array.getElem?_eq_getElem (by simpa using hi)] at hu
  simp only [Option.some.injEq] at hu
  rw [getElem!_pos _ i (by simpa using hi), hu]; rfl

theorem holds_of_row {w : World} {blk : Nat} {cur : Array Value} {t : TypeId} {d : List (List UInt8 × List UInt8)} (hb : w.heap[blk]? = some (.cells cur t (0, 0))) (hc : cur.toList.take (d.length * 2) = encL d) : HoldsK encC 2 w blk 0 d.toArray := fun j hj => by
  have hj' : j < d.length * 2 := by simpa using hj
  have h1 : (encL d)[j]? = some (flatK encC 2 d.toArray)[j]! := by
    rw [← flat_encL, Array.getElem?_toList, Array.getElem?_eq_getElem hj, getElem!_pos _ j hj]
  have h2 : cur.toList[j]? = some (flatK encC 2 d.toArray)[j]! := by
    rw [← h1, ← hc, List.getElem?_take, if_pos hj']
  rw [Array.getElem?_toList] at h2
  rw [Nat.zero_add]
  refine ⟨by simp [World.cell?, hb, h2], by simp [World.frozen?, hb]⟩

set_option maxHeartbeats 1000000 in
/-- slices.SortedFunc(seq, place.compare), of an iterator that gives places. -/
theorem sortedF (g : Nat) (lb : Array Value) (eg : ∀ args w, (callFunc g args).run Tryz.prog w = .ok (.enter g args) w) (ks : List (List UInt8 × List UInt8)) (hN : ks.length * 32 ≤ 140737488355328) (w : World)
    (hseq : ∀ n, 1 ≤ n → SeqGives Fence.wide n Tryz.prog g lb encP (fun xs => xs.Perm ks) ks.length w) :
    Calls Tryz.prog 86 #[.func (.func g) #[] lb, .func (.func 88) #[] #[]] w fun e w' => RowKit.Below w.heap.size w w' ∧ ((ks = [] ∧ e = .returned (.slice none 0 0)) ∨
      (ks ≠ [] ∧ ∃ blk cap, e = .returned (.slice (some ⟨blk, 0, none⟩) ks.length cap) ∧ ks.length ≤ cap ∧ w.heap.size ≤ blk ∧ RowAt w' blk (encL (sortP ks)))) := by
  have eg34 : ∀ args w, (callFunc 88 args).run Tryz.prog w = .ok (.enter 88 args) w := enters_of Tryz.func88 (by kernel_rfl) rfl
  have hmax : ks.length ≤ maxLen := by unfold maxLen; omega
  have hcol := (collect 5 (by omega) g lb eg (fun xs => xs.Perm ks) ks.length hmax hN w (hseq _ (by omega)))
  have hcol := callsIn_wide.1 hcol
  have hnone := fun (p : Option Addr) cap W => AnyF.slices_SortFunc_none Tryz.sortPl p cap (.func (.func 88) #[] #[]) W
  change ∀ p cap W, Calls Tryz.prog 136 _ _ _ at hnone
  have hsort := fun (blk cap : Nat) (d : List (List UInt8 × List UInt8)) (W : World) hH hblk hsz => AnyQ.slices_SortFunc_total Tryz.sortPl 2 Tryz.isAgg107 Tryz.sizeOf107 encC (fun _ => rfl) (fun x v hv => by simp [encC] at hv; rcases hv with rfl | rfl <;> rfl) cfP swoP 88 #[] blk 0 cap d.toArray W eg34 (cmpLays blk 0 _ W) hH hblk hsz
    (fun x y h1 h2 => by rw [ltOf_cfP] at h1 h2; exact ltP_total h1 h2)
  change ∀ blk cap d W, _ → _ → _ → Calls Tryz.prog 136 _ _ _ at hsort
  have hlen : ∀ ss : List (List UInt8 × List UInt8), ss.Perm ks → ss.length = ks.length := fun ss h => h.length_eq
  have hs2 : ∀ (v : Value) (ss : List (List UInt8 × List UInt8)) (w1 : World), ss.Perm ks → w1.ownsRow w.heap.size 107 2 v ss.length (encL ss) → (v = Value.slice none 0 0 ↔ ss = []) → RowKit.Below w.heap.size w w1 →
      Calls Tryz.prog 136 #[v, .func (.func 88) #[] #[]] w1 fun e w' => e = .returned (.tuple #[]) ∧ RowKit.Below w.heap.size w w' ∧ ((ks = [] ∧ v = .slice none 0 0) ∨
        (ks ≠ [] ∧ ∃ blk cap, v = .slice (some ⟨blk, 0, none⟩) ks.length cap ∧ ks.length ≤ cap ∧ w.heap.size ≤ blk ∧ RowAt w' blk (encL (sortP ks)))) := by
    intro v ss w1 hS hrow hnil hb
    have hl := hlen ss hS
    rcases hrow.2 with ⟨rfl, h0⟩ | ⟨blk, cap, cur, rfl, h1, h2, h3, h4, h5, h6⟩
    · have hss := hnil.1 rfl
      subst hss
      have hk : ks = [] := List.length_eq_zero_iff.1 (by rw [← hl]; rfl)
      refine (hnone none 0 w1).mono ?_
      rintro e w' ⟨rfl, rfl⟩
      exact ⟨rfl, hb, .inl ⟨hk, rfl⟩⟩
    · have hss : ss ≠ [] := fun h => by have := hnil.2 h; cases this
      have hk : ks ≠ [] := fun h => hss (List.length_eq_zero_iff.1 (by rw [hl, h]; rfl))
      have hblk : blk < w1.heap.size := (Array.getElem?_eq_some_iff.1 h2).1
      have hH := holds_of_row h2 h6
      refine (hsort blk cap ss w1 hH hblk (by simp; omega)).mono ?_
      rintro e w' ⟨rfl, n, os, rfl⟩
      have hH2 := holdsK_sortWorldK_c encC 2 w1 blk 0 ss.toArray (ss.mergeSort fun x y => !ltOf cfP y x).toArray n os hH hblk (by simp)
      refine ⟨rfl, ?_, .inr ⟨hk, blk, cap, by rw [← hl], by omega, h1, ?_⟩⟩
      · refine hb.trans ?_
        have hsz := size_sortWorldK_c encC 2 w1 blk 0 n (ss.mergeSort fun x y => !ltOf cfP y x).toArray os
        refine ⟨rfl, rfl, rfl, hsz, fun k hk => ?_⟩
        have h7 := hb.size
        show ((mapBlock (Sort.ahead w1 n) blk _).heap ++ os)[k]? = _
        rw [Array.getElem?_append_left (by rw [show (mapBlock (Sort.ahead w1 n) blk _).heap.size = w1.heap.size from Array.size_modify ..]; omega)]
        show (w1.heap.modify blk _)[k]? = _
        rw [Array.getElem?_modify, if_neg (by omega)]
      · rw [← sortP_congr hS]
        exact holds_rowAt hH2
  go_enter Tryz.func86, Tryz.ntmps86
  go_wp2_with (first
    | (go_at_call 135; refine hcol.mono ?_; rintro e w1 ⟨v, ss, rfl, hS, hrow, hnil, hb⟩)
    | (go_at_call 136; refine (hs2 _ _ _ hS hrow hnil hb).mono ?_; rintro e w' ⟨rfl, hb2, hv⟩))
  go_ret
  refine ⟨hb2, ?_⟩
  rcases hv with ⟨h1, rfl⟩ | ⟨h1, blk, cap, rfl, h2⟩
  · exact .inl ⟨h1, rfl⟩
  · exact .inr ⟨h1, blk, cap, rfl, h2⟩

/-! ### in abstract values -/

/-- What was made behind its back, and is never written again, may be known. -/
theorem adopt {G : Ghost} {σ : AS} {w w' : World} (h : WR G σ w) (ht : G.trk = false) (hb : RowKit.Below w.heap.size w w') {blk : Nat} (hblk : w.heap.size ≤ blk) {cs : List Value} (hr : RowAt w' blk cs) :
    G.le (G.addF blk cs) ∧ WR (G.addF blk cs) σ w' ∧ (G.addF blk cs).frz blk 0 cs := by
  have h' : WR G σ w' := h.world (hb.mono h.n0le) hb.block (fun hh => by rw [ht] at hh; cases hh)
  have hle : G.le (G.addF blk cs) := ⟨rfl, rfl, rfl, rfl, fun b o v e => by
    have := h.F_lt e
    simp only [Ghost.addF]; rw [if_neg (by omega)]; exact e, fun _ _ e => e, fun _ _ _ e => e⟩
  refine ⟨hle, ⟨h'.below, h'.drawn, h'.n0le, fun b o v ev => ?_, fun l x el => ?_, fun l l' x x' b el el' k k' => ?_, fun l x b el k => ?_, h.fin, h.nx⟩, frz_addF G blk cs⟩
  · by_cases hbb : b = blk
    · subst hbb
      simp only [Ghost.addF, if_true] at ev
      exact hr _ _ ev
    · simp only [Ghost.addF, hbb, if_false] at ev
      exact h'.frz _ _ _ ev
  · refine (h'.obj l x el).keep hle (fun _ => rfl) fun b hb => ⟨rfl, fun o => ?_⟩
    have := (h.own l x b el hb).2
    simp only [Ghost.addF]; rw [if_neg (by omega)]
  · rw [blk_keep (h.obj l x el) hle (fun _ => rfl)] at k
    rw [blk_keep (h.obj l' x' el') hle (fun _ => rfl)] at k'
    exact h.sep l l' x x' b el el' k k'
  · rw [blk_keep (h.obj l x el) hle (fun _ => rfl)] at k
    exact h'.own l x b el k

def plp (x : List UInt8 × List UInt8) : AV := plc x.1 x.2

theorem vrf_enc (G : Ghost) : ∀ d : List (List UInt8 × List UInt8), VRf G 2 (d.map plp) (encL d)
  | [] => by simp [VRf, encL]
  | x :: d => by
    simp only [List.map_cons, VRf]
    refine ⟨.agg (encC x).toArray, encL d, enc_vr G x, ⟨rfl, ?_⟩, rfl, vrf_enc G d⟩
    intro v hv
    simp [Value.cells, encC] at hv
    rcases hv with rfl | rfl <;> rfl

theorem ent_keys {G : Ghost} : ∀ {es : List (AV × AV)} {ms : List MapEntry} {ks : List (List UInt8 × List UInt8)}, EntR G es ms → es.map (·.1) = ks.map plp → ms.map (·.key) = ks.map encP
  | [], ms, ks, h, hk => by
    simp only [EntR] at h; subst h
    cases ks with
    | nil => rfl
    | cons _ _ => simp at hk
  | (k, v) :: es, ms, [], h, hk => by simp at hk
  | (k, v) :: es, ms, x :: ks, h, hk => by
    obtain ⟨m, ms', rfl, h1, h2, h3⟩ := h
    simp only [List.map_cons, List.cons.injEq] at hk
    obtain ⟨rfl, hk⟩ := hk
    simp only [List.map_cons]
    rw [ent_keys h3 hk]
    simp only [plp, plc, VR] at h1
    obtain ⟨vs, h4, h5, _⟩ := h1
    obtain ⟨v1, vs1, rfl, h6, h5⟩ := h5.cons_inv
    obtain ⟨v2, vs2, rfl, h7, h5⟩ := h5.cons_inv
    have := h5.nil_inv
    subst this
    simp only [VR] at h6 h7
    subst h6 h7
    rw [h4]; rfl

/-- slices.SortedFunc(maps.Keys(m), place.compare). -/
theorem sorted_c (γ : Ctx) (ht : γ.trk = false) (kf : Nat) (hkf : ∀ (n : Nat), 1 ≤ n → ∀ (Bm bo bm : Nat) (ms : Array MapEntry) (clk : Nat) (ks : List (List UInt8 × List UInt8)), ms.toList.map (·.key) = ks.map encP →
      (∀ e ∈ ms, e.born < clk) → (ms.toList.map (·.born)).Nodup → ∀ w : World, w.cell? ⟨Bm, bo, none⟩ = some (.map (some bm)) → w.heap[bm]? = some (.map ms clk) →
      SeqGives Fence.wide n Tryz.prog kf #[.pointer (some ⟨Bm, bo, none⟩)] encP (fun xs => xs.Perm ks) ks.length w)
    (ekf : ∀ args w, (callFunc kf args).run Tryz.prog w = .ok (.enter kf args) w)
    (l : Nat) (es : List (AV × AV)) (st : Stamps) (ks : List (List UInt8 × List UInt8)) (σ : AS) (hσ : σ l = some (.map es st)) (hk : es.map (·.1) = ks.map plp) (hst : ∀ b ∈ st.bs, b < st.clk) (hnd : st.bs.Nodup)
    (hN : ks.length * 32 ≤ 140737488355328) (R : AEnd → AS → Prop) (h : R (.ret (.slice ks.isEmpty 2 ((sortP ks).map plp) .unk)) σ) :
    ACall Tryz.prog γ 86 [.func (.func kf) [] [.iptr [.map l]], .func (.func 88) [] []] σ R := by
  intro G w vs hg hw hv
  obtain ⟨v1, vs1, rfl, h1, hv⟩ := hv.cons_inv
  obtain ⟨v2, vs2, rfl, h2, hv⟩ := hv.cons_inv
  have := hv.nil_inv
  subst this
  simp only [VR] at h1 h2
  obtain ⟨vf, vc, rfl, k1, k2⟩ := h1
  obtain ⟨uf, uc, rfl, k3, k4⟩ := h2
  have := k1.nil_inv; have := k3.nil_inv; have := k4.nil_inv
  subst_vars
  obtain ⟨p, ps, rfl, hp, k2⟩ := k2.cons_inv
  have := k2.nil_inv
  subst this
  simp only [VR] at hp
  obtain ⟨Bm, bo, cs, rfl, k5, k6, _⟩ := hp
  obtain ⟨mv, cs', rfl, hm, k5⟩ := k5.cons_inv
  have := k5.nil_inv
  subst this
  simp only [VR] at hm
  obtain ⟨bm, hbm, rfl⟩ := hm
  obtain ⟨bm', ms, hbm', hmap, hent, hborn⟩ := hw.obj l _ hσ
  rw [hbm] at hbm'; cases hbm'
  have hcell : w.cell? ⟨Bm, bo, none⟩ = some (.map (some bm)) := hw.frz _ _ _ (k6 0 _ rfl)
  have hkeys := ent_keys hent hk
  have hlt : ∀ e ∈ ms, e.born < st.clk := fun e he => hst _ (by rw [← hborn]; exact List.mem_map.2 ⟨e, by simpa using he, rfl⟩)
  have hnd' : (ms.toList.map (·.born)).Nodup := by rw [hborn]; exact hnd
  have hc := sortedF kf #[.pointer (some ⟨Bm, bo, none⟩)] ekf ks hN w (fun n hn => hkf n hn Bm bo bm ms st.clk ks hkeys hlt hnd' w hcell hmap)
  have eg32 : ∀ args w, (callFunc 86 args).run Tryz.prog w = .ok (.enter 86 args) w := enters_of Tryz.func86 (by kernel_rfl) rfl
  refine .inl ⟨eg32 _ _, hc.mono ?_⟩
  have htr : G.trk = false := hg.2.1 ▸ ht
  rintro e w' ⟨hb, ⟨hks, rfl⟩ | ⟨hks, blk, cap, rfl, hcap, hblk, hrow⟩⟩
  · subst hks
    refine ⟨G, .ret _, σ, .refl G, hw.world (hb.mono hw.n0le) hb.block (fun hh => by rw [htr] at hh; cases hh), ⟨_, rfl, ?_⟩, h⟩
    simp only [VR]
    have hs : sortP [] = [] := by simp [sortP]
    rw [hs]
    exact ⟨none, 0, [], rfl, rfl, Nat.le_refl _, by simp [VRf], rfl, rfl⟩
  · obtain ⟨a1, a2, a3⟩ := adopt hw htr hb hblk hrow
    refine ⟨_, .ret _, σ, a1, a2, ⟨_, rfl, ?_⟩, h⟩
    have hl : (sortP ks).length = ks.length := (sortP_perm ks).length_eq
    have hne : ks.isEmpty = false := by cases ks with
      | nil => exact absurd rfl hks
      | cons _ _ => rfl
    simp only [VR, List.length_map, hl, hne]
    exact ⟨some ⟨blk, 0, none⟩, cap, encL (sortP ks), rfl, rfl, hcap, vrf_enc _ _, fun _ => rfl, a3⟩
end Go.Proofs.Tryzv
