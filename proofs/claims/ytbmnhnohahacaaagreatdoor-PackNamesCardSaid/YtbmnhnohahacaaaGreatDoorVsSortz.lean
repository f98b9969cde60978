import Derived.Test.YtbmnhnohahacaaaGreatDoorVsK2
import Derived.Test.YtbmnhnohahacaaaGreatDoorVsS3z
import Derived.Test.YtbmnhnohahacaaaGreatDoorVsS1bz
namespace Go.Proofs.Tryzv
open Go.RowKit Go.VS
set_option maxRecDepth 100000
set_option linter.unusedSimpArgs false
set_option linter.unusedVariables false

def insP (x : List UInt8 × List UInt8) : List (List UInt8 × List UInt8) → List (List UInt8 × List UInt8)
  | [] => [x]
  | y :: ys => if ltP x y = true then x :: y :: ys else y :: insP x ys
def isortP : List (List UInt8 × List UInt8) → List (List UInt8 × List UInt8)
  | [] => []
  | x :: xs => insP x (isortP xs)
theorem insP_perm (x : List UInt8 × List UInt8) : ∀ l, (insP x l).Perm (x :: l)
  | [] => .refl _
  | y :: ys => by
    simp only [insP]
    split
    · exact .refl _
    · exact ((insP_perm x ys).cons y).trans (List.Perm.swap x y ys)
theorem isortP_perm : ∀ l, (isortP l).Perm l
  | [] => .refl _
  | x :: xs => (insP_perm x _).trans ((isortP_perm xs).cons x)
theorem insP_sorted (x : List UInt8 × List UInt8) : ∀ l, l.Pairwise (fun x y => ltP y x = false) → (insP x l).Pairwise fun x y => ltP y x = false
  | [], _ => by simp [insP]
  | y :: ys, h => by
    obtain ⟨h1, h2⟩ := List.pairwise_cons.1 h
    simp only [insP]
    split
    · rename_i hx
      refine List.pairwise_cons.2 ⟨fun z hz => ?_, h⟩
      rw [Bool.eq_false_iff]
      intro hzx
      rcases List.mem_cons.1 hz with rfl | hz
      · have := ltP_trans hx hzx; rw [ltP_irrefl] at this; cases this
      · have := ltP_trans hzx hx; rw [h1 z hz] at this; cases this
    · rename_i hx
      refine List.pairwise_cons.2 ⟨fun z hz => ?_, insP_sorted x ys h2⟩
      rcases List.mem_cons.1 ((insP_perm x ys).mem_iff.1 hz) with rfl | hz
      · simpa using hx
      · exact h1 z hz
theorem isortP_sorted : ∀ l, (isortP l).Pairwise fun x y => ltP y x = false
  | [] => by simp [isortP]
  | x :: xs => insP_sorted x _ (isortP_sorted xs)
theorem isortP_eq (l : List (List UInt8 × List UInt8)) : isortP l = sortP l :=
  List.Perm.eq_of_pairwise (le := fun x y => ltP y x = false) (fun x y _ _ h1 h2 => ltP_total h2 h1) (isortP_sorted l) (sortP_sorted l) ((isortP_perm l).trans (sortP_perm l).symm)

def plOf : AV → Option (List UInt8 × List UInt8)
  | .agg [.str a, .str b] => some (a, b)
  | _ => none
def keysOf : List (AV × AV) → Option (List (List UInt8 × List UInt8))
  | [] => some []
  | e :: es => match plOf e.1, keysOf es with
    | some x, some xs => some (x :: xs)
    | _, _ => none
theorem plOf_eq {a : AV} {x : List UInt8 × List UInt8} (h : plOf a = some x) : a = plp x := by
  unfold plOf at h
  split at h
  · simp only [Option.some.injEq] at h; subst h; rfl
  · cases h
theorem keysOf_eq : ∀ {es : List (AV × AV)} {ks : List (List UInt8 × List UInt8)}, keysOf es = some ks → es.map (·.1) = ks.map plp
  | [], ks, h => by simp only [keysOf, Option.some.injEq] at h; subst h; rfl
  | e :: es, ks, h => by
    simp only [keysOf] at h
    split at h
    · rename_i x xs h1 h2
      simp only [Option.some.injEq] at h; subst h
      simp only [List.map_cons, plOf_eq h1, keysOf_eq h2]
    · cases h
def nodupB : List Nat → Bool
  | [] => true
  | x :: xs => !xs.contains x && nodupB xs
theorem nodupB_ok : ∀ {l : List Nat}, nodupB l = true → l.Nodup
  | [], _ => .nil
  | x :: xs, h => by
    simp only [nodupB, Bool.and_eq_true, Bool.not_eq_true', ] at h
    refine List.nodup_cons.2 ⟨fun hm => ?_, nodupB_ok h.2⟩
    have := h.1
    simp [hm] at this

def primD : Prim := fun f args s => match args with
  | [.func (.func kf) [] [.iptr [.map l]], .func (.func cf) [] []] =>
    if f = 86 ∧ cf = 88 ∧ (kf = 137 ∨ kf = 149) then match s.at l with
      | some (.map es st) => match keysOf es with
        | some ks => if st.bs.all (fun b => Nat.blt b st.clk) = true ∧ nodupB st.bs = true ∧ ks.length * 32 ≤ 140737488355328 then some (.ret (.slice ks.isEmpty 2 ((isortP ks).map plp) .unk), s) else none
        | none => none
      | _ => none
    else none
  | _ => none
theorem prim_ok (γ : Ctx) (ht : γ.trk = false) : PrOk Tryz.prog γ primD := by
  intro f args s r h R hR
  unfold primD at h
  split at h
  · rename_i kf l cf
    split at h
    · rename_i hf
      obtain ⟨rfl, rfl, hkf⟩ := hf
      split at h
      · rename_i es st hat
        split at h
        · rename_i ks hks
          split at h
          · rename_i hc
            obtain ⟨h1, h2, h3⟩ := hc
            simp only [Option.some.injEq] at h; subst h
            rw [isortP_eq] at hR
            have hst : ∀ b ∈ st.bs, b < st.clk := fun b hb => by
              have := List.all_eq_true.1 h1 b hb
              simpa using this
            have hσ : s.as l = some (.map es st) := hat
            rcases hkf with rfl | rfl
            · exact sorted_c γ ht 137 (fun n hn Bm bo bm ms clk ks hk hlt hnd w hb hm => keys2_gives n hn Bm bo bm ms clk ks hk hlt hnd w hb hm)
                (enters_of Tryz.func137 (by kernel_rfl) rfl) l es st ks s.as hσ (keysOf_eq hks) hst (nodupB_ok h2) h3 R hR
            · exact sorted_c γ ht 149 (fun n hn Bm bo bm ms clk ks hk hlt hnd w hb hm => keys1_gives n hn Bm bo bm ms clk ks hk hlt hnd w hb hm)
                (enters_of Tryz.func149 (by kernel_rfl) rfl) l es st ks s.as hσ (keysOf_eq hks) hst (nodupB_ok h2) h3 R hR
          · cases h
        · cases h
      · cases h
    · cases h
  · cases h
end Go.Proofs.Tryzv
