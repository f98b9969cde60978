import Derived.Test.YtbmnhnohahacaaaDoorVsK2
import Derived.Test.YtbmnhnohahacaaaDoorVsS3
namespace Go.Proofs.Trydv
open Go.RowKit Go.VS
set_option maxRecDepth 100000
set_option linter.unusedSimpArgs false
set_option linter.unusedVariables false

def insP (x : List UInt8 × List UInt8) : List (List UInt8 × List UInt8) → List (List UInt8 × List UInt8)
  | [] => [x]
  | y :: ys => if ltP x y = true then x :: y :: ys else y :: insP x ys
def isortP : List (List UInt8 × List UInt8) → List (List UInt8 × List UInt8)
  | [] => []
  | x :: xs => insP x (isortP xs)
theorem insP_perm (x : List UInt8 × List UInt8) : ∀ l, (insP x l).Perm (x :: l)
  | [] => .refl _
  | y :: ys => by
    simp only [insP]
    split
    · exact .refl _
    · exact ((insP_perm x ys).cons y).trans (List.Perm.swap x y ys)
theorem isortP_perm : ∀ l, (isortP l).Perm l
  | [] => .refl _
  | x :: xs => (insP_perm x _).trans ((isortP_perm xs).cons x)
theorem insP_sorted (x : List UInt8 × List UInt8) : ∀ l, l.Pairwise (fun x y => ltP y x = false) → (insP x l).Pairwise fun x y => ltP y x = false
  | [], _ => by simp [insP]
  | y :: ys, h => by
    obtain ⟨h1, h2⟩ := List.pairwise_cons.1 h
    simp only [insP]
    split
    · rename_i hx
      refine List.pairwise_cons.2 ⟨fun z hz => ?_, h⟩
      rw [Bool.eq_false_iff]
      intro hzx
      rcases List.mem_cons.1 hz with rfl | hz
      · have := ltP_trans hx hzx; rw [ltP_irrefl] at this; cases this
      · have := ltP_trans hzx hx; rw [h1 z hz] at this; cases this
    · rename_i hx
      refine List.pairwise_cons.2 ⟨fun z hz => ?_, insP_sorted x ys h2⟩
      rcases List.mem_cons.1 ((insP_perm x ys).mem_iff.1 hz) with rfl | hz
      · simpa using hx
      · exact h1 z hz
theorem isortP_sorted : ∀ l, (isortP l).Pairwise fun x y => ltP y x = false
  | [] => by simp [isortP]
  | x :: xs => insP_sorted x _ (isortP_sorted xs)
theorem isortP_eq (l : List (List UInt8 × List UInt8)) : isortP l = sortP l :=
  List.Perm.eq_of_pairwise (le := fun x y => ltP y x = false) (fun x y _ _ h1 h2 => ltP_total h2 h1) (isortP_sorted l) (sortP_sorted l) ((isortP_perm l).trans (sortP_perm l).symm)

def plOf : AV → Option (List UInt8 × List UInt8)
  | .agg [.str a, .str b] => some (a, b)
  | _ => none
def keysOf : List (AV × AV) → Option (List (List UInt8 × List UInt8))
  | [] => some []
  | e :: es => match plOf e.1, keysOf es with
    | some x, some xs => some (x :: xs)
    | _, _ => none
theorem plOf_eq {a : AV} {x : List UInt8 × List UInt8} (h : plOf a = some x) : a = plp x := by
  unfold plOf at h
  split at h
  · simp only [Option.some.injEq] at h; subst h; rfl
  · cases h
theorem keysOf_eq : ∀ {es : List (AV × AV)} {ks : List (List UInt8 × List UInt8)}, keysOf es = some ks → es.map (·.1) = ks.map plp
  | [], ks, h => by simp only [keysOf, Option.some.injEq] at h; subst h; rfl
  | e :: es, ks, h => by
    simp only [keysOf] at h
    split at h
    · rename_i x xs h1 h2
      simp only [Option.some.injEq] at h; subst h
      simp only [List.map_cons, plOf_eq h1, keysOf_eq h2]
    · cases h
def nodupB : List Nat → Bool
  | [] => true
  | x :: xs => !xs.contains x && nodupB xs
theorem nodupB_ok : ∀ {l : List Nat}, nodupB l = true → l.Nodup
  | [], _ => .nil
  | x :: xs, h => by
    simp only [nodupB, Bool.and_eq_true, Bool.not_eq_true', ] at h
    refine List.nodup_cons.2 ⟨fun hm => ?_, nodupB_ok h.2⟩
    have := h.1
    simp [hm] at this

def primD : Prim := fun f args s => match args with
  | [.func (.func kf) [] [.iptr [.map l]], .func (.func cf) [] []] =>
    if f = 32 ∧ cf = 34 ∧ (kf = 51 ∨ kf = 54) then match s.at l with
      | some (.map es st) => match keysOf es with
        | some ks => if st.bs.all (fun b => Nat.blt b st.clk) = true ∧ nodupB st.bs = true ∧ ks.length * 32 ≤ 140737488355328 then some (.ret (.slice ks.isEmpty 2 ((isortP ks).map plp) .unk), s) else none
        | none => none
      | _ => none
    else none
  | _ => none
def tblF : List (Option IFn) := [none, none, some i2, some i3, some i4, some i5, some i6, some i7, some i8, some i9, some i10, some i11, some i12, some i13, some i14, some i15, some i16, some i17, some i18, some i19, some i20, some i21, some i22, some i23, some i24, some i25, some i26, some i27, some i28, some i29, some i30, some i31, some i32, some i33, some i34, some i35, some i36, some i37, some i38, some i39, some i40, some i41, some i42, some i43, some i44, some i45, some i46, some i47, some i48, some i49, some i50, some i51, some i52, some i53, some i54, none, some i56, some i57, some i58, some i59, some i60, some i61, some i62, some i63, none, some i65, some i66, some i67, some i68, some i69, some i70, some i71, some i72, some i73, some i74, some i75, some i76, some i77, some i78, some i79, some i80, some i81, some i82, some i83, some i84, some i85, some i86, some i87, some i88, some i89, some i90, some i91, some i92]
theorem tblF_ok : TbOkF Tryd.prog 0 tblF := ⟨⟨_, _, i2_is⟩, ⟨⟨_, _, i3_is⟩, ⟨⟨_, _, i4_is⟩, ⟨⟨_, _, i5_is⟩, ⟨⟨_, _, i6_is⟩, ⟨⟨_, _, i7_is⟩, ⟨⟨_, _, i8_is⟩, ⟨⟨_, _, i9_is⟩, ⟨⟨_, _, i10_is⟩, ⟨⟨_, _, i11_is⟩, ⟨⟨_, _, i12_is⟩, ⟨⟨_, _, i13_is⟩, ⟨⟨_, _, i14_is⟩, ⟨⟨_, _, i15_is⟩, ⟨⟨_, _, i16_is⟩, ⟨⟨_, _, i17_is⟩, ⟨⟨_, _, i18_is⟩, ⟨⟨_, _, i19_is⟩, ⟨⟨_, _, i20_is⟩, ⟨⟨_, _, i21_is⟩, ⟨⟨_, _, i22_is⟩, ⟨⟨_, _, i23_is⟩, ⟨⟨_, _, i24_is⟩, ⟨⟨_, _, i25_is⟩, ⟨⟨_, _, i26_is⟩, ⟨⟨_, _, i27_is⟩, ⟨⟨_, _, i28_is⟩, ⟨⟨_, _, i29_is⟩, ⟨⟨_, _, i30_is⟩, ⟨⟨_, _, i31_is⟩, ⟨⟨_, _, i32_is⟩, ⟨⟨_, _, i33_is⟩, ⟨⟨_, _, i34_is⟩, ⟨⟨_, _, i35_is⟩, ⟨⟨_, _, i36_is⟩, ⟨⟨_, _, i37_is⟩, ⟨⟨_, _, i38_is⟩, ⟨⟨_, _, i39_is⟩, ⟨⟨_, _, i40_is⟩, ⟨⟨_, _, i41_is⟩, ⟨⟨_, _, i42_is⟩, ⟨⟨_, _, i43_is⟩, ⟨⟨_, _, i44_is⟩, ⟨⟨_, _, i45_is⟩, ⟨⟨_, _, i46_is⟩, ⟨⟨_, _, i47_is⟩, ⟨⟨_, _, i48_is⟩, ⟨⟨_, _, i49_is⟩, ⟨⟨_, _, i50_is⟩, ⟨⟨_, _, i51_is⟩, ⟨⟨_, _, i52_is⟩, ⟨⟨_, _, i53_is⟩, ⟨⟨_, _, i54_is⟩, ⟨⟨_, _, i56_is⟩, ⟨⟨_, _, i57_is⟩, ⟨⟨_, _, i58_is⟩, ⟨⟨_, _, i59_is⟩, ⟨⟨_, _, i60_is⟩, ⟨⟨_, _, i61_is⟩, ⟨⟨_, _, i62_is⟩, ⟨⟨_, _, i63_is⟩, ⟨⟨_, _, i65_is⟩, ⟨⟨_, _, i66_is⟩, ⟨⟨_, _, i67_is⟩, ⟨⟨_, _, i68_is⟩, ⟨⟨_, _, i69_is⟩, ⟨⟨_, _, i70_is⟩, ⟨⟨_, _, i71_is⟩, ⟨⟨_, _, i72_is⟩, ⟨⟨_, _, i73_is⟩, ⟨⟨_, _, i74_is⟩, ⟨⟨_, _, i75_is⟩, ⟨⟨_, _, i76_is⟩, ⟨⟨_, _, i77_is⟩, ⟨⟨_, _, i78_is⟩, ⟨⟨_, _, i79_is⟩, ⟨⟨_, _, i80_is⟩, ⟨⟨_, _, i81_is⟩, ⟨⟨_, _, i82_is⟩, ⟨⟨_, _, i83_is⟩, ⟨⟨_, _, i84_is⟩, ⟨⟨_, _, i85_is⟩, ⟨⟨_, _, i86_is⟩, ⟨⟨_, _, i87_is⟩, ⟨⟨_, _, i88_is⟩, ⟨⟨_, _, i89_is⟩, ⟨⟨_, _, i90_is⟩, ⟨⟨_, _, i91_is⟩, ⟨⟨_, _, i92_is⟩, ⟨⟩⟩⟩⟩⟩⟩⟩⟩⟩⟩⟩⟩⟩⟩⟩⟩⟩⟩⟩⟩⟩⟩⟩⟩⟩⟩⟩⟩⟩⟩⟩⟩⟩⟩⟩⟩⟩⟩⟩⟩⟩⟩⟩⟩⟩⟩⟩⟩⟩⟩⟩⟩⟩⟩⟩⟩⟩⟩⟩⟩⟩⟩⟩⟩⟩⟩⟩⟩⟩⟩⟩⟩⟩⟩⟩⟩⟩⟩⟩⟩⟩⟩⟩⟩⟩⟩⟩⟩⟩⟩
end Go.Proofs.Trydv
