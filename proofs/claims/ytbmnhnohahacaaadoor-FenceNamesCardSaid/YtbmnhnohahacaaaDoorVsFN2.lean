import Derived.Test.YtbmnhnohahacaaaDoorVsFN1
namespace Go.Proofs.Trydv
open Go.RowKit Go.VS
set_option linter.unusedSimpArgs false
set_option linter.unusedVariables false

/-- Every run ends with true. -/
def isT : AEnd × DS → Bool
  | (.ret (.bool true), _) => true
  | _ => false
def allT (x : Option (List (AEnd × DS))) : Bool := match x with
  | some l => l.all isT
  | none => false

def GD (w : World) : Ghost := { n0 := w.heap.size, w0 := w, det := true, trk := false, F := fun _ _ => none, ρ := fun _ => none, T := fun _ _ => none }
theorem wrD (w : World) : WR (GD w) (⟨.nil, 0⟩ : DS).as w :=
  ⟨RowKit.Below.refl _ _, fun _ => Nat.le_refl _, Nat.le_refl _, (fun _ _ _ h => by cases h), (fun _ _ h => by cases h), (fun _ _ _ _ _ h => by cases h), (fun _ _ _ h => by cases h), ⟨0, fun _ _ => ⟨rfl, fun _ => rfl⟩⟩, (fun _ => fun _ _ => ⟨rfl, fun _ => rfl⟩)⟩
theorem gokD (w : World) : GOK γD (GD w) := ⟨rfl, rfl, fun g => by simp [γD, VR]⟩

/-- A closed run, told. -/
theorem calls_of_run {tb : List (Option IFn)} {lf d : Nat} {f : FuncId} (htb : TbOkF Tryd.prog 0 tb) (eg : ∀ args w, (callFunc f args).run Tryd.prog w = .ok (.enter f args) w)
    (h : allT (callT γD tb primD lf d f [] ⟨.nil, 0⟩) = true) (w : World) : Calls Tryd.prog f #[] w fun e w' => e = .returned (.bool true) ∧ RowKit.Below w.heap.size w w' := by
  unfold allT at h
  split at h
  · rename_i l hl
    have hc : ACall Tryd.prog γD f [] (⟨.nil, 0⟩ : DS).as fun r _ => r = .ret (.bool true) := by
      refine callT_ok (by kernel_rfl) rfl htb prim_ok d f [] ⟨.nil, 0⟩ l hl _ fun x hx => ?_
      have hx := List.all_eq_true.1 h x hx
      unfold isT at hx
      split at hx
      · rfl
      · cases hx
    have h1 := hc (GD w) w [] (gokD w) (wrD w) VRs.nil
    have h2 : Calls Tryd.prog f #[] w fun e w' => ∃ G' r σ', (GD w).le G' ∧ WR G' σ' w' ∧ ER G' r e ∧ r = .ret (.bool true) := by
      rcases h1 with ⟨_, h1⟩ | ⟨v, w', h1, _⟩
      · exact h1
      · rw [eg] at h1; cases h1
    refine h2.mono fun e w' ⟨G', r, σ', hle, hw, he, hr⟩ => ?_
    subst hr
    obtain ⟨v, rfl, hv⟩ := he
    simp only [VR] at hv
    have hb := hw.below
    rw [hle.n0, hle.w0] at hb
    exact ⟨by rw [hv], hb⟩
  · cases h
end Go.Proofs.Trydv
