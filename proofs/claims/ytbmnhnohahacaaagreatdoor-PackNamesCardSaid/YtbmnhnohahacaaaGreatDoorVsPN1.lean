/-
  SEAT GreatDoor: a closed run of a function, told of every world that lays the four tables.
-/
import Derived.Test.YtbmnhnohahacaaaGreatDoorVsPN0
import Derived.Test.YtbmnhnohahacaaaGreatDoorVsSortz
import Derived.Test.YtbmnhnohahacaaaGreatDoorVsCaught
namespace Go.Proofs.Tryzv
open Go.RowKit Go.VS
set_option maxRecDepth 100000
set_option linter.unusedSimpArgs false
set_option linter.unusedVariables false

/-- pack.caught, as an evaluator has it. -/
def pdZ : DPrim := fun f args u s => match args with
  | [.ptr l 0] => if f = 77 then match u with
    | .ret => some (.ret, s)
    | .pan (.iface t (.agg [.int .i64 x])) => if t = 204 ∧ s.n + 1 < DS.max then match s.at l with
      | some (.cells [_]) => some (.ret, ((s.new (.cells [.int .i64 0])).put s.n none).put l (some (.cells [.int .i64 x])))
      | _ => none
      else none
    | _ => none
    else none
  | _ => none

theorem pd_ok (γ : Ctx) (hd : γ.det = true) : PrDOk Tryz.prog γ pdZ := by
  intro f args u s r h R hR
  unfold pdZ at h
  split at h
  · rename_i l
    split at h
    · rename_i hf
      subst hf
      split at h
      · simp only [Option.some.injEq] at h; subst h
        exact caught_ret γ _ _ R hR
      · rename_i t x
        split at h
        · rename_i ht
          obtain ⟨rfl, hn⟩ := ht
          split at h
          · rename_i c hc
            simp only [Option.some.injEq] at h; subst h
            refine caught_pan γ l c x s.as hc R fun w hw => ?_
            have hwn : w = s.n := hw.2 hd
            subst hwn
            have hls : l < s.n := DS.lt hc
            have h1 : (s.new (.cells [.int .i64 0])).as = s.as.upd s.n (.cells [.int .i64 0]) := DS.as_new (by omega)
            have h2 : ((s.new (.cells [.int .i64 0])).put s.n none).as = (s.new (.cells [.int .i64 0])).as.del s.n := DS.as_del hn (Nat.lt_succ_self _)
            have h3 : (((s.new (.cells [.int .i64 0])).put s.n none).put l (some (.cells [.int .i64 x]))).as = ((s.new (.cells [.int .i64 0])).put s.n none).as.upd l (.cells [.int .i64 x]) := DS.as_put hn (Nat.lt_succ_of_lt hls)
            rw [h3, h2, h1] at hR
            exact hR
          · cases h
        · cases h
      · cases h
    · cases h
  · cases h

def isT : AEnd × DS → Bool
  | (.ret (.bool true), _) => true
  | _ => false
def allT (x : Option (List (AEnd × DS))) : Bool := match x with
  | some l => l.all isT
  | none => false

/-- The world lays the tables. -/
def Laid (w : World) : Prop := ∀ g, g < 4 → ∀ i v, (glV g)[i]? = some v → w.cell? ⟨g, i, none⟩ = some v

def GZ (w : World) (det : Bool) : Ghost := { n0 := w.heap.size, w0 := w, det := det, trk := false, F := fun b o => if b < 4 then (glV b)[o]? else none, ρ := fun _ => none, T := fun _ _ => none }
theorem wrZ {w : World} (hl : Laid w) (det : Bool) : WR (GZ w det) ⟨fun _ => none, 0⟩ w :=
  ⟨RowKit.Below.refl _ _, fun _ => Nat.le_refl _, Nat.le_refl _, (fun b o v h => by
    simp only [GZ] at h
    split at h
    · rename_i hb; exact hl b hb o v h
    · cases h), (fun _ _ h => by cases h), (fun _ _ _ _ _ h => by cases h), (fun _ _ _ h => by cases h), ⟨0, fun _ _ => ⟨rfl, fun _ => rfl⟩⟩, (fun _ => fun _ _ => ⟨rfl, fun _ => rfl⟩)⟩
theorem gokZ (w : World) (det : Bool) : GOK (γZ det) (GZ w det) := by
  refine ⟨rfl, rfl, fun g => ?_⟩
  simp only [γZ]
  split
  · rename_i hg
    simp only [VR]
    refine ⟨g, 0, glV g, rfl, ?_, fun i v hv => ?_, ?_⟩
    · match g, hg with
      | 0, _ => exact vrs_ints _ _ _
      | 1, _ => exact vrs_ints _ _ _
      | 2, _ => exact vrs_ints _ _ _
      | 3, _ => exact vrs_pairs _ _ _
    · simp only [GZ, hg, if_true, Nat.zero_add]; exact hv
    · match g, hg with
      | 0, _ => exact ones_ints _ _
      | 1, _ => exact ones_ints _ _
      | 2, _ => exact ones_ints _ _
      | 3, _ => exact ones_pairs _ _
  · simp [VR]

/-- A closed run, told: by the kernel's way. -/
theorem calls_of_run {tb : List (Option IFn)} {pr : Prim} {lf d : Nat} {f : FuncId} (htb : TbOkF Tryz.prog 0 tb) (hpr : PrOk Tryz.prog (γZ true) pr) (eg : ∀ args w, (callFunc f args).run Tryz.prog w = .ok (.enter f args) w)
    (h : allT (callT (γZ true) tb pr pdZ lf d f [] ⟨.nil, 0⟩) = true) (w : World) (hl : Laid w) : Calls Tryz.prog f #[] w fun e w' => e = .returned (.bool true) ∧ RowKit.Below w.heap.size w w' := by
  unfold allT at h
  split at h
  · rename_i l hcl
    have hc : ACall Tryz.prog (γZ true) f [] (⟨.nil, 0⟩ : DS).as fun r _ => r = .ret (.bool true) := by
      refine callT_ok (by kernel_rfl) rfl htb hpr (pd_ok _ rfl) d f [] ⟨.nil, 0⟩ l hcl _ fun x hx => ?_
      have hx := List.all_eq_true.1 h x hx
      unfold isT at hx
      split at hx
      · rfl
      · cases hx
    have h1 := hc (GZ w true) w [] (gokZ w true) (wrZ hl true) VRs.nil
    have h2 : Calls Tryz.prog f #[] w fun e w' => ∃ G' r σ', (GZ w true).le G' ∧ WR G' σ' w' ∧ ER G' r e ∧ r = .ret (.bool true) := by
      rcases h1 with ⟨_, h1⟩ | ⟨v, w', h1, _⟩
      · exact h1
      · rw [eg] at h1; cases h1
    refine h2.mono fun e w' ⟨G', r, σ', hle, hw, he, hr⟩ => ?_
    subst hr
    obtain ⟨v, rfl, hv⟩ := he
    simp only [VR] at hv
    have hb := hw.below
    rw [hle.n0, hle.w0] at hb
    exact ⟨by rw [hv], hb⟩
  · cases h
end Go.Proofs.Tryzv
