import Derived.Test.YtbmnhnohahacaaaDoorVsFN0
import Derived.Test.YtbmnhnohahacaaaDoorVsS1b
namespace Go.Proofs.Trydv
open Go.RowKit Go.VS
set_option linter.unusedSimpArgs false
set_option linter.unusedVariables false
/-- No global is used; names in their row; draws are not counted. -/
def γD : Ctx := ⟨fun _ => .any, true, false⟩

theorem prim_ok : PrOk Tryd.prog γD primD := by
  intro f args s r h R hR
  unfold primD at h
  split at h
  · rename_i kf l cf
    split at h
    · rename_i hf
      obtain ⟨rfl, rfl, hkf⟩ := hf
      split at h
      · rename_i es st hat
        split at h
        · rename_i ks hks
          split at h
          · rename_i hc
            obtain ⟨h1, h2, h3⟩ := hc
            simp only [Option.some.injEq] at h; subst h
            rw [isortP_eq] at hR
            have hst : ∀ b ∈ st.bs, b < st.clk := fun b hb => by
              have := List.all_eq_true.1 h1 b hb
              simpa using this
            have hσ : s.as l = some (.map es st) := hat
            rcases hkf with rfl | rfl
            · exact sorted_c γD rfl 51 (fun n hn Bm bo bm ms clk ks hk hlt hnd w hb hm => keys1_gives n hn Bm bo bm ms clk ks hk hlt hnd w hb hm)
                (enters_of Tryd.func51 (by kernel_rfl) rfl) l es st ks s.as hσ (keysOf_eq hks) hst (nodupB_ok h2) h3 R hR
            · exact sorted_c γD rfl 54 (fun n hn Bm bo bm ms clk ks hk hlt hnd w hb hm => keys2_gives n hn Bm bo bm ms clk ks hk hlt hnd w hb hm)
                (enters_of Tryd.func54 (by kernel_rfl) rfl) l es st ks s.as hσ (keysOf_eq hks) hst (nodupB_ok h2) h3 R hR
          · cases h
        · cases h
      · cases h
    · cases h
  · cases h
end Go.Proofs.Trydv
