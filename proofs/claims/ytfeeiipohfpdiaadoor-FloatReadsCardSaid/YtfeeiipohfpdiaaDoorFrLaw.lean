/- FloatReads: the walk of the law. -/
import Derived.Test.YtfeeiipohfpdiaaDoorRef8
namespace Go.Proofs.YtfeeiipohfpdiaaDoor
set_option linter.unusedVariables false
set_option linter.unusedSimpArgs false
open Go.RowKit

set_option maxRecDepth 1000000 in
theorem floatReads_any (s : ByteArray) (w : World) (hs : s.size ≤ maxLen) :
    Calls Tryd.prog 3 #[.string s] w fun e w' => e = .returned (.bool true) ∧ Below w.heap.size w w' := by
  have h1 := fun w => floatRead_any s w hs
  have h2 := fun w => readFloat_any s w hs
  simp only [read_agree] at h1
  generalize readR s.data.toList = R at *
  obtain ⟨a, b⟩ := R
  unfold readVal at h1 h2
  simp only [] at h1 h2
  clear hs
  go_enter Tryd.func3, Tryd.ntmps3
  go_wp2_with fail
  refine (h1 _).mono ?_
  rintro e w1 ⟨rfl, hb1⟩
  go_wp2_with fail
  refine (h2 _).mono ?_
  rintro e w2 ⟨rfl, hb2⟩
  have hb3 := hb1.trans (hb2.mono hb1.size)
  go_wp2_with fail
  go_ret
  exact ⟨rfl, hb3⟩

end Go.Proofs.YtfeeiipohfpdiaaDoor
