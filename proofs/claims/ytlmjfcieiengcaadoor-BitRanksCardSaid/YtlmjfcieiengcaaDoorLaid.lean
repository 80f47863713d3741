/- The table of math/bits as a row lists it lies in its variable. No condition. -/
import Derived.Test.YtlmjfcieiengcaaDoorRows
import Derived.Test.YtlmjfcieiengcaaDoorTz
import Derived.Lib.LaidTab
namespace Go.Proofs.YtlmjfcieiengcaaDoor
open Go.RowKit
theorem gTab : Tryd.prog.globalNamed "math/bits.deBruijn64tab" = some 0 := by kernel_rfl
theorem tTab : (Tryd.prog.globals[0]?).map (·.type) = some 127 := by kernel_rfl
theorem laid_tab : (Rows.laid_math_bits_deBruijn64tab : DataW Unit) = Lib.tabData .u8 (Lib.deBruijn64tab.map fun (x : Nat) => (x : Int)) := by rfl
theorem tabOk_of_laid {W : World} {rest : List (String × DataW Unit)} (h : laidMet Tryd.prog (("math/bits.deBruijn64tab", Rows.laid_math_bits_deBruijn64tab) :: rest) W) : TabOk W := by
  rw [laid_tab] at h
  have ht := Lib.tabIs_of_head gTab tTab Tryd.underlying127 Tryd.underlying5 (by kernel_rfl) (by kernel_rfl) h
  refine ⟨fun j hj => ?_, ?_⟩
  · have := ht.cell gTab j (by simpa using hj)
    rw [this]
    simp [List.getD_eq_getElem?_getD, List.getElem?_eq_getElem hj]
  · have := ht.cell gTab 0 (by decide)
    apply Decidable.byContradiction
    intro hn
    rw [World.cell?, Array.getElem?_eq_none (by omega)] at this
    simp at this
end Go.Proofs.YtlmjfcieiengcaaDoor
