/- The row's cell 'laid' says that the library's error variables hold errors. -/
import Derived.Test.YtagmokkjkmiblaaDoorRow
import Derived.Test.YtagmokkjkmiblaaDoorPvP
import Derived.Stop.LaidErr
namespace Go.Proofs.YtagmokkjkmiblaaDoor
open Go Go.RowKit Go.ChangeShapes
theorem starErr : "*" ++ "errors.errorString" = "*errors.errorString" := by decide
theorem rowErr (u : TypeId) (h : Tryd.prog.typeName? 3 u = some "*errors.errorString") : u = 173 :=
  typeName_ptr_named (nm := "errors.errorString") (by rw [starErr]; kernel_rfl) (by kernel_rfl) (by decide) u (by rw [starErr]; exact h)
theorem errCell {n : String} {g : Nat} {text : List UInt8} {r : List (String × DataW Unit)} {W : World} (h : laidMet Tryd.prog ((n, .iface "*errors.errorString" (.ptr (.agg [.lit (.string text)]))) :: r) W)
    (hg : Tryd.prog.globalNamed n = some g) (ht : (Tryd.prog.globals[g]?).map (·.type) = some 106) : ∃ (t : TypeId) (p : Value), W.cell? ⟨g, 0, none⟩ = some (.iface t p) := by
  obtain ⟨a, s, hv, _⟩ := laid_sentinel h hg ht Tryd.underlying106 rowErr Tryd.underlying173 Tryd.underlying175 rfl rfl Tryd.underlying9 (by kernel_rfl) (by kernel_rfl)
  exact ⟨_, _, by simpa using World.var?_cell hg hv 0⟩
theorem errL_pv {W : World} (h : laidMet Tryd.prog Rows.fnExactParseValueRow.laid W) : ErrL W :=
  ⟨errCell (laidMet.tail (laidMet.tail (laidMet.tail (laidMet.tail (laidMet.tail h))))) (by kernel_rfl) (by kernel_rfl), errCell (laidMet.tail (laidMet.tail (laidMet.tail (laidMet.tail h)))) (by kernel_rfl) (by kernel_rfl)⟩
end Go.Proofs.YtagmokkjkmiblaaDoor
