import Derived.Test.YtgkmmlffnfpjaaaDoorULift
namespace Go.Proofs.YtgkmmlffnfpjaaaDoor
open Go Go.RowKit Go.Lib Go.ChangeShapes Go.WideShapes Go.ChangeAt

section
variable {H : Type} {enc : TypeId × Value → H} {W : World} {base : Nat} {spare : Nat → Bool} {held : Bool} {v : Value}
set_option maxRecDepth 100000 in
theorem runes32_of {d : DataW H} {ps : List MemPlace} {b0 : Nat} (hval : Value.okWide Tryd.prog W .any b0 22 v) (h : DataW.Trod enc Tryd.prog W base spare held 22 v d ps) : ∃ xs : List Int, Rd encR 1 W W.heap.size v xs ∧ ∀ r ∈ xs, -2147483648 ≤ r ∧ r ≤ 2147483647 := by
  obtain ⟨fuel, x, hf⟩ := slice_val Tryd.underlying22 hval h
  exact slice_of (ea := encR) (G := fun r => -2147483648 ≤ r ∧ r ≤ 2147483647) (by omega) Tryd.underlying22 c21 (fun cs fuel x hl hx => by
    match cs, hl with
    | [u], _ =>
      obtain ⟨i, e0, _, hw⟩ := DataW.trod_int Tryd.underlying21 hx
      simp at e0
      subst e0
      exact ⟨i, rfl, by simpa [Lit.wf, IntKind.min, IntKind.max, IntKind.signed, IntKind.bits] using hw⟩) hf
end
end Go.Proofs.YtgkmmlffnfpjaaaDoor
