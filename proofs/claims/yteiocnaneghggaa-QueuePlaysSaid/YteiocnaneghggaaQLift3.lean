import Derived.Test.YteiocnaneghggaaQLift2
namespace Go.Proofs.Yteiocnaneghggaa
open Go Go.RowKit Go.ChangeShapes Go.WideShapes Go.ChangeAt

theorem cells45 : Try.prog.cellsOf 45 = 2 := by kernel_rfl
section
variable {H : Type} {enc : TypeId × Value → H} {W : World} {base : Nat} {spare : Nat → Bool} {held : Bool} {v : Value}
set_option maxRecDepth 100000 in
theorem ops_of {d : DataW H} {ps : List MemPlace} {b0 : Nat} (hval : Value.okWide Try.prog W .any b0 43 v) (h : DataW.Trod enc Try.prog W base spare held 43 v d ps) : ∃ xs : List OpC, Rd encO 2 W W.heap.size v xs := by
  obtain ⟨fuel, x, hf⟩ := slice_val Try.underlying43 hval h
  obtain ⟨xs, h, _⟩ := slice_of (ea := encO) (G := fun _ => True) (by omega) Try.underlying43 cells45 (fun cs fuel x hl hx => by
    match cs, hl with
    | [x0, x1], _ =>
      obtain ⟨ys, n', _, _, _, hysl, hfs⟩ := DataW.trod_struct Try.underlying45 hx
      have f0 : DataW.trod enc Try.prog W base spare held n' 3 (([x0, x1].drop 0).take (Try.prog.cellsOf 3)) = ys[0]? := hfs 0 _ rfl
      have f1 : DataW.trod enc Try.prog W base spare held n' 3 (([x0, x1].drop 1).take (Try.prog.cellsOf 3)) = ys[1]? := hfs 1 _ rfl
      have hys : ys.length = 2 := hysl
      rw [cells3] at f0 f1
      obtain ⟨q0, hq0⟩ := get_lt (show 0 < ys.length by omega)
      obtain ⟨q1, hq1⟩ := get_lt (show 1 < ys.length by omega)
      rw [hq0] at f0
      rw [hq1] at f1
      obtain ⟨a, e0, _, _⟩ := DataW.trod_int Try.underlying3 f0
      obtain ⟨b, e1, _, _⟩ := DataW.trod_int Try.underlying3 f1
      simp at e0 e1
      subst e0 e1
      exact ⟨⟨a, b⟩, rfl, trivial⟩) hf
  exact ⟨xs, h⟩
end
end Go.Proofs.Yteiocnaneghggaa
