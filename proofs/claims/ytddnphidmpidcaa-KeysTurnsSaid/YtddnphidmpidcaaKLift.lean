import Derived.Test.YtddnphidmpidcaaKW11
import Derived.Deep.Slices
import Derived.ProofKit
import Derived.OpenShut
import Derived.ChangeOld
namespace Go.Proofs.Ytddnphidmpidcaa
open Go Go.RowKit Go.ChangeShapes Go.WideShapes Go.ChangeAt

theorem choose_fun {α : Type} (d : α) {Q : Nat → α → Prop} (n : Nat) (h : ∀ i, i < n → ∃ x, Q i x) : ∃ f : Nat → α, ∀ i, i < n → Q i (f i) := by
  refine ⟨fun i => @dite _ (i < n) (Nat.decLt _ _) (fun hi => Classical.choose (h i hi)) (fun _ => d), fun i hi => ?_⟩
  simp only [dif_pos hi]
  exact Classical.choose_spec (h i hi)

theorem addr_spot {w : World} {a : Addr} {v : Value} (h : w.cell? a = some v) : a = ⟨a.block, a.off, none⟩ := by
  obtain ⟨b, o, s⟩ := a
  unfold World.cell? at h
  split at h
  · split at h
    · cases h
    · rename_i hs; simp at hs; rw [hs]
  · cases h

/-- A slice of entries that came in, as a list. -/
theorem ents_of1 {H : Type} {enc : TypeId × Value → H} {W : World} {base : Nat} {spare : Nat → Bool} {held : Bool} {v : Value} {fuel : Nat} {x : DataW H × List MemPlace}
    (hf : DataW.trod enc Try.prog W base spare held fuel 22 [v] = some x) : ∃ xs : List Ent, Rd Ent.enc 3 W W.heap.size v xs ∧ ∀ x ∈ xs, x.key.size ≤ maxLen := by
  rcases Go.Deep.open_slice Try.underlying22 hf with ⟨hcs, _⟩ | ⟨a, n0, c0, m, n, D, Pl, hcs, hb, hlen, hmax, hm, _, hi⟩
  · simp at hcs
    subst hcs
    exact ⟨[], Rd.nil _ _ _ _, by simp⟩
  · simp at hcs
    subst hcs
    have hlm : n0 ≤ m := by rw [hm]; split <;> omega
    have hex : ∀ i, i < n0 → ∃ X : Ent, X.key.size ≤ maxLen ∧ ∀ j u, (Ent.enc X)[j]? = some u → W.cell? ((a.add (i * 3)).add j) = some u := by
      intro i hin
      obtain ⟨cs', hc, ht⟩ := hi i (by omega)
      rw [cells27] at hc
      obtain ⟨ys, n', _, _, _, hysl, hfs⟩ := DataW.trod_struct Try.underlying27 ht
      obtain ⟨_, hl3, hat⟩ := World.cells?_some hc
      match cs', hl3 with
      | [x0, x1, x2], _ =>
        have f0 : DataW.trod enc Try.prog W base spare held n' 3 (([x0, x1, x2].drop 0).take (Try.prog.cellsOf 3)) = ys[0]? := hfs 0 _ rfl
        have f1 : DataW.trod enc Try.prog W base spare held n' 4 (([x0, x1, x2].drop 1).take (Try.prog.cellsOf 4)) = ys[1]? := hfs 1 _ rfl
        have f2 : DataW.trod enc Try.prog W base spare held n' 9 (([x0, x1, x2].drop 2).take (Try.prog.cellsOf 9)) = ys[2]? := hfs 2 _ rfl
        have hys : ys.length = 3 := hysl
        rw [cells3] at f0; rw [cells4] at f1; rw [cells9] at f2
        obtain ⟨q0, hq0⟩ : ∃ q, ys[0]? = some q := ⟨_, List.getElem?_eq_getElem (by omega)⟩
        obtain ⟨q1, hq1⟩ : ∃ q, ys[1]? = some q := ⟨_, List.getElem?_eq_getElem (by omega)⟩
        obtain ⟨q2, hq2⟩ : ∃ q, ys[2]? = some q := ⟨_, List.getElem?_eq_getElem (by omega)⟩
        rw [hq0] at f0
        rw [hq1] at f1
        rw [hq2] at f2
        obtain ⟨x, e0, _, _⟩ := DataW.trod_int Try.underlying3 f0
        obtain ⟨y, e1, _⟩ := DataW.trod_bool Try.underlying4 f1
        obtain ⟨z, e2, _, hz⟩ := DataW.trod_string Try.underlying9 f2
        simp at e0 e1 e2
        subst e0 e1 e2
        refine ⟨⟨x, y, z⟩, hz, fun j u hu => ?_⟩
        have hj : j < 3 := (List.getElem?_eq_some_iff.1 hu).1
        rw [hat j hj]
        exact hu
    obtain ⟨f, hfX⟩ := choose_fun (⟨0, false, ⟨#[]⟩⟩ : Ent) n0 hex
    have hget : ∀ i x, ((List.range n0).map f)[i]? = some x → i < n0 ∧ x = f i := by
      intro i x hx
      rw [List.getElem?_map] at hx
      have hin : i < n0 := by
        rcases Nat.lt_or_ge i n0 with h | h
        · exact h
        · rw [List.getElem?_eq_none (by simpa using h)] at hx; cases hx
      rw [List.getElem?_range hin] at hx
      simp at hx
      exact ⟨hin, hx.symm⟩
    refine ⟨(List.range n0).map f, ⟨some a, c0, by simp, by simpa using hlen, hmax, fun hne => ?_⟩, fun x hx => ?_⟩
    · have hpos : 0 < n0 := by
        rcases Nat.eq_zero_or_pos n0 with h | h
        · subst h; simp at hne
        · exact h
      have h00 := (hfX 0 hpos).2 0 _ rfl
      have hA : a = ⟨a.block, a.off, none⟩ := by
        have : (a.add (0 * 3)).add 0 = a := by simp [Addr.add]
        rw [this] at h00
        exact addr_spot h00
      refine ⟨a.block, a.off, by rw [← hA], ?_, fun i x hx j u hu => ?_⟩
      · have := World.block_lt_of_cell? _ _ h00
        simpa [Addr.add] using this
      · obtain ⟨hin, rfl⟩ := hget i x hx
        have := (hfX i hin).2 j u hu
        rw [hA, Addr.add_lit, Addr.add_lit] at this
        exact this
    · obtain ⟨i, hi2, rfl⟩ := List.mem_map.1 hx
      exact (hfX i (by simpa using hi2)).1
theorem ents_of {H : Type} {enc : TypeId × Value → H} {W : World} {base : Nat} {spare : Nat → Bool} {held : Bool} {v : Value} {d : DataW H} {ps : List MemPlace} {b0 : Nat}
    (hval : Value.okWide Try.prog W .any b0 22 v) (h : DataW.Trod enc Try.prog W base spare held 22 v d ps) : ∃ xs : List Ent, Rd Ent.enc 3 W W.heap.size v xs ∧ ∀ x ∈ xs, x.key.size ≤ maxLen := by
  obtain ⟨A, n0, c0, rfl⟩ := okWide_slice Try.underlying22 hval
  obtain ⟨fuel, hf⟩ := h
  exact ents_of1 hf

theorem cells22 : Try.prog.cellsOf 22 = 1 := by kernel_rfl
theorem cells41 : Try.prog.cellsOf 41 = 2 := by kernel_rfl
theorem cells23 : Try.prog.cellsOf 23 = 2 := by kernel_rfl
/-- Two slices of entries in an array. -/
theorem ents2_of {H : Type} {enc : TypeId × Value → H} {W : World} {base : Nat} {spare : Nat → Bool} {held : Bool} {v : Value} {d : DataW H} {ps : List MemPlace} {b0 : Nat}
    (hval : Value.okWide Try.prog W .any b0 41 v) (h : DataW.Trod enc Try.prog W base spare held 41 v d ps) : ∃ (va vb : Value) (xs zs : List Ent), v = .agg #[va, vb] ∧ Rd Ent.enc 3 W W.heap.size va xs ∧ Rd Ent.enc 3 W W.heap.size vb zs ∧ (∀ x ∈ xs, x.key.size ≤ maxLen) ∧ ∀ x ∈ zs, x.key.size ≤ maxLen := by
  simp only [Value.okWide, Try.underlying41] at hval
  obtain ⟨cs, rfl, hsz, _⟩ := hval
  rw [cells41] at hsz
  obtain ⟨l⟩ := cs
  match l, hsz with
  | [c0, c1], _ =>
    obtain ⟨fuel, hf⟩ := h
    obtain ⟨ys, m, _, _, _, hyl, hg⟩ := DataW.trod_array Try.underlying41 hf
    have g0 : DataW.trod enc Try.prog W base spare held m 22 (([c0, c1].drop (0 * Try.prog.cellsOf 22)).take (Try.prog.cellsOf 22)) = ys[0]? := hg 0 (by omega)
    have g1 : DataW.trod enc Try.prog W base spare held m 22 (([c0, c1].drop (1 * Try.prog.cellsOf 22)).take (Try.prog.cellsOf 22)) = ys[1]? := hg 1 (by omega)
    rw [cells22] at g0 g1
    obtain ⟨q0, hq0⟩ := get_lt (show 0 < ys.length by omega)
    obtain ⟨q1, hq1⟩ := get_lt (show 1 < ys.length by omega)
    rw [hq0] at g0
    rw [hq1] at g1
    obtain ⟨xs, hx, hkx⟩ := ents_of1 (v := c0) g0
    obtain ⟨zs, hz, hkz⟩ := ents_of1 (v := c1) g1
    exact ⟨c0, c1, xs, zs, rfl, hx, hz, hkx, hkz⟩
/-- Two ints in an array. -/
theorem ints2_of {H : Type} {enc : TypeId × Value → H} {W : World} {base : Nat} {spare : Nat → Bool} {held : Bool} {v : Value} {d : DataW H} {ps : List MemPlace} {b0 : Nat}
    (hval : Value.okWide Try.prog W .any b0 23 v) (h : DataW.Trod enc Try.prog W base spare held 23 v d ps) : ∃ (a b : Int), v = .agg #[.int .i64 a, .int .i64 b] ∧ (Lit.int .i64 a).wf = true ∧ (Lit.int .i64 b).wf = true := by
  simp only [Value.okWide, Try.underlying23] at hval
  obtain ⟨cs, rfl, hsz, _⟩ := hval
  rw [cells23] at hsz
  obtain ⟨l⟩ := cs
  match l, hsz with
  | [c0, c1], _ =>
    obtain ⟨fuel, hf⟩ := h
    obtain ⟨ys, m, _, _, _, hyl, hg⟩ := DataW.trod_array Try.underlying23 hf
    have g0 : DataW.trod enc Try.prog W base spare held m 3 (([c0, c1].drop (0 * Try.prog.cellsOf 3)).take (Try.prog.cellsOf 3)) = ys[0]? := hg 0 (by omega)
    have g1 : DataW.trod enc Try.prog W base spare held m 3 (([c0, c1].drop (1 * Try.prog.cellsOf 3)).take (Try.prog.cellsOf 3)) = ys[1]? := hg 1 (by omega)
    rw [cells3] at g0 g1
    obtain ⟨q0, hq0⟩ := get_lt (show 0 < ys.length by omega)
    obtain ⟨q1, hq1⟩ := get_lt (show 1 < ys.length by omega)
    rw [hq0] at g0
    rw [hq1] at g1
    obtain ⟨x, e0, _, w0⟩ := DataW.trod_int Try.underlying3 g0
    obtain ⟨y, e1, _, w1⟩ := DataW.trod_int Try.underlying3 g1
    simp at e0 e1
    subst e0 e1
    exact ⟨x, y, rfl, w0, w1⟩
end Go.Proofs.Ytddnphidmpidcaa
