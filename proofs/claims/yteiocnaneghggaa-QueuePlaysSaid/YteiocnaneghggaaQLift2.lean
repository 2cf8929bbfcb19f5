import Derived.Test.YteiocnaneghggaaQLift
import Derived.Test.YteiocnaneghggaaQMg
namespace Go.Proofs.Yteiocnaneghggaa
open Go Go.RowKit Go.ChangeShapes Go.WideShapes Go.ChangeAt

theorem choose_list {α : Type} {Q : Nat → α → Prop} : ∀ (n : Nat), (∀ i, i < n → ∃ x, Q i x) → ∃ xs : List α, xs.length = n ∧ ∀ i x, xs[i]? = some x → Q i x
  | 0, _ => ⟨[], rfl, fun i x h => by simp at h⟩
  | n + 1, h => by
    obtain ⟨xs, hl, hx⟩ := choose_list n (fun i hi => h i (by omega))
    obtain ⟨y, hy⟩ := h n (by omega)
    refine ⟨xs ++ [y], by simp [hl], fun i x hi => ?_⟩
    rcases Nat.lt_or_ge i n with hlt | hge
    · rw [List.getElem?_append_left (by omega)] at hi
      exact hx i x hi
    · rw [List.getElem?_append_right (by omega), hl] at hi
      have : i = n := by
        have := (List.getElem?_eq_some_iff.1 hi).1
        simp at this
        omega
      subst this
      simp at hi
      subst hi
      exact hy

theorem addr_spot {w : World} {a : Addr} {v : Value} (h : w.cell? a = some v) : a = ⟨a.block, a.off, none⟩ := by
  obtain ⟨b, o, s⟩ := a
  unfold World.cell? at h
  split at h
  · split at h
    · cases h
    · rename_i hs; simp at hs; rw [hs]
  · cases h

/-- A slice that came in, as a list. -/
theorem slice_of {α H : Type} {enc : TypeId × Value → H} {ea : α → List Value} {size : Nat} {t e : TypeId} (hs : 0 < size) (ht : Try.prog.underlying t = some (.slice e)) (hce : Try.prog.cellsOf e = size) {W : World} {base : Nat} {spare : Nat → Bool} {held : Bool} {G : α → Prop}
    (hE : ∀ (cs : List Value) (fuel : Nat) (x : DataW H × List MemPlace), cs.length = size → DataW.trod enc Try.prog W base spare held fuel e cs = some x → ∃ X : α, ea X = cs ∧ G X)
    {v : Value} {fuel : Nat} {x : DataW H × List MemPlace} (hf : DataW.trod enc Try.prog W base spare held fuel t [v] = some x) : ∃ xs : List α, Rd ea size W W.heap.size v xs ∧ ∀ x ∈ xs, G x := by
  rcases Go.Deep.open_slice ht hf with ⟨hcs, _⟩ | ⟨a, n0, c0, m, n, D, Pl, hcs, hb, hlen, hmax, hm, _, hi⟩
  · simp at hcs
    subst hcs
    exact ⟨[], Rd.nil _ _ _ _, by simp⟩
  · simp at hcs
    subst hcs
    have hlm : n0 ≤ m := by rw [hm]; split <;> omega
    have hex : ∀ i, i < n0 → ∃ X : α, G X ∧ (ea X).length = size ∧ ∀ j u, (ea X)[j]? = some u → W.cell? ((a.add (i * size)).add j) = some u := by
      intro i hin
      obtain ⟨cs', hc, ht⟩ := hi i (by omega)
      rw [hce] at hc
      obtain ⟨_, hl3, hat⟩ := World.cells?_some hc
      obtain ⟨X, rfl, hG⟩ := hE cs' _ _ hl3 ht
      refine ⟨X, hG, hl3, fun j u hu => ?_⟩
      have hj : j < size := by rw [← hl3]; exact (List.getElem?_eq_some_iff.1 hu).1
      rw [hat j hj]
      exact hu
    obtain ⟨xs, hxl, hxs⟩ := choose_list n0 hex
    subst hxl
    refine ⟨xs, ⟨some a, c0, rfl, by simpa using hlen, hmax, fun hne => ?_⟩, fun x hx => ?_⟩
    · obtain ⟨x0, hx0⟩ := get_lt (show 0 < xs.length from List.length_pos_iff.2 hne)
      obtain ⟨u0, hu0⟩ := get_lt (show 0 < (ea x0).length by rw [(hxs 0 x0 hx0).2.1]; exact hs)
      have h00 := (hxs 0 x0 hx0).2.2 0 u0 hu0
      have hA : a = ⟨a.block, a.off, none⟩ := by
        have : (a.add (0 * size)).add 0 = a := by simp [Addr.add]
        rw [this] at h00
        exact addr_spot h00
      refine ⟨a.block, a.off, by rw [← hA], ?_, fun i x hx j u hu => ?_⟩
      · have := World.block_lt_of_cell? _ _ h00
        simpa [Addr.add] using this
      · have := (hxs i x hx).2.2 j u hu
        rw [hA, Addr.add_lit, Addr.add_lit] at this
        exact this
    · obtain ⟨i, hi2⟩ := List.mem_iff_getElem?.1 hx
      exact (hxs i x hi2).1

theorem cells3 : Try.prog.cellsOf 3 = 1 := by kernel_rfl
theorem cells31 : Try.prog.cellsOf 31 = 1 := by kernel_rfl
section
variable {H : Type} {enc : TypeId × Value → H} {W : World} {base : Nat} {spare : Nat → Bool} {held : Bool} {v : Value}
theorem ints_of1 {fuel : Nat} {x : DataW H × List MemPlace} (hf : DataW.trod enc Try.prog W base spare held fuel 31 [v] = some x) : ∃ xs : List Int, Rd encI 1 W W.heap.size v xs := by
  obtain ⟨xs, h, _⟩ := slice_of (ea := encI) (G := fun _ => True) (by omega) Try.underlying31 cells3 (fun cs fuel x hl hx => by
    match cs, hl with
    | [u], _ =>
      obtain ⟨i, e0, _, _⟩ := DataW.trod_int Try.underlying3 hx
      simp at e0
      subst e0
      exact ⟨i, rfl, trivial⟩) hf
  exact ⟨xs, h⟩
set_option maxRecDepth 100000 in
theorem slice_val {t e : TypeId} {b0 : Nat} (ht : Try.prog.underlying t = some (.slice e)) (hval : Value.okWide Try.prog W .any b0 t v) {d : DataW H} {ps : List MemPlace} (h : DataW.Trod enc Try.prog W base spare held t v d ps) : ∃ fuel x, DataW.trod enc Try.prog W base spare held fuel t [v] = some x := by
  obtain ⟨A, n0, c0, rfl⟩ := okWide_slice ht hval
  obtain ⟨fuel, hf⟩ := h
  exact ⟨fuel, _, hf⟩
set_option maxRecDepth 100000 in
theorem ints_of {d : DataW H} {ps : List MemPlace} {b0 : Nat} (hval : Value.okWide Try.prog W .any b0 31 v) (h : DataW.Trod enc Try.prog W base spare held 31 v d ps) : ∃ xs : List Int, Rd encI 1 W W.heap.size v xs := by
  obtain ⟨fuel, x, hf⟩ := slice_val Try.underlying31 hval h
  exact ints_of1 hf
def encL (p : Value × List Int) : List Value := [p.1]
set_option maxRecDepth 100000 in
theorem lists_of {d : DataW H} {ps : List MemPlace} {b0 : Nat} (hval : Value.okWide Try.prog W .any b0 49 v) (h : DataW.Trod enc Try.prog W base spare held 49 v d ps) : ∃ lss : List (List Int), RdLI W W.heap.size v lss := by
  obtain ⟨fuel, x, hf⟩ := slice_val Try.underlying49 hval h
  obtain ⟨xs, hr, hG⟩ := slice_of (ea := encL) (G := fun p => Rd encI 1 W W.heap.size p.1 p.2) (by omega) Try.underlying49 cells31 (fun cs fuel x hl hx => by
    match cs, hl with
    | [u], _ =>
      obtain ⟨l, hl⟩ := ints_of1 hx
      exact ⟨(u, l), rfl, hl⟩) hf
  obtain ⟨A, cap, rfl, h1, h2, h3⟩ := hr
  refine ⟨xs.map Prod.snd, xs.map Prod.fst, ⟨A, cap, by simp, by simpa using h1, h2, fun hne => ?_⟩, by simp, fun i u l hu hl => ?_⟩
  · obtain ⟨b, off, hA, hb, hc⟩ := h3 (fun e => hne (by rw [e]; rfl))
    refine ⟨b, off, hA, hb, fun i u hu j y hy => ?_⟩
    rw [List.getElem?_map] at hu
    obtain ⟨p, hp, rfl⟩ := Option.map_eq_some_iff.1 hu
    exact hc i p hp j y hy
  · rw [List.getElem?_map] at hu hl
    obtain ⟨p, hp, rfl⟩ := Option.map_eq_some_iff.1 hu
    rw [hp] at hl
    simp at hl
    subst hl
    exact hG p (List.mem_of_getElem? hp)
/-- calls: what is asked, and a rank -/
structure OpC where
  ask : Int
  rank : Int
def encO (o : OpC) : List Value := [.int .i64 o.ask, .int .i64 o.rank]
end
end Go.Proofs.Yteiocnaneghggaa
