import Derived.Test.YtgkmmlffnfpjaaaDoorUW9
import Derived.Test.YtgkmmlffnfpjaaaDoorUJ
import Derived.Test.YtgkmmlffnfpjaaaDoorRows
import Derived.Test.YtgkmmlffnfpjaaaDoorCards
import Derived.Test.YtgkmmlffnfpjaaaDoorTie
import Derived.Deep.Slices
import Derived.ProofKit
import Derived.OpenShut
import Derived.ChangeOld
import Derived.Lib.LaidU8
import Derived.Lay
namespace Go.Proofs.YtgkmmlffnfpjaaaDoor
open Go Go.RowKit Go.Lib Go.ChangeShapes Go.WideShapes Go.ChangeAt

theorem laidOut : laidOutB Tryd.prog = true := by kernel_rfl
def laidL : List (String × DataW Unit) := [("unicode/utf8.acceptRanges", Rows.laid_unicode_utf8_acceptRanges), ("spyglass/utf.spans", Rows.laid_spyglass_utf_spans), ("unicode/utf8.first", Rows.laid_unicode_utf8_first)]
set_option maxRecDepth 100000 in
theorem first_eq : Rows.laid_unicode_utf8_first = firstData := by kernel_rfl
set_option maxRecDepth 100000 in
theorem acc_eq : (Rows.laid_unicode_utf8_acceptRanges : DataW Unit) = acceptData := by kernel_rfl
def spansData : DataW Unit := .agg (spansL.map fun p => .agg ([p.1, p.2].map fun z => .lit (.int .i32 z)))
theorem spans_eq : (Rows.laid_spyglass_utf_spans : DataW Unit) = spansData := by kernel_rfl
theorem nF : Tryd.prog.globalNamed "unicode/utf8.first" = some 1 := by kernel_rfl
theorem nA : Tryd.prog.globalNamed "unicode/utf8.acceptRanges" = some 2 := by kernel_rfl
theorem nS : Tryd.prog.globalNamed "spyglass/utf.spans" = some 0 := by kernel_rfl
theorem yF : (Tryd.prog.globals[1]?).map (·.type) = some 61 := by kernel_rfl
theorem yA : (Tryd.prog.globals[2]?).map (·.type) = some 64 := by kernel_rfl
theorem yS : (Tryd.prog.globals[0]?).map (·.type) = some 54 := by kernel_rfl
theorem c5 : Tryd.prog.cellsOf 5 = 1 := by kernel_rfl
theorem c21 : Tryd.prog.cellsOf 21 = 1 := by kernel_rfl
theorem c61 : Tryd.prog.cellsOf 61 = 256 := by kernel_rfl
theorem c63 : Tryd.prog.cellsOf 63 = 2 := by kernel_rfl
theorem c53 : Tryd.prog.cellsOf 53 = 2 := by kernel_rfl
theorem tabs_of {W : World} (hL : laidMet Tryd.prog laidL W) : Tabs W := by
  have h1 : VarReads Tryd.prog W "unicode/utf8.acceptRanges" acceptData := acc_eq ▸ laidMet.reads hL (.head _)
  have h0 : VarReads Tryd.prog W "spyglass/utf.spans" spansData := spans_eq ▸ laidMet.reads hL (.tail _ (.head _))
  have h2 : VarReads Tryd.prog W "unicode/utf8.first" firstData := first_eq ▸ laidMet.reads hL (.tail _ (.tail _ (.head _)))
  refine ⟨fun c hc => ?_, fun i hi => ?_, fun i p hp j u hu => ?_⟩
  · obtain ⟨g, t, cs, fuel, p, hg, hty, hvar, hd⟩ := h2
    obtain rfl := Option.some.inj (nF.symm.trans hg)
    obtain rfl := Option.some.inj (yF.symm.trans hty)
    have hcs := cells_of_tab Tryd.underlying61 Tryd.underlying5 c5 c61 hd
    have := World.var?_cell hg hvar c
    rw [this, ← Array.getElem?_toList, hcs]
    simp [firstTab, hc]
  · obtain ⟨g, t, cs, fuel, p, hg, hty, hvar, hd⟩ := h1
    obtain rfl := Option.some.inj (nA.symm.trans hg)
    obtain rfl := Option.some.inj (yA.symm.trans hty)
    obtain ⟨fuel', d, q, hdi, he⟩ := array_elem Tryd.underlying64 hd i hi
    simp only [List.getElem?_map, List.getElem?_range hi, Option.map_some, Option.some.injEq] at hdi
    subst hdi
    rw [c63] at he
    have hcs := ints_of_struct Tryd.underlying63 (fun j f hj => by
      match j, hj with
      | 0, hj => simp at hj; subst hj; exact ⟨Tryd.underlying5, rfl, c5⟩
      | 1, hj => simp at hj; subst hj; exact ⟨Tryd.underlying5, rfl, c5⟩
      | j + 2, hj => simp at hj) (by rw [c63]; rfl) he
    have e0 := congrArg (·[0]?) hcs
    have e1 := congrArg (·[1]?) hcs
    simp only [List.getElem?_take, List.getElem?_drop] at e0 e1
    constructor
    · rw [World.var?_cell hg hvar (2 * i), ← Array.getElem?_toList]
      simpa [Nat.mul_comm] using e0
    · rw [World.var?_cell hg hvar (2 * i + 1), ← Array.getElem?_toList]
      simpa [Nat.mul_comm] using e1
  · obtain ⟨g, t, cs, fuel, p', hg, hty, hvar, hd⟩ := h0
    obtain rfl := Option.some.inj (nS.symm.trans hg)
    obtain rfl := Option.some.inj (yS.symm.trans hty)
    have hi : i < 5 := (List.getElem?_eq_some_iff.1 hp).1
    obtain ⟨fuel', d, q, hdi, he⟩ := array_elem Tryd.underlying54 hd i hi
    rw [List.getElem?_map, hp, Option.map_some, Option.some.injEq] at hdi
    subst hdi
    rw [c53] at he
    have hcs := ints_of_struct Tryd.underlying53 (fun j f hj => by
      match j, hj with
      | 0, hj => simp at hj; subst hj; exact ⟨Tryd.underlying21, rfl, c21⟩
      | 1, hj => simp at hj; subst hj; exact ⟨Tryd.underlying21, rfl, c21⟩
      | j + 2, hj => simp at hj) (by rw [c53]; rfl) he
    have ej := congrArg (·[j]?) hcs
    have hj : j < 2 := by rw [← encP_len p]; exact (List.getElem?_eq_some_iff.1 hu).1
    rw [World.var?_cell hg hvar (i * 2 + j), ← Array.getElem?_toList]
    simp only [List.getElem?_take, List.getElem?_drop, if_pos hj] at ej
    rw [ej]
    exact hu

theorem choose_list {α : Type} {Q : Nat → α → Prop} : ∀ (n : Nat), (∀ i, i < n → ∃ x, Q i x) → ∃ xs : List α, xs.length = n ∧ ∀ i x, xs[i]? = some x → Q i x
  | 0, _ => ⟨[], rfl, fun i x h => by simp at h⟩
  | n + 1, h => by
    obtain ⟨xs, hl, hx⟩ := choose_list n (fun i hi => h i (by omega))
    obtain ⟨y, hy⟩ := h n (by omega)
    refine ⟨xs ++ [y], by simp [hl], fun i x hi => ?_⟩
    rcases Nat.lt_or_ge i n with hlt | hge
    · rw [List.getElem?_append_left (by omega)] at hi
      exact hx i x hi
    · rw [List.getElem?_append_right (by omega), hl] at hi
      have : i = n := by
        have := (List.getElem?_eq_some_iff.1 hi).1
        simp at this
        omega
      subst this
      simp at hi
      subst hi
      exact hy

theorem addr_spot {w : World} {a : Addr} {v : Value} (h : w.cell? a = some v) : a = ⟨a.block, a.off, none⟩ := by
  obtain ⟨b, o, s⟩ := a
  unfold World.cell? at h
  split at h
  · split at h
    · cases h
    · rename_i hs; simp at hs; rw [hs]
  · cases h

/-- A slice that came in, as a list. -/
theorem slice_of {α H : Type} {enc : TypeId × Value → H} {ea : α → List Value} {size : Nat} {t e : TypeId} (hs : 0 < size) (ht : Tryd.prog.underlying t = some (.slice e)) (hce : Tryd.prog.cellsOf e = size) {W : World} {base : Nat} {spare : Nat → Bool} {held : Bool} {G : α → Prop}
    (hE : ∀ (cs : List Value) (fuel : Nat) (x : DataW H × List MemPlace), cs.length = size → DataW.trod enc Tryd.prog W base spare held fuel e cs = some x → ∃ X : α, ea X = cs ∧ G X)
    {v : Value} {fuel : Nat} {x : DataW H × List MemPlace} (hf : DataW.trod enc Tryd.prog W base spare held fuel t [v] = some x) : ∃ xs : List α, Rd ea size W W.heap.size v xs ∧ ∀ x ∈ xs, G x := by
  rcases Go.Deep.open_slice ht hf with ⟨hcs, _⟩ | ⟨a, n0, c0, m, n, D, Pl, hcs, hb, hlen, hmax, hm, _, hi⟩
  · simp at hcs
    subst hcs
    exact ⟨[], Rd.nil _ _ _ _, by simp⟩
  · simp at hcs
    subst hcs
    have hlm : n0 ≤ m := by rw [hm]; split <;> omega
    have hex : ∀ i, i < n0 → ∃ X : α, G X ∧ (ea X).length = size ∧ ∀ j u, (ea X)[j]? = some u → W.cell? ((a.add (i * size)).add j) = some u := by
      intro i hin
      obtain ⟨cs', hc, ht⟩ := hi i (by omega)
      rw [hce] at hc
      obtain ⟨_, hl3, hat⟩ := World.cells?_some hc
      obtain ⟨X, rfl, hG⟩ := hE cs' _ _ hl3 ht
      refine ⟨X, hG, hl3, fun j u hu => ?_⟩
      have hj : j < size := by rw [← hl3]; exact (List.getElem?_eq_some_iff.1 hu).1
      rw [hat j hj]
      exact hu
    obtain ⟨xs, hxl, hxs⟩ := choose_list n0 hex
    subst hxl
    refine ⟨xs, ⟨some a, c0, rfl, by simpa using hlen, hmax, fun hne => ?_⟩, fun x hx => ?_⟩
    · obtain ⟨x0, hx0⟩ := get_lt (show 0 < xs.length from List.length_pos_iff.2 hne)
      obtain ⟨u0, hu0⟩ := get_lt (show 0 < (ea x0).length by rw [(hxs 0 x0 hx0).2.1]; exact hs)
      have h00 := (hxs 0 x0 hx0).2.2 0 u0 hu0
      have hA : a = ⟨a.block, a.off, none⟩ := by
        have : (a.add (0 * size)).add 0 = a := by simp [Addr.add]
        rw [this] at h00
        exact addr_spot h00
      refine ⟨a.block, a.off, by rw [← hA], ?_, fun i x hx j u hu => ?_⟩
      · have := World.block_lt_of_cell? _ _ h00
        simpa [Addr.add] using this
      · have := (hxs i x hx).2.2 j u hu
        rw [hA, Addr.add_lit, Addr.add_lit] at this
        exact this
    · obtain ⟨i, hi2⟩ := List.mem_iff_getElem?.1 hx
      exact (hxs i x hi2).1


section
variable {H : Type} {enc : TypeId × Value → H} {W : World} {base : Nat} {spare : Nat → Bool} {held : Bool} {v : Value}
set_option maxRecDepth 100000 in
theorem slice_val {t e : TypeId} {b0 : Nat} (ht : Tryd.prog.underlying t = some (.slice e)) (hval : Value.okWide Tryd.prog W .any b0 t v) {d : DataW H} {ps : List MemPlace} (h : DataW.Trod enc Tryd.prog W base spare held t v d ps) : ∃ fuel x, DataW.trod enc Tryd.prog W base spare held fuel t [v] = some x := by
  obtain ⟨A, n0, c0, rfl⟩ := okWide_slice ht hval
  obtain ⟨fuel, hf⟩ := h
  exact ⟨fuel, _, hf⟩
set_option maxRecDepth 100000 in
theorem bytes_of {d : DataW H} {ps : List MemPlace} {b0 : Nat} (hval : Value.okWide Tryd.prog W .any b0 24 v) (h : DataW.Trod enc Tryd.prog W base spare held 24 v d ps) : ∃ xs : List UInt8, Rd encU 1 W W.heap.size v xs := by
  obtain ⟨fuel, x, hf⟩ := slice_val Tryd.underlying24 hval h
  obtain ⟨xs, h, _⟩ := slice_of (ea := encU) (G := fun _ => True) (by omega) Tryd.underlying24 c5 (fun cs fuel x hl hx => by
    match cs, hl with
    | [u], _ =>
      obtain ⟨i, e0, _, hw⟩ := DataW.trod_int Tryd.underlying5 hx
      simp at e0
      subst e0
      have hi : 0 ≤ i ∧ i ≤ 255 := by simpa [Lit.wf, IntKind.min, IntKind.max, IntKind.signed, IntKind.bits] using hw
      refine ⟨UInt8.ofNat i.toNat, ?_, trivial⟩
      unfold encU
      rw [UInt8.toNat_ofNat', Nat.mod_eq_of_lt (by omega), Int.toNat_of_nonneg hi.1]) hf
  exact ⟨xs, h⟩
set_option maxRecDepth 100000 in
theorem runes_of {d : DataW H} {ps : List MemPlace} {b0 : Nat} (hval : Value.okWide Tryd.prog W .any b0 22 v) (h : DataW.Trod enc Tryd.prog W base spare held 22 v d ps) : ∃ xs : List Int, Rd encR 1 W W.heap.size v xs := by
  obtain ⟨fuel, x, hf⟩ := slice_val Tryd.underlying22 hval h
  obtain ⟨xs, h, _⟩ := slice_of (ea := encR) (G := fun _ => True) (by omega) Tryd.underlying22 c21 (fun cs fuel x hl hx => by
    match cs, hl with
    | [u], _ =>
      obtain ⟨i, e0, _, _⟩ := DataW.trod_int Tryd.underlying21 hx
      simp at e0
      subst e0
      exact ⟨i, rfl, trivial⟩) hf
  exact ⟨xs, h⟩
end
end Go.Proofs.YtgkmmlffnfpjaaaDoor
