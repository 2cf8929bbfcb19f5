/-
  A map's block by what a look-up at each key gives: the laws of look-up and store, at the run and at a step.
-/
import Derived.Test.YtddnphidmpidcaaWords
import Derived.Maps.Keyed
import Derived.Maps.Own
namespace Go.Proofs.Ytddnphidmpidcaa
open Go Go.RowKit
open Go.Maps (Keyed)
open Go.ChangeMaps (setBlock heap_setBlock_same heap_setBlock_other modify_eq_set)

/-- Block M of w is a map; a look-up at 'key' gives 'f key' ('zero' where it is none of the map's). -/
def MapIs (P : Program) (k : TypeId) (w : World) (M : Nat) (zero : Value) (f : Value → Value) : Prop :=
  ∃ es clock, w.heap[M]? = some (.map es clock) ∧ (∀ x ∈ es.toList, (∃ l, keyOf P k x.key = some l) ∧ f x.key = x.val) ∧ es.toList.Pairwise (fun x y => x.key ≠ y.key) ∧ ∀ key, (∀ x ∈ es.toList, x.key ≠ key) → f key = zero

/-- 'f' turned at one key. -/
noncomputable def putAt (f : Value → Value) (key v : Value) : Value → Value := fun key' => @ite _ (key' = key) (Classical.propDecidable _) v (f key')
theorem putAt_same (f : Value → Value) (key v : Value) : putAt f key v key = v := by simp [putAt]
theorem putAt_other (f : Value → Value) {key key' : Value} (v : Value) (h : key' ≠ key) : putAt f key v key' = f key' := by simp [putAt, h]

section
variable {P : Program} {k : TypeId} {w w' : World} {M : Nat} {zero : Value} {f : Value → Value}

theorem MapIs.lt (h : MapIs P k w M zero f) : M < w.heap.size := by
  obtain ⟨es, clock, hb, _⟩ := h
  exact (Array.getElem?_eq_some_iff.1 hb).1

theorem MapIs.kept (h : MapIs P k w M zero f) {S : Nat → Prop} (hg : Only S w w') (hS : ¬ S M) : MapIs P k w' M zero f := by
  have hlt := h.lt
  obtain ⟨es, clock, hb, r⟩ := h
  exact ⟨es, clock, (hg.block M hlt hS).trans hb, r⟩
theorem MapIs.below {B : Nat} (h : MapIs P k w M zero f) (hg : Below B w w') (hM : M < B) : MapIs P k w' M zero f := by
  obtain ⟨es, clock, hb, r⟩ := h
  exact ⟨es, clock, (hg.block M hM).trans hb, r⟩

theorem MapIs.made (P : Program) (k : TypeId) (w : World) (zero : Value) : MapIs P k (w.alloc (.map #[] 0)) w.heap.size zero (fun _ => zero) :=
  ⟨#[], 0, (MapKept.heap_alloc w _).1, by simp, by simp, fun _ _ => rfl⟩

theorem MapIs.lookup (h : MapIs P k w M zero f) (K : Keyed P k) {t e : TypeId} (ht : P.underlying t = some (.map k e)) (hz : (zeroValue e).run P w = .ok zero w) {key : Value} {l : Lit} (hkey : keyOf P k key = some l) :
    (Instr.lookup t (.map (some M)) key false).run P w = .ok (f key) w := by
  obtain ⟨es, clock, hb, hk, _, hno⟩ := h
  rcases K.find w hkey es.toList (fun x hx => (hk x hx).1) with ⟨h1, h2⟩ | ⟨j, e0, h1, h2, h3⟩
  · rw [hno key h2]
    simp [Instr.lookup, run_underlying ht, MapKept.run_getObj_map hb, K.check w _ hkey, h1, hz, Result.andThen]
  · have hf : f key = e0.val := by rw [← h3]; exact (hk e0 (List.mem_of_getElem? h2)).2
    rw [hf]
    simp [Instr.lookup, run_underlying ht, MapKept.run_getObj_map hb, K.check w _ hkey, h1, Result.andThen]

theorem MapIs.update (h : MapIs P k w M zero f) (K : Keyed P k) {t e : TypeId} (ht : P.underlying t = some (.map k e)) {key : Value} {l : Lit} (hkey : keyOf P k key = some l) (v : Value) :
    ∃ w', (Instr.mapUpdate t (.map (some M)) key v).run P w = .ok () w' ∧ MapIs P k w' M zero (putAt f key v) ∧ Only (fun b => b = M) w w' ∧ w'.heap.size = w.heap.size := by
  obtain ⟨es, clock, hb, hk, hd, hno⟩ := h
  have hO : ∀ o : Obj, Only (fun b => b = M) w (setBlock w M o) := fun o => ⟨rfl, rfl, rfl, by simp [setBlock], fun i _ hi => heap_setBlock_other hb _ hi⟩
  rcases K.find w hkey es.toList (fun x hx => (hk x hx).1) with ⟨h1, h2⟩ | ⟨j, e0, h1, h2, h3⟩
  · refine ⟨setBlock w M (.map (es.push ⟨key, v, clock⟩) (clock + 1)), ?_, ⟨_, _, heap_setBlock_same hb _, ?_, ?_, ?_⟩, hO _, by simp [setBlock]⟩
    · simp [Instr.mapUpdate, run_underlying ht, MapKept.run_getObj_map hb, K.check w false hkey, h1, MapKept.run_setObj_map _ hb, Result.andThen, setBlock]
    · intro x hx
      simp only [Array.toList_push, List.mem_append, List.mem_singleton] at hx
      rcases hx with hx | rfl
      · exact ⟨(hk x hx).1, by rw [putAt_other _ _ (h2 x hx)]; exact (hk x hx).2⟩
      · exact ⟨⟨l, hkey⟩, putAt_same _ _ _⟩
    · rw [Array.toList_push, List.pairwise_append]
      refine ⟨hd, by simp, fun x hx y hy => ?_⟩
      simp only [List.mem_singleton] at hy
      subst hy
      exact h2 x hx
    · intro key' hn
      simp only [Array.toList_push, List.mem_append, List.mem_singleton] at hn
      rw [putAt_other _ _ (fun e1 => hn ⟨key, v, clock⟩ (Or.inr rfl) e1.symm)]
      exact hno key' (fun x hx => hn x (Or.inl hx))
  · have hj : es[j]? = some e0 := by simpa using h2
    have hjl : j < es.toList.length := (List.getElem?_eq_some_iff.1 h2).1
    have hlist : (es.modify j (fun e' => { e' with key := key, val := v })).toList = es.toList.set j { e0 with key := key, val := v } := by rw [Array.toList_modify, modify_eq_set _ _ _ _ h2]
    have hother : ∀ i x, es.toList[i]? = some x → i ≠ j → x.key ≠ key := by
      intro i x hi hne
      have hil : i < es.toList.length := (List.getElem?_eq_some_iff.1 hi).1
      have p := List.pairwise_iff_getElem.1 hd
      have ei : es.toList[i] = x := (List.getElem?_eq_some_iff.1 hi).2
      have ej : es.toList[j] = e0 := (List.getElem?_eq_some_iff.1 h2).2
      rcases Nat.lt_or_gt_of_ne hne with hlt | hlt
      · have := p i j hil hjl hlt
        rw [ei, ej, h3] at this
        exact this
      · have := p j i hjl hil hlt
        rw [ei, ej, h3] at this
        exact fun e1 => this e1.symm
    have who : ∀ x ∈ es.toList.set j { e0 with key := key, val := v }, x = { e0 with key := key, val := v } ∨ (x ∈ es.toList ∧ x.key ≠ key) := by
      intro x hx
      obtain ⟨i, hi, ex⟩ := List.getElem_of_mem hx
      rw [List.getElem_set] at ex
      split at ex
      · exact Or.inl ex.symm
      · rename_i hne
        have hi' : i < es.toList.length := by simpa using hi
        exact Or.inr ⟨ex ▸ List.getElem_mem hi', hother i x (by rw [List.getElem?_eq_getElem hi', ex]) (fun e1 => hne e1.symm)⟩
    refine ⟨setBlock w M (.map (es.modify j (fun e' => { e' with key := key, val := v })) clock), ?_, ⟨_, _, heap_setBlock_same hb _, ?_, ?_, ?_⟩, hO _, by simp [setBlock]⟩
    · simp [Instr.mapUpdate, run_underlying ht, MapKept.run_getObj_map hb, K.check w false hkey, h1, hj, h3, K.stays w hkey, MapKept.run_setObj_map _ hb, Result.andThen, setBlock]
    · intro x hx
      rw [hlist] at hx
      rcases who x hx with rfl | ⟨hx', hne⟩
      · exact ⟨⟨l, hkey⟩, putAt_same _ _ _⟩
      · exact ⟨(hk x hx').1, by rw [putAt_other _ _ hne]; exact (hk x hx').2⟩
    · rw [hlist]
      have hm : (es.toList.set j { e0 with key := key, val := v }).map (·.key) = es.toList.map (·.key) := by
        rw [List.map_set]
        apply List.ext_getElem?
        intro i
        rw [List.getElem?_set]
        split
        · rename_i hij
          subst hij
          rw [if_pos (by simpa using hjl), List.getElem?_map, h2]
          simp [h3]
        · rfl
      rw [← List.pairwise_map (f := fun x : MapEntry => x.key) (R := fun a b => a ≠ b)] at hd ⊢
      rw [hm]
      exact hd
    · intro key' hn
      rw [hlist] at hn
      have hne : key' ≠ key := fun e1 => hn { e0 with key := key, val := v } (List.mem_iff_getElem?.2 ⟨j, by rw [List.getElem?_set_self hjl]⟩) e1.symm
      rw [putAt_other _ _ hne]
      refine hno key' (fun x hx => ?_)
      obtain ⟨i, hi⟩ := List.mem_iff_getElem?.1 hx
      by_cases hij : i = j
      · subst hij
        have hxe : x = e0 := Option.some.inj (hi.symm.trans h2)
        subst hxe
        rw [h3]
        exact fun e1 => hne e1.symm
      · exact hn x (List.mem_iff_getElem?.2 ⟨i, by rw [List.getElem?_set_ne (fun e1 => hij e1.symm)]; exact hi⟩)

variable {ops : Array Oper} {rest : List Oper} {o : Oper} {a : Act} {Q : Exit → Act → World → Prop} {N : Act → World → Prop}
theorem MapIs.wp_update (h : MapIs P k w M zero f) (K : Keyed P k) {t e : TypeId} (ht : P.underlying t = some (.map k e)) (m x y : Operand) (hop : o.op = Op.mapUpdate t m x y)
    {key v : Value} (hm : a.eval m = .map (some M)) (hx : a.eval x = key) (hy : a.eval y = v) {l : Lit} (hkey : keyOf P k key = some l)
    (hK : ∀ w', MapIs P k w' M zero (putAt f key v) → Only (fun b => b = M) w w' → w'.heap.size = w.heap.size → N (a.put o.dst undef) w') : o.wp P a w N Q := by
  obtain ⟨w', hrun, r1, r2, r3⟩ := h.update K ht hkey v
  unfold Oper.wp
  simp [execOp, hop, hm, hx, hy, hrun, Result.andThen]
  exact hK w' r1 r2 r3
theorem MapIs.wpList_update (h : MapIs P k w M zero f) (K : Keyed P k) {t e : TypeId} (ht : P.underlying t = some (.map k e)) (hg : o.guard = none) (m x y : Operand) (hop : o.op = Op.mapUpdate t m x y)
    {key v : Value} (hm : a.eval m = .map (some M)) (hx : a.eval x = key) (hy : a.eval y = v) {l : Lit} (hkey : keyOf P k key = some l)
    (hK : ∀ w', MapIs P k w' M zero (putAt f key v) → Only (fun b => b = M) w w' → w'.heap.size = w.heap.size → wpList P ops Q rest (a.put o.dst undef) w') : wpList P ops Q (o :: rest) a w :=
  wpList_plain hg fun _ hN => h.wp_update K ht m x y hop hm hx hy hkey fun w' r1 r2 r3 => hN _ _ (hK w' r1 r2 r3)
theorem MapIs.step_update {E : Prop} (h : MapIs P k w M zero f) (K : Keyed P k) {t e : TypeId} (ht : P.underlying t = some (.map k e)) (hg : o.guard = none) (m x y : Operand) (hop : o.op = Op.mapUpdate t m x y)
    {key v : Value} (hm : a.eval m = .map (some M)) (hx : a.eval x = key) (hy : a.eval y = v) {l : Lit} (hkey : keyOf P k key = some l)
    (hK : ∀ w', MapIs P k w' M zero (putAt f key v) → Only (fun b => b = M) w w' → w'.heap.size = w.heap.size → N (a.put o.dst undef) w') :
    if Region.wanted o (yielded ops a.tmps) = true then Oper.wp P o a w N Q else E := by
  rw [if_pos (by simp [Region.wanted, hg])]
  exact h.wp_update K ht m x y hop hm hx hy hkey hK
theorem MapIs.step_lookup {E : Prop} (h : MapIs P k w M zero f) (K : Keyed P k) {t e : TypeId} (ht : P.underlying t = some (.map k e)) (hz : (zeroValue e).run P w = .ok zero w) (hg : o.guard = none) (m x : Operand) (hop : o.op = Op.lookup t m x false)
    {key : Value} (hm : a.eval m = .map (some M)) (hx : a.eval x = key) {l : Lit} (hkey : keyOf P k key = some l) (hK : N (a.put o.dst (f key)) w) :
    if Region.wanted o (yielded ops a.tmps) = true then Oper.wp P o a w N Q else E := by
  rw [if_pos (by simp [Region.wanted, hg])]
  have hrun := h.lookup K ht hz hkey
  unfold Oper.wp
  simp [execOp, hop, hm, hx, hrun, Result.andThen]
  exact hK
end
/-- one step more of a chain of worlds that leave the first B blocks alone -/
theorem below_step {B : Nat} {W w1 w2 : World} (h : Below w1.heap.size w1 w2) (h0 : Below B W w1) (hB : B ≤ W.heap.size) : Below B W w2 := h0.trans (h.mono (Nat.le_trans hB h0.size))
end Go.Proofs.Ytddnphidmpidcaa
