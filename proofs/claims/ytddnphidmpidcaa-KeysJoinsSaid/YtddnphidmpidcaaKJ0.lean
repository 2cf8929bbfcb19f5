import Derived.Test.YtddnphidmpidcaaKP2
namespace Go.Proofs.Ytddnphidmpidcaa
open Go Go.RowKit

theorem flatMap_inv {α : Type} {enc : α → List Value} {size : Nat} (hs : ∀ x, (enc x).length = size) : ∀ (xs : List α) (j : Nat) (u : Value), (xs.flatMap enc)[j]? = some u → ∃ (i r : Nat) (x : α), xs[i]? = some x ∧ (enc x)[r]? = some u ∧ j = i * size + r
  | [], j, u, h => by simp at h
  | y :: ys, j, u, h => by
    rw [List.flatMap_cons] at h
    rcases Nat.lt_or_ge j size with hj | hj
    · rw [List.getElem?_append_left (by rw [hs]; exact hj)] at h
      exact ⟨0, j, y, rfl, h, by omega⟩
    · rw [List.getElem?_append_right (by rw [hs]; exact hj), hs] at h
      obtain ⟨i, r, x, h1, h2, h3⟩ := flatMap_inv hs ys (j - size) u h
      exact ⟨i + 1, r, x, by simpa using h1, h2, by rw [Nat.succ_mul]; omega⟩

theorem run_append_nothing {P : Program} (w : World) (base : Nat) (t ty e : TypeId) (i : TypeInfo) (size : Nat) (ht : P.underlying t = some (.slice e)) (hi : P.info? e = some i)
    (v : Value) (n c : Nat) (xs : List Value) (hown : w.ownsRow base e size v n xs) : (Builtin.append_ #[t, t] ty #[v, .slice none 0 c]).run P w = .ok v w := by
  rcases hown.2 with ⟨rfl, rfl⟩ | ⟨g, cap, cur, rfl, _, _, hnc, _⟩
  · simp [Builtin.append_, run_underlying ht, sizeOf, typeInfo, hi, Builtin.lenOf, Builtin.firstCells]
  · simp [Builtin.append_, run_underlying ht, sizeOf, typeInfo, hi, Builtin.lenOf, Builtin.firstCells, hnc, storeCells]

section
variable {α : Type} {P : Program} {ops : Array Oper} {rest : List Oper} {o : Oper} {a : Act} {Q : Exit → Act → World → Prop}
/-- 'append(out, ys...)', ys a slice that reads as a list, nil or not. -/
theorem wpList_append_rd (w : World) (hgd : o.guard = none) (s x : Operand) (t : TypeId)
    (ho : o.op = .call { callee := .builtin .append, args := #[s, x], argTypes := #[t, t] })
    (enc : α → List Value) {e : TypeId} {size bytes : Nat} (henc : ∀ y, (enc y).length = size) (h1 : ∀ y, ∀ u ∈ enc y, u.oneCell' = true) (T : SliceT P t e size bytes) (base : Nat)
    (v : Value) (xs ys : List α) (hs : a.eval s = v) (hown : Own enc size e w base v xs) (vy : Value) (hx : a.eval x = vy) {B : Nat} (hr : Rd enc size w B vy ys)
    (hlong : xs.length + ys.length ≤ 1000000) (hbase : base ≤ w.heap.size)
    (h : ∀ v' w', Own enc size e w' base v' (xs ++ ys) → Below base w w' → Only (fun k => v.ownBlock = some k) w w' → (v'.ownBlock = v.ownBlock ∨ v'.ownBlock = some w.heap.size) → wpList P ops Q rest (a.put o.dst v') w') :
    wpList P ops Q (o :: rest) a w := by
  obtain ⟨A, c, rfl, hc1, hc2, hcell⟩ := hr
  cases A with
  | some ad =>
    refine wpList_append_many w hgd s x t ho enc henc h1 T base v xs ys hs hown ad ys.length c rfl hx (fun j u hu => ?_) hlong hbase h
    have hne : ys ≠ [] := by rintro rfl; simp at hu
    obtain ⟨b, off, hA, _, hcl⟩ := hcell hne
    cases hA
    obtain ⟨i, r, y, hy, hr, rfl⟩ := flatMap_inv henc ys j u hu
    rw [Addr.add_lit, ← Nat.add_assoc]
    exact hcl i y hy r u hr
  | none =>
    have hne : ys = [] := by
      apply Classical.byContradiction
      intro hne
      obtain ⟨b, off, hA, _⟩ := hcell hne
      cases hA
    subst hne
    refine wpList_plain hgd fun K hK => ?_
    have T' := T
    obtain ⟨ht, i, z, hi, _⟩ := T'
    have hrun := run_append_nothing (P := P) w base t o.type e i size ht hi v xs.length c (xs.flatMap enc) hown
    unfold Oper.wp
    simp only [List.length_nil] at hx
    simp [execOp, ho, resolve, invoke, builtin, hs, hx, hrun, Result.andThen]
    exact hK _ _ (h v w (by simpa using hown) (Below.refl _ _) (Only.refl _ _) (Or.inl rfl))
end
end Go.Proofs.Ytddnphidmpidcaa
