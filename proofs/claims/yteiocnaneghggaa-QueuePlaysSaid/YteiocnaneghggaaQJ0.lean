import Derived.Test.YteiocnaneghggaaQR1
namespace Go.Proofs.Yteiocnaneghggaa
open Go Go.RowKit

theorem flatMap_inv {α : Type} {enc : α → List Value} {size : Nat} (hs : ∀ x, (enc x).length = size) : ∀ (xs : List α) (j : Nat) (u : Value), (xs.flatMap enc)[j]? = some u → ∃ (i r : Nat) (x : α), xs[i]? = some x ∧ (enc x)[r]? = some u ∧ j = i * size + r
  | [], j, u, h => by simp at h
  | y :: ys, j, u, h => by
    rw [List.flatMap_cons] at h
    rcases Nat.lt_or_ge j size with hj | hj
    · rw [List.getElem?_append_left (by rw [hs]; exact hj)] at h
      exact ⟨0, j, y, rfl, h, by omega⟩
    · rw [List.getElem?_append_right (by rw [hs]; exact hj), hs] at h
      obtain ⟨i, r, x, h1, h2, h3⟩ := flatMap_inv hs ys (j - size) u h
      exact ⟨i + 1, r, x, by simpa using h1, h2, by rw [Nat.succ_mul]; omega⟩

theorem run_append_nothing {P : Program} (w : World) (base : Nat) (t ty e : TypeId) (i : TypeInfo) (size : Nat) (ht : P.underlying t = some (.slice e)) (hi : P.info? e = some i)
    (v : Value) (n c : Nat) (xs : List Value) (hown : w.ownsRow base e size v n xs) : (Builtin.append_ #[t, t] ty #[v, .slice none 0 c]).run P w = .ok v w := by
  rcases hown.2 with ⟨rfl, rfl⟩ | ⟨g, cap, cur, rfl, _, _, hnc, _⟩
  · simp [Builtin.append_, run_underlying ht, sizeOf, typeInfo, hi, Builtin.lenOf, Builtin.firstCells]
  · simp [Builtin.append_, run_underlying ht, sizeOf, typeInfo, hi, Builtin.lenOf, Builtin.firstCells, hnc, storeCells]

section
variable {α : Type} {P : Program} {ops : Array Oper} {rest : List Oper} {o : Oper} {a : Act} {Q : Exit → Act → World → Prop}
/-- 'append(out, ys...)', ys a slice that reads as a list, nil or not. -/
theorem wpList_append_rd (w : World) (hgd : o.guard = none) (s x : Operand) (t : TypeId)
    (ho : o.op = .call { callee := .builtin .append, args := #[s, x], argTypes := #[t, t] })
    (enc : α → List Value) {e : TypeId} {size bytes : Nat} (henc : ∀ y, (enc y).length = size) (h1 : ∀ y, ∀ u ∈ enc y, u.oneCell' = true) (T : SliceT P t e size bytes) (base : Nat)
    (v : Value) (xs ys : List α) (hs : a.eval s = v) (hown : Own enc size e w base v xs) (vy : Value) (hx : a.eval x = vy) {B : Nat} (hr : Rd enc size w B vy ys)
    (hlong : xs.length + ys.length ≤ 1000000) (hbase : base ≤ w.heap.size)
    (h : ∀ v' w', Own enc size e w' base v' (xs ++ ys) → Below base w w' → Only (fun k => v.ownBlock = some k) w w' → (v'.ownBlock = v.ownBlock ∨ v'.ownBlock = some w.heap.size) → wpList P ops Q rest (a.put o.dst v') w') :
    wpList P ops Q (o :: rest) a w := by
  obtain ⟨A, c, rfl, hc1, hc2, hcell⟩ := hr
  cases A with
  | some ad =>
    refine wpList_append_many w hgd s x t ho enc henc h1 T base v xs ys hs hown ad ys.length c rfl hx (fun j u hu => ?_) hlong hbase h
    have hne : ys ≠ [] := by rintro rfl; simp at hu
    obtain ⟨b, off, hA, _, hcl⟩ := hcell hne
    cases hA
    obtain ⟨i, r, y, hy, hr, rfl⟩ := flatMap_inv henc ys j u hu
    rw [Addr.add_lit, ← Nat.add_assoc]
    exact hcl i y hy r u hr
  | none =>
    have hne : ys = [] := by
      apply Classical.byContradiction
      intro hne
      obtain ⟨b, off, hA, _⟩ := hcell hne
      cases hA
    subst hne
    refine wpList_plain hgd fun K hK => ?_
    have T' := T
    obtain ⟨ht, i, z, hi, _⟩ := T'
    have hrun := run_append_nothing (P := P) w base t o.type e i size ht hi v xs.length c (xs.flatMap enc) hown
    unfold Oper.wp
    simp only [List.length_nil] at hx
    simp [execOp, ho, resolve, invoke, builtin, hs, hx, hrun, Result.andThen]
    exact hK _ _ (h v w (by simpa using hown) (Below.refl _ _) (Only.refl _ _) (Or.inl rfl))
end

theorem Rd.take {α : Type} {enc : α → List Value} {size B : Nat} {w : World} {A : Option Addr} {n cap : Nat} {xs : List α} (h : Rd enc size w B (.slice A n cap) xs) {k : Nat} (hk : k ≤ n) : Rd enc size w B (.slice A k cap) (xs.take k) := by
  obtain ⟨A', cap', h0, h1, h2, h3⟩ := h
  cases h0
  have hl : (xs.take k).length = k := by rw [List.length_take, Nat.min_eq_left hk]
  refine ⟨A, cap, by rw [hl], by rw [hl]; omega, h2, fun hne => ?_⟩
  obtain ⟨b, off, hA, hb, hc⟩ := h3 (fun e => hne (by rw [e]; simp))
  refine ⟨b, off, hA, hb, fun i x hx j u hu => ?_⟩
  rw [List.getElem?_take] at hx
  split at hx
  · exact hc i x hx j u hu
  · cases hx
theorem Rd.drop {α : Type} {enc : α → List Value} {size B : Nat} {w : World} {b off n cap : Nat} {xs : List α} (h : Rd enc size w B (.slice (some ⟨b, off, none⟩) n cap) xs) {k : Nat} (hk : k ≤ n) (hnc : n ≤ cap) : Rd enc size w B (.slice (if cap = k then some ⟨b, off, none⟩ else some ⟨b, off + k * size, none⟩) (n - k) (cap - k)) (xs.drop k) := by
  obtain ⟨A', cap', h0, h1, h2, h3⟩ := h
  cases h0
  refine ⟨_, cap - k, by rw [List.length_drop], by rw [List.length_drop]; omega, by omega, fun hne => ?_⟩
  have hlt : k < xs.length := by
    rcases Nat.lt_or_ge k xs.length with h | h
    · exact h
    · exact absurd (List.drop_eq_nil_of_le h) hne
  obtain ⟨b', off', hA, hb, hc⟩ := h3 (fun e => by subst e; simp at hlt)
  cases hA
  refine ⟨b, off + k * size, by rw [if_neg (by omega)], hb, fun i x hx j u hu => ?_⟩
  rw [List.getElem?_drop] at hx
  have := hc (k + i) x hx j u hu
  rw [Nat.add_mul, ← Nat.add_assoc] at this
  exact this
theorem und41 : Try.prog.underlying 41 = some (.slice (Try.prog.elem 41)) := by kernel_rfl
theorem elem41 : Try.prog.elem 41 = 24 := by kernel_rfl
theorem slice_to (A : Option Addr) (n k cap : Nat) (hk : k ≤ cap) (W : World) : Sem.run Try.prog (Instr.sliceAt 41 (.slice A n cap) none (some (.int .i64 (k : Int))) none) W = .ok (.slice A k cap) W := by
  obtain ⟨-, i0, z, hi, hz, hsize, -⟩ := T41
  rw [run_sliceAt_slice _ _ _ _ _ _ und41, run_slice_h _ _ _ _ _ und41 _ _ (by omega) (by omega), elem41]
  simp [go_sem, sliced, sizeOf, typeInfo, hi, Result.andThen, Addr.add]
  try (cases A <;> simp)
theorem slice_from (b off n k cap : Nat) (hk : k ≤ n) (hn : n ≤ cap) (W : World) : Sem.run Try.prog (Instr.sliceAt 41 (.slice (some ⟨b, off, none⟩) n cap) (some (.int .i64 (k : Int))) none none) W = .ok (.slice (if cap = k then some ⟨b, off, none⟩ else some ⟨b, off + k * 2, none⟩) (n - k) (cap - k)) W := by
  obtain ⟨-, i0, z, hi, hz, hsize, -⟩ := T41
  rw [run_sliceAt_slice _ _ _ _ _ _ und41, run_slice_l _ _ _ _ _ und41 _ _ (by omega) (by omega), elem41]
  by_cases h : cap = k
  · subst h
    obtain rfl : n = cap := by omega
    simp [go_sem, sliced, sizeOf, typeInfo, hi, Result.andThen]
  · have h' : ¬ cap - k = 0 := by omega
    simp [go_sem, sliced, h, h', sizeOf, typeInfo, hi, Result.andThen, hsize, Addr.add]
end Go.Proofs.Yteiocnaneghggaa
