import Derived.Test.YtddnphidmpidcaaKP
namespace Go.Proofs.Ytddnphidmpidcaa
open Go Go.RowKit

/-- one step of the answer -/
theorem align_step (ys : List Ent) (out : List Int) (x : Ent) (xs : List Ent) :
    alignL ((x :: xs).map Ent.nrm) (stG ys out) = (stG ys out x.nrm).headD (-1) :: alignL (xs.map Ent.nrm) (stG ys (out ++ [(stG ys out x.nrm).headD (-1)])) := by
  rw [List.map_cons, alignL]
  cases h : stG ys out x.nrm with
  | nil => simp [stG_none]
  | cons p ps => simp [stG_some h]

/-- each entry's answer, by what those before it have taken -/
theorem align_at (ys : List Ent) : ∀ (xs : List Ent) (out : List Int) (i : Nat) (x : Ent), xs[i]? = some x →
    (alignL (xs.map Ent.nrm) (stG ys out))[i]? = some ((stG ys (out ++ (alignL (xs.map Ent.nrm) (stG ys out)).take i) x.nrm).headD (-1))
  | [], out, i, x, h => by simp at h
  | z :: xs, out, i, x, h => by
    rw [align_step]
    cases i with
    | zero => simp at h; subst h; simp
    | succ i =>
      simp only [List.getElem?_cons_succ] at h ⊢
      rw [align_at ys xs _ i x h]
      simp

/-- the answer, for short -/
def TT (xs ys : List Ent) : List Int := alignL (xs.map Ent.nrm) (plc ys)
theorem TT_len (xs ys : List Ent) : (TT xs ys).length = xs.length := by unfold TT; rw [alignL_len]; simp
theorem TT_at {xs : List Ent} (ys : List Ent) {i : Nat} {x : Ent} (h : xs[i]? = some x) : (TT xs ys)[i]? = some ((stG ys ((TT xs ys).take i) x.nrm).headD (-1)) := by
  have := align_at ys xs [] i x h
  rw [stG_nil] at this
  simpa [TT] using this

theorem headD_mem {l : List Int} (h : l.headD (-1) ≠ -1) : l.headD (-1) ∈ l := by
  cases l with
  | nil => simp at h
  | cons a l => simp

/-- what is taken: a place of one that matches, and that was not taken before -/
theorem TT_pos {xs ys : List Ent} {i : Nat} {x : Ent} {t : Int} (hx : xs[i]? = some x) (ht : (TT xs ys)[i]? = some t) (hne : t ≠ -1) :
    ∃ (j : Nat) (y : Ent), ys[j]? = some y ∧ y.nrm = x.nrm ∧ t = (j : Int) ∧ t ∉ (TT xs ys).take i := by
  rw [TT_at ys hx] at ht
  have ht' := Option.some.inj ht
  have hm := headD_mem (l := stG ys ((TT xs ys).take i) x.nrm) (by rw [ht']; exact hne)
  rw [ht', mem_stG] at hm
  obtain ⟨⟨j, y, h1, h2, h3⟩, h4⟩ := hm
  exact ⟨j, y, h1, h2, h3, h4⟩
theorem TT_neg {xs ys : List Ent} {i : Nat} {x : Ent} (hx : xs[i]? = some x) (ht : (TT xs ys)[i]? = some (-1)) :
    ∀ (j : Nat) (y : Ent), ys[j]? = some y → y.nrm = x.nrm → (j : Int) ∈ (TT xs ys).take i := by
  intro j y hy hn
  rw [TT_at ys hx] at ht
  have ht' := Option.some.inj ht
  apply Classical.byContradiction
  intro hno
  have hmem : (j : Int) ∈ stG ys ((TT xs ys).take i) x.nrm := (mem_stG _ _ _ _).2 ⟨⟨j, y, hy, hn, rfl⟩, hno⟩
  cases h : stG ys ((TT xs ys).take i) x.nrm with
  | nil => rw [h] at hmem; simp at hmem
  | cons a l =>
    rw [h] at ht'
    simp at ht'
    have ha : a ∈ stG ys ((TT xs ys).take i) x.nrm := by rw [h]; simp
    obtain ⟨⟨j', _, _, _, e⟩, _⟩ := (mem_stG _ _ _ _).1 ha
    omega
theorem TT_or {xs ys : List Ent} {i : Nat} {x : Ent} {t : Int} (hx : xs[i]? = some x) (ht : (TT xs ys)[i]? = some t) : t = -1 ∨ (0 ≤ t ∧ t < ys.length ∧ t ∉ (TT xs ys).take i ∧ ∃ (j : Nat) (y : Ent), ys[j]? = some y ∧ y.nrm = x.nrm ∧ t = (j : Int)) := by
  by_cases h : t = -1
  · exact Or.inl h
  · obtain ⟨j, y, h1, h2, h3, h4⟩ := TT_pos hx ht h
    have := (List.getElem?_eq_some_iff.1 h1).1
    exact Or.inr ⟨by omega, by omega, h4, j, y, h1, h2, h3⟩

theorem mem_leftL (T : List Int) (m : Nat) (p : Int) : p ∈ leftL T m ↔ (∃ i : Nat, i < m ∧ p = (i : Int)) ∧ p ∉ T := by
  unfold leftL
  simp only [List.mem_map, List.mem_filter, List.mem_range, decide_eq_true_eq]
  constructor
  · rintro ⟨i, ⟨h1, h2⟩, rfl⟩; exact ⟨⟨i, h1, rfl⟩, h2⟩
  · rintro ⟨⟨i, h1, rfl⟩, h2⟩; exact ⟨i, ⟨h1, h2⟩, rfl⟩
theorem leftL_nodup (T : List Int) (m : Nat) : (leftL T m).Nodup := by
  unfold leftL
  have h : (((List.range m).filter (fun (i : Nat) => decide ((i : Int) ∉ T)))).Nodup := List.nodup_range.filter _
  unfold List.Nodup at h ⊢
  rw [List.pairwise_map]
  exact h.imp (fun hne e => hne (by omega))
theorem leftL_nil (m : Nat) : (leftL [] m).length = m := by
  unfold leftL; rw [List.length_map, List.filter_eq_self.2 (by simp), List.length_range]
theorem leftL_snoc (T : List Int) (t : Int) (m : Nat) : leftL (T ++ [t]) m = (leftL T m).filter (fun p => decide (p ≠ t)) := by
  unfold leftL
  rw [List.filter_map, List.filter_filter]
  congr 1
  refine List.filter_congr (fun i _ => ?_)
  by_cases h1 : (i : Int) = t <;> by_cases h2 : (i : Int) ∈ T <;> simp [h1, h2]

theorem length_filter_ne {l : List Int} (hn : l.Nodup) {t : Int} (h : t ∈ l) : (l.filter (fun p => decide (p ≠ t))).length + 1 = l.length := by
  induction l with
  | nil => simp at h
  | cons a l ih =>
    have ⟨h1, h2⟩ := List.nodup_cons.1 hn
    by_cases ha : a = t
    · subst ha
      rw [List.filter_cons_of_neg (by simp)]
      rw [List.filter_eq_self.2 (fun q hq => by simp; rintro rfl; exact h1 hq)]
      rfl
    · rw [List.filter_cons_of_pos (by simpa using ha)]
      have : t ∈ l := by
        rcases List.mem_cons.1 h with e | e
        · exact absurd e.symm ha
        · exact e
      simp only [List.length_cons]
      rw [ih h2 this]

/-- how many of the first k took one -/
def tookN (T : List Int) (k : Nat) : Nat := (T.take k).countP (fun t => decide (0 ≤ t))
theorem tookN_zero (T : List Int) : tookN T 0 = 0 := by simp [tookN]
theorem tookN_step {T : List Int} {k : Nat} {t : Int} (h : T[k]? = some t) : tookN T (k + 1) = tookN T k + (if 0 ≤ t then 1 else 0) := by
  unfold tookN; rw [take_snoc h, List.countP_append]; simp [List.countP_cons]
theorem took_left {xs ys : List Ent} : ∀ (k : Nat), k ≤ xs.length → tookN (TT xs ys) k + (leftL ((TT xs ys).take k) ys.length).length = ys.length
  | 0, _ => by simp [tookN, leftL_nil]
  | k + 1, hk => by
    obtain ⟨x, hx⟩ := get_lt (show k < xs.length by omega)
    obtain ⟨t, ht⟩ := get_lt (show k < (TT xs ys).length by rw [TT_len]; omega)
    have ih := took_left (xs := xs) (ys := ys) k (by omega)
    rw [tookN_step ht, take_snoc ht, leftL_snoc]
    rcases TT_or hx ht with rfl | ⟨h0, hlt, hno, _⟩
    · rw [if_neg (by omega), List.filter_eq_self.2]
      · omega
      · intro q hq
        obtain ⟨⟨i, _, rfl⟩, _⟩ := (mem_leftL _ _ _).1 hq
        first | (simp; done) | (simp; omega)
    · rw [if_pos h0]
      have := length_filter_ne (leftL_nodup ((TT xs ys).take k) ys.length) ((mem_leftL _ _ _).2 ⟨⟨t.toNat, by omega, by omega⟩, hno⟩)
      omega
theorem took_all (xs ys : List Ent) : tookN (TT xs ys) xs.length + (leftL (TT xs ys) ys.length).length = ys.length := by
  have := took_left (xs := xs) (ys := ys) xs.length (Nat.le_refl _)
  rwa [take_len_le (by rw [TT_len]; omega)] at this
end Go.Proofs.Ytddnphidmpidcaa
