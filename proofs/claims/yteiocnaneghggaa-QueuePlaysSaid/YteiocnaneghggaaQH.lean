import Derived.Lib.Hide
namespace Go.Proofs.Yteiocnaneghggaa

/-! ### a heap in a list: plain Lean -/
section
variable {ι : Type}

/-- an order that is total: of what is not ahead -/
structure TO (lt : ι → ι → Bool) : Prop where
  asym : ∀ a b, lt a b = true → lt b a = false
  trans : ∀ a b c, lt b a = false → lt c b = false → lt c a = false

def HeapI (lt : ι → ι → Bool) (L : List ι) (n : Nat) : Prop := ∀ (k : Nat) (x p : ι), 0 < k → k < n → L[k]? = some x → L[(k - 1) / 2]? = some p → lt x p = false
def UpI (lt : ι → ι → Bool) (L : List ι) (j : Nat) : Prop :=
  (∀ (k : Nat) (x p : ι), 0 < k → k ≠ j → L[k]? = some x → L[(k - 1) / 2]? = some p → lt x p = false) ∧
  (0 < j → ∀ (c : Nat) (x p : ι), 0 < c → (c - 1) / 2 = j → L[c]? = some x → L[(j - 1) / 2]? = some p → lt x p = false)
def DownI (lt : ι → ι → Bool) (L : List ι) (n i : Nat) : Prop :=
  (∀ (k : Nat) (x p : ι), 0 < k → k < n → (k - 1) / 2 ≠ i → L[k]? = some x → L[(k - 1) / 2]? = some p → lt x p = false) ∧
  (0 < i → ∀ (c : Nat) (x p : ι), 0 < c → c < n → (c - 1) / 2 = i → L[c]? = some x → L[(i - 1) / 2]? = some p → lt x p = false)

variable {lt : ι → ι → Bool} {L : List ι}

theorem swap_get {L : List ι} {i j : Nat} {a b : ι} (hi : L[i]? = some a) (hj : L[j]? = some b) (k : Nat) : ((L.set i b).set j a)[k]? = if k = j then some a else if k = i then some b else L[k]? := by
  have hil := (List.getElem?_eq_some_iff.1 hi).1
  have hjl := (List.getElem?_eq_some_iff.1 hj).1
  rw [List.getElem?_set]
  by_cases h1 : j = k
  · subst h1; simp [hjl]
  · rw [if_neg h1, if_neg (fun e => h1 e.symm), List.getElem?_set]
    by_cases h2 : i = k
    · subst h2; simp [hil]
    · rw [if_neg h2, if_neg (fun e => h2 e.symm)]
theorem swap_perm {L : List ι} {i j : Nat} {a b : ι} (hi : L[i]? = some a) (hj : L[j]? = some b) : ((L.set i b).set j a).Perm L := by
  obtain ⟨hil, ei⟩ := List.getElem?_eq_some_iff.1 hi
  obtain ⟨hjl, ej⟩ := List.getElem?_eq_some_iff.1 hj
  rw [← ei, ← ej]
  exact List.set_set_perm hil hjl

theorem up_start {x : ι} (h : HeapI lt L L.length) : UpI lt (L ++ [x]) L.length := by
  refine ⟨fun k y p hk hne hy hp => ?_, fun _ c y p _ hc hy _ => ?_⟩
  · have hkl : k < L.length := by
      have := (List.getElem?_eq_some_iff.1 hy).1
      simp at this; omega
    rw [List.getElem?_append_left hkl] at hy
    rw [List.getElem?_append_left (by omega)] at hp
    exact h k y p hk hkl hy hp
  · have := (List.getElem?_eq_some_iff.1 hy).1
    simp at this; omega
theorem up_done0 (h : UpI lt L 0) : HeapI lt L L.length := fun k x p hk _ hx hp => h.1 k x p hk (by omega) hx hp
theorem up_done {j : Nat} {x p : ι} (h : UpI lt L j) (hx : L[j]? = some x) (hp : L[(j - 1) / 2]? = some p) (hn : lt x p = false) : HeapI lt L L.length := by
  intro k y q hk _ hy hq
  by_cases e : k = j
  · subst e
    rw [hx] at hy; rw [hp] at hq
    cases hy; cases hq; exact hn
  · exact h.1 k y q hk e hy hq
theorem up_step (T : TO lt) {i j : Nat} {x p : ι} (h : UpI lt L j) (hj0 : 0 < j) (hi : i = (j - 1) / 2) (hx : L[j]? = some x) (hp : L[i]? = some p) (hl : lt x p = true) : UpI lt ((L.set i x).set j p) i := by
  have hij : i < j := by omega
  have G := swap_get hp hx
  constructor
  · intro k y q hk hki hy hq
    rw [G] at hy hq
    by_cases e1 : k = j
    · rw [if_pos e1] at hy
      rw [if_neg (by omega), if_pos (by omega)] at hq
      cases hy; cases hq
      exact T.asym _ _ hl
    · rw [if_neg e1, if_neg hki] at hy
      by_cases e2 : (k - 1) / 2 = j
      · rw [if_pos e2] at hq
        cases hq
        exact h.2 hj0 k y _ hk e2 hy (by rw [← hi]; exact hp)
      · rw [if_neg e2] at hq
        by_cases e3 : (k - 1) / 2 = i
        · rw [if_pos e3] at hq
          cases hq
          exact T.trans _ _ _ (T.asym _ _ hl) (h.1 k y p hk e1 hy (by rw [e3]; exact hp))
        · rw [if_neg e3] at hq
          exact h.1 k y q hk e1 hy hq
  · intro hi0 c y q hc0 hc hy hq
    rw [G] at hy hq
    rw [if_neg (by omega), if_neg (by omega)] at hq
    have hpq : lt p q = false := h.1 i p q hi0 (by omega) hp hq
    by_cases e1 : c = j
    · rw [if_pos e1] at hy
      cases hy
      exact hpq
    · rw [if_neg e1, if_neg (by omega)] at hy
      exact T.trans _ _ _ hpq (h.1 c y p hc0 e1 hy (by rw [hc]; exact hp))

theorem down_start {n : Nat} {a b : ι} (h : HeapI lt L (n + 1)) (h0 : L[0]? = some a) (hn : L[n]? = some b) : DownI lt ((L.set 0 b).set n a) n 0 := by
  have G := swap_get h0 hn
  refine ⟨fun k x p hk hkn hq hx hp => ?_, fun h0 => absurd h0 (by omega)⟩
  rw [G] at hx hp
  rw [if_neg (by omega), if_neg (by omega)] at hx hp
  exact h k x p hk (by omega) hx hp
theorem down_leaf {n i : Nat} (h : DownI lt L n i) (hl : n ≤ 2 * i + 1) : HeapI lt L n := fun k x p hk hkn hx hp => h.1 k x p hk hkn (by omega) hx hp
/-- j is the child of i that is not behind its sibling -/
def BestOf (lt : ι → ι → Bool) (L : List ι) (n i j : Nat) : Prop := (j = 2 * i + 1 ∨ j = 2 * i + 2) ∧ j < n ∧ ∀ (c : Nat) (x y : ι), 0 < c → c < n → (c - 1) / 2 = i → L[c]? = some x → L[j]? = some y → lt x y = false
theorem TO.irr (T : TO lt) (x : ι) : lt x x = false := by
  cases h : lt x x
  · rfl
  · exact (T.asym _ _ h).symm.trans h |>.symm ▸ rfl
theorem best_one (T : TO lt) {n i : Nat} (h : 2 * i + 1 < n) (h2 : n ≤ 2 * i + 2) : BestOf lt L n i (2 * i + 1) := by
  refine ⟨Or.inl rfl, h, fun c x y hc0 hc hp hx hy => ?_⟩
  obtain rfl : c = 2 * i + 1 := by omega
  rw [hx] at hy; cases hy; exact T.irr _
theorem best_left (T : TO lt) {n i : Nat} {a b : ι} (h : 2 * i + 2 < n) (ha : L[2 * i + 1]? = some a) (hb : L[2 * i + 2]? = some b) (hl : lt b a = false) : BestOf lt L n i (2 * i + 1) := by
  refine ⟨Or.inl rfl, by omega, fun c x y hc0 hc hp hx hy => ?_⟩
  rw [ha] at hy; cases hy
  rcases (show c = 2 * i + 1 ∨ c = 2 * i + 2 by omega) with rfl | rfl
  · rw [ha] at hx; cases hx; exact T.irr _
  · rw [hb] at hx; cases hx; exact hl
theorem best_right (T : TO lt) {n i : Nat} {a b : ι} (h : 2 * i + 2 < n) (ha : L[2 * i + 1]? = some a) (hb : L[2 * i + 2]? = some b) (hl : lt b a = true) : BestOf lt L n i (2 * i + 2) := by
  refine ⟨Or.inr rfl, h, fun c x y hc0 hc hp hx hy => ?_⟩
  rw [hb] at hy; cases hy
  rcases (show c = 2 * i + 1 ∨ c = 2 * i + 2 by omega) with rfl | rfl
  · rw [ha] at hx; cases hx; exact T.asym _ _ hl
  · rw [hb] at hx; cases hx; exact T.irr _
theorem down_done (T : TO lt) {n i j : Nat} {x p : ι} (h : DownI lt L n i) (hb : BestOf lt L n i j) (hx : L[j]? = some x) (hp : L[i]? = some p) (hn : lt x p = false) : HeapI lt L n := by
  intro k y q hk hkn hy hq
  by_cases e : (k - 1) / 2 = i
  · rw [e, hp] at hq
    cases hq
    exact T.trans _ _ _ hn (hb.2.2 k y x hk hkn e hy hx)
  · exact h.1 k y q hk hkn e hy hq
theorem down_step (T : TO lt) {n i j : Nat} {x p : ι} (h : DownI lt L n i) (hb : BestOf lt L n i j) (hx : L[j]? = some x) (hp : L[i]? = some p) (hl : lt x p = true) : DownI lt ((L.set i x).set j p) n j := by
  have hj := hb.1
  have hjn := hb.2.1
  have G := swap_get hp hx
  constructor
  · intro k y q hk hkn hkj hy hq
    rw [G] at hy hq
    rw [if_neg hkj] at hq
    by_cases e1 : (k - 1) / 2 = i
    · rw [if_pos e1] at hq
      cases hq
      by_cases e2 : k = j
      · rw [if_pos e2] at hy
        cases hy
        exact T.asym _ _ hl
      · rw [if_neg e2, if_neg (by omega)] at hy
        exact hb.2.2 k y x hk hkn e1 hy hx
    · rw [if_neg e1] at hq
      by_cases e2 : k = j
      · omega
      · rw [if_neg e2] at hy
        by_cases e3 : k = i
        · rw [if_pos e3] at hy
          cases hy
          subst e3
          exact h.2 hk j x q (by omega) hjn (by omega) hx hq
        · rw [if_neg e3] at hy
          exact h.1 k y q hk hkn e1 hy hq
  · intro hj0 c y q hc0 hcn hc hy hq
    rw [G] at hy hq
    rw [if_neg (by omega), if_pos (by omega)] at hq
    rw [if_neg (by omega), if_neg (by omega)] at hy
    cases hq
    exact h.1 c y x hc0 hcn (by omega) hy (by rw [hc]; exact hx)
theorem heap_min (T : TO lt) {m : ι} (h : HeapI lt L L.length) (hm : L[0]? = some m) : ∀ (k : Nat) (y : ι), L[k]? = some y → lt y m = false := by
  intro k
  induction k using Nat.strongRecOn with
  | ind k ih =>
    intro y hy
    rcases Nat.eq_zero_or_pos k with rfl | hk
    · rw [hm] at hy; cases hy; exact T.irr _
    · have hkl := (List.getElem?_eq_some_iff.1 hy).1
      have hp : L[(k - 1) / 2]? = some (L[(k - 1) / 2]'(by omega)) := List.getElem?_eq_getElem (by omega)
      exact T.trans _ _ _ (ih _ (by omega) _ hp) (h k y _ hk hkl hy hp)
end
end Go.Proofs.Yteiocnaneghggaa
