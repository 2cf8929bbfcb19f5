import Derived.Test.YtddnphidmpidcaaKTakes
namespace Go.Proofs.Ytddnphidmpidcaa
open Go Go.RowKit

/-- no two entries have one key that counts -/
def Dist (xs : List Ent) : Prop := ∀ (i k : Nat) (x y : Ent), xs[i]? = some x → xs[k]? = some y → x.nrm = y.nrm → i = k
theorem dist_of_pair {xs : List Ent} (h : PairN Ent.mat xs) : Dist xs := by
  intro i k x y hx hy e
  rcases Nat.lt_trichotomy i k with hlt | heq | hgt
  · have := h k i y x hlt hy hx
    unfold Ent.mat at this
    rw [(mat_iff _ _ _ _).2 e.symm] at this
    cases this
  · exact heq
  · have := h i k x y hgt hx hy
    unfold Ent.mat at this
    rw [(mat_iff _ _ _ _).2 e] at this
    cases this

theorem TT_dist {xs ys : List Ent} (hd : Dist xs) {i : Nat} {x : Ent} {t : Int} (hx : xs[i]? = some x) (ht : (TT xs ys)[i]? = some t) :
    (∃ (j : Nat) (y : Ent), ys[j]? = some y ∧ y.nrm = x.nrm ∧ t = (j : Int)) ∨ (t = -1 ∧ ∀ (j : Nat) (y : Ent), ys[j]? = some y → y.nrm ≠ x.nrm) := by
  by_cases h : t = -1
  · refine Or.inr ⟨h, fun j y hy hn => ?_⟩
    subst h
    have hm := TT_neg hx ht j y hy hn
    obtain ⟨k, hk, e⟩ := List.mem_take_iff_getElem.1 hm
    have hkt : (TT xs ys)[k]? = some (j : Int) := by rw [List.getElem?_eq_getElem (by omega)]; exact congrArg some e
    have hkx : k < xs.length := by have := (List.getElem?_eq_some_iff.1 hkt).1; rwa [TT_len] at this
    obtain ⟨x', hx'⟩ := get_lt hkx
    obtain ⟨j', y', h1, h2, h3, _⟩ := TT_pos hx' hkt (by omega)
    have : j' = j := by omega
    subst this
    rw [hy] at h1
    cases h1
    have := hd k i x' x hx' hx (h2.symm.trans hn)
    omega
  · obtain ⟨j, y, h1, h2, h3, _⟩ := TT_pos hx ht h
    exact Or.inl ⟨j, y, h1, h2, h3⟩

/-- a list from its place a on, going round -/
def rotL (xs : List Ent) (a : Nat) : List Ent := (List.range xs.length).map (fun i => xs.getD ((a + i) % xs.length) blankE)
theorem rotL_len (xs : List Ent) (a : Nat) : (rotL xs a).length = xs.length := by simp [rotL]
theorem getDb {l : List Ent} {i : Nat} {y : Ent} (h : l[i]? = some y) : l.getD i blankE = y := by rw [List.getD_eq_getElem?_getD, h]; rfl
theorem rotL_get {xs : List Ent} {a i : Nat} {x : Ent} (h : (rotL xs a)[i]? = some x) : i < xs.length ∧ xs[(a + i) % xs.length]? = some x := by
  have hi : i < xs.length := by have := (List.getElem?_eq_some_iff.1 h).1; rwa [rotL_len] at this
  refine ⟨hi, ?_⟩
  unfold rotL at h
  rw [List.getElem?_map, List.getElem?_range hi] at h
  have hm : (a + i) % xs.length < xs.length := Nat.mod_lt _ (by omega)
  obtain ⟨y, hy⟩ := get_lt hm
  simp only [Option.map_some, getDb hy] at h
  rw [hy]; exact h
theorem rotL_mk {xs : List Ent} {a i : Nat} {x : Ent} (hi : i < xs.length) (h : xs[(a + i) % xs.length]? = some x) : (rotL xs a)[i]? = some x := by
  unfold rotL
  rw [List.getElem?_map, List.getElem?_range hi]
  simp [List.getD_eq_getElem?_getD, h]
theorem mod_inj {n a i k : Nat} (hi : i < n) (hk : k < n) (h : (a + i) % n = (a + k) % n) : i = k := by
  have h1 := Nat.div_add_mod (a + i) n
  have h2 := Nat.div_add_mod (a + k) n
  rw [h] at h1
  rcases Nat.lt_trichotomy i k with hl | he | hg
  · have : n * ((a + k) / n) = n * ((a + i) / n) + (k - i) := by omega
    have h3 : (a + i) / n < (a + k) / n := by
      apply Nat.lt_of_mul_lt_mul_left (a := n); omega
    have h4 : n * ((a + i) / n) + n ≤ n * ((a + k) / n) := by
      have := Nat.mul_le_mul_left n (Nat.succ_le_of_lt h3)
      rwa [Nat.mul_succ] at this
    omega
  · exact he
  · have : n * ((a + i) / n) = n * ((a + k) / n) + (i - k) := by omega
    have h3 : (a + k) / n < (a + i) / n := by
      apply Nat.lt_of_mul_lt_mul_left (a := n); omega
    have h4 : n * ((a + k) / n) + n ≤ n * ((a + i) / n) := by
      have := Nat.mul_le_mul_left n (Nat.succ_le_of_lt h3)
      rwa [Nat.mul_succ] at this
    omega
theorem rot_dist {xs : List Ent} (h : Dist xs) (a : Nat) : Dist (rotL xs a) := by
  intro i k x y hx hy e
  obtain ⟨h1, h2⟩ := rotL_get hx
  obtain ⟨h3, h4⟩ := rotL_get hy
  exact mod_inj h1 h3 (h _ _ x y h2 h4 e)

theorem rot_onto {n b j : Nat} (hj : j < n) : ∃ q, q < n ∧ (b + q) % n = j := by
  refine ⟨(j + n - b % n) % n, Nat.mod_lt _ (by omega), ?_⟩
  have hb : b % n < n := Nat.mod_lt _ (by omega)
  rw [Nat.add_mod, Nat.mod_mod]
  by_cases h : b % n ≤ j
  · have e : (j + n - b % n) % n = j - b % n := by
      rw [show j + n - b % n = (j - b % n) + n by omega, Nat.add_mod_right, Nat.mod_eq_of_lt (by omega)]
    rw [e, show b % n + (j - b % n) = j by omega, Nat.mod_eq_of_lt hj]
  · have e : (j + n - b % n) % n = j + n - b % n := Nat.mod_eq_of_lt (by omega)
    rw [e, show b % n + (j + n - b % n) = j + n by omega, Nat.add_mod_right, Nat.mod_eq_of_lt hj]

/-- what the statement says of the two answers, one by one -/
theorem turn_ok {xs ys : List Ent} (hx : Dist xs) (hy : Dist ys) {a b i : Nat} {p q : Int} (hi : i < xs.length)
    (hp : (TT xs ys)[(a + i) % xs.length]? = some p) (hq : (TT (rotL xs a) (rotL ys b))[i]? = some q) :
    (p = -1 ∧ q = -1) ∨ ∃ j : Nat, j < ys.length ∧ q = (j : Int) ∧ p = (((b + j) % ys.length : Nat) : Int) := by
  have hm : (a + i) % xs.length < xs.length := Nat.mod_lt _ (by omega)
  obtain ⟨X, hX⟩ := get_lt hm
  have hX' := rotL_mk (a := a) hi hX
  rcases TT_dist (rot_dist hx a) hX' hq with ⟨j, y, h1, h2, h3⟩ | ⟨h1, h2⟩
  · obtain ⟨hj, hyj⟩ := rotL_get h1
    rcases TT_dist hx hX hp with ⟨k, z, g1, g2, g3⟩ | ⟨g1, g2⟩
    · have := hy _ _ z y g1 hyj (g2.trans h2.symm)
      subst this
      exact Or.inr ⟨j, hj, h3, g3⟩
    · exact absurd h2 (g2 _ y hyj)
  · rcases TT_dist hx hX hp with ⟨k, z, g1, g2, g3⟩ | ⟨g1, g2⟩
    · exfalso
      have hk := (List.getElem?_eq_some_iff.1 g1).1
      obtain ⟨r, hr, er⟩ := rot_onto (b := b) hk
      exact h2 r z (rotL_mk hr (by rw [er]; exact g1)) g2
    · exact Or.inl ⟨g1, h1⟩
end Go.Proofs.Ytddnphidmpidcaa
