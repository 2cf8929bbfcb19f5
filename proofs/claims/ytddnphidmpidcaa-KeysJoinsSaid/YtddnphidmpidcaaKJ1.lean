import Derived.Test.YtddnphidmpidcaaKJ0
import Derived.Test.YtddnphidmpidcaaKTakes
namespace Go.Proofs.Ytddnphidmpidcaa
open Go Go.RowKit

theorem getD_of {α : Type} {l : List α} {i : Nat} {y : α} (d : α) (h : l[i]? = some y) : l.getD i d = y := by rw [List.getD_eq_getElem?_getD, h]; rfl

theorem align_append (ys : List Ent) : ∀ (xs zs : List Ent) (out : List Int), alignL ((xs ++ zs).map Ent.nrm) (stG ys out) = alignL (xs.map Ent.nrm) (stG ys out) ++ alignL (zs.map Ent.nrm) (stG ys (out ++ alignL (xs.map Ent.nrm) (stG ys out)))
  | [], zs, out => by simp [alignL]
  | x :: xs, zs, out => by
    rw [List.cons_append, align_step, align_append ys xs zs, align_step]
    simp

theorem sorted_ext : ∀ {l1 l2 : List Int}, l1.Pairwise (· < ·) → l2.Pairwise (· < ·) → (∀ p, p ∈ l1 ↔ p ∈ l2) → l1 = l2
  | [], [], _, _, _ => rfl
  | [], b :: l2, _, _, h => by have := (h b).2 (by simp); simp at this
  | a :: l1, [], _, _, h => by have := (h a).1 (by simp); simp at this
  | a :: l1, b :: l2, h1, h2, h => by
    obtain ⟨p1, q1⟩ := List.pairwise_cons.1 h1
    obtain ⟨p2, q2⟩ := List.pairwise_cons.1 h2
    have hab : a = b := by
      rcases List.mem_cons.1 ((h a).1 (by simp)) with e | e
      · exact e
      · rcases List.mem_cons.1 ((h b).2 (by simp)) with e' | e'
        · exact e'.symm
        · have := p1 b e'; have := p2 a e; omega
    subst hab
    rw [sorted_ext q1 q2 (fun p => ?_)]
    have := h p
    simp only [List.mem_cons] at this
    constructor
    · intro hp
      rcases this.1 (Or.inr hp) with e | e
      · subst e; have := p1 p hp; omega
      · exact e
    · intro hp
      rcases this.2 (Or.inr hp) with e | e
      · subst e; have := p2 p hp; omega
      · exact e

theorem leftL_sorted (T : List Int) (m : Nat) : (leftL T m).Pairwise (· < ·) := by
  unfold leftL
  rw [List.pairwise_map]
  exact (List.pairwise_lt_range.filter _).imp (fun h => by omega)

/-- the entries at these places -/
def restL (ys : List Ent) (L : List Int) : List Ent := L.map (fun p => ys.getD p.toNat blankE)
theorem restL_len (ys : List Ent) (L : List Int) : (restL ys L).length = L.length := by simp [restL]

/-- what is left of the dictionary is the dictionary of what is left -/
theorem stG_rest (ys : List Ent) (a : List Int) (κ : REnt) : stG ys a κ = (plc (restL ys (leftL a ys.length)) κ).map (fun j => (leftL a ys.length).getD j.toNat (-1)) := by
  have hget : ∀ (j : Nat) (y : Ent), (restL ys (leftL a ys.length))[j]? = some y ↔ ∃ p : Nat, (leftL a ys.length)[j]? = some (p : Int) ∧ ys[p]? = some y := by
    intro j y
    unfold restL
    rw [List.getElem?_map]
    constructor
    · intro h
      obtain ⟨p, hp, e⟩ := Option.map_eq_some_iff.1 h
      obtain ⟨⟨i, hi, rfl⟩, _⟩ := (mem_leftL _ _ _).1 (List.mem_of_getElem? hp)
      refine ⟨i, hp, ?_⟩
      simp only [Int.toNat_natCast] at e
      obtain ⟨y0, hy0⟩ := get_lt hi
      rw [getD_of _ hy0] at e
      rw [hy0, e]
    · rintro ⟨p, hp, hy⟩
      rw [hp]
      simp only [Option.map_some, Int.toNat_natCast]
      rw [getD_of _ hy]
  refine sorted_ext (stG_sorted _ _ _) ?_ (fun p => ?_)
  · rw [List.pairwise_map]
    refine List.Pairwise.imp_of_mem ?_ (plcF_sorted _ 0 _)
    intro p q hp hq hlt
    obtain ⟨i, y, hi, _, rfl⟩ := (mem_plc _ _ _).1 hp
    obtain ⟨j, z, hj, _, rfl⟩ := (mem_plc _ _ _).1 hq
    obtain ⟨p', hp', _⟩ := (hget i y).1 hi
    obtain ⟨q', hq', _⟩ := (hget j z).1 hj
    simp only [Int.toNat_natCast, List.getD_eq_getElem?_getD, hp', hq', Option.getD_some]
    obtain ⟨l1, e1⟩ := List.getElem?_eq_some_iff.1 hp'
    obtain ⟨l2, e2⟩ := List.getElem?_eq_some_iff.1 hq'
    rw [← e1, ← e2]
    exact List.pairwise_iff_getElem.1 (leftL_sorted a ys.length) i j l1 l2 (by omega)
  · rw [mem_stG, List.mem_map]
    constructor
    · rintro ⟨⟨i, y, hy, hn, rfl⟩, hno⟩
      have hi := (List.getElem?_eq_some_iff.1 hy).1
      obtain ⟨j, hj⟩ := List.mem_iff_getElem?.1 ((mem_leftL a ys.length (i : Int)).2 ⟨⟨i, hi, rfl⟩, hno⟩)
      refine ⟨(j : Int), (mem_plc _ _ _).2 ⟨j, y, (hget j y).2 ⟨i, hj, hy⟩, hn, rfl⟩, ?_⟩
      simp [hj]
    · rintro ⟨q, hq, rfl⟩
      obtain ⟨j, y, hj, hn, rfl⟩ := (mem_plc _ _ _).1 hq
      obtain ⟨p', hp', hy⟩ := (hget j y).1 hj
      simp only [Int.toNat_natCast, List.getD_eq_getElem?_getD, hp', Option.getD_some]
      exact ⟨⟨p', y, hy, hn, rfl⟩, ((mem_leftL _ _ _).1 (List.mem_of_getElem? hp')).2⟩

theorem align_map (φ : Int → Int) : ∀ (vs : List REnt) (g g' : REnt → List Int), (∀ κ, g κ = (g' κ).map φ) → (∀ κ, ∀ p ∈ g' κ, 0 ≤ p) → alignL vs g = (alignL vs g').map (fun p => if 0 ≤ p then φ p else -1)
  | [], _, _, _, _ => rfl
  | v :: vs, g, g', h, h0 => by
    rw [alignL, alignL]
    cases hg : g' v with
    | nil =>
      have : g v = [] := by rw [h, hg]; rfl
      rw [this]
      simp only [List.map_cons]
      rw [align_map φ vs g g' h h0]
      rfl
    | cons p ps =>
      have : g v = φ p :: ps.map φ := by rw [h, hg]; rfl
      rw [this]
      simp only [List.map_cons]
      have hp : 0 ≤ p := h0 v p (by rw [hg]; simp)
      rw [if_pos hp, align_map φ vs (updG g v (ps.map φ)) (updG g' v ps) (fun κ => ?_) (fun κ q hq => ?_)]
      · unfold updG; split
        · rfl
        · exact h κ
      · unfold updG at hq
        split at hq
        · exact h0 v q (by rw [hg]; exact List.mem_cons_of_mem _ hq)
        · exact h0 κ q hq

/-- what is wanted of the second view -/
def wantJ (L : List Int) (p : Int) : Int := if 0 ≤ p then L.getD p.toNat (-1) else -1

theorem TT_join (xs zs ys : List Ent) : TT (xs ++ zs) ys = TT xs ys ++ (TT zs (restL ys (leftL (TT xs ys) ys.length))).map (wantJ (leftL (TT xs ys) ys.length)) := by
  have h1 := align_append ys xs zs []
  rw [stG_nil, List.nil_append] at h1
  unfold TT
  rw [h1]
  congr 1
  exact align_map (fun j => (leftL (alignL (xs.map Ent.nrm) (plc ys)) ys.length).getD j.toNat (-1)) _ _ _ (stG_rest ys _) (fun κ p hp => by
    obtain ⟨i, _, _, _, rfl⟩ := (mem_plc _ _ _).1 hp
    omega)
end Go.Proofs.Ytddnphidmpidcaa
