import Derived.Test.YteiocnaneghggaaQR4
namespace Go.Proofs.Yteiocnaneghggaa
open Go Go.RowKit

/-- by rank, of one rank by number -/
def KL (a b : Th) : Prop := a.rank < b.rank ∨ (a.rank = b.rank ∧ a.id < b.id)
theorem KL.trans {a b c : Th} (h : KL a b) (k : KL b c) : KL a c := by unfold KL at *; omega
theorem KL.asym {a b : Th} (h : KL a b) : ¬ KL b a := by unfold KL at *; omega

/-- two lists that are in this order and hold the same are one -/
theorem kl_unique : ∀ (xs ys : List Th), xs.Pairwise KL → ys.Pairwise KL → xs.Perm ys → xs = ys
  | [], ys, _, _, hp => (List.nil_perm.1 hp).symm
  | x :: xs, [], _, _, hp => by simpa using hp.length_eq
  | x :: xs, y :: ys, hx, hy, hp => by
    obtain ⟨hx1, hx2⟩ := List.pairwise_cons.1 hx
    obtain ⟨hy1, hy2⟩ := List.pairwise_cons.1 hy
    have e : x = y := by
      apply Classical.byContradiction
      intro hne
      have h1 : x ∈ ys := by
        rcases List.mem_cons.1 (hp.subset (List.mem_cons_self ..)) with h | h
        · exact absurd h hne
        · exact h
      have h2 : y ∈ xs := by
        rcases List.mem_cons.1 (hp.symm.subset (List.mem_cons_self ..)) with h | h
        · exact absurd h.symm hne
        · exact h
      exact (hx1 y h2).asym (hy1 x h1)
    subst e
    rw [kl_unique xs ys hx2 hy2 ((List.perm_cons x).1 hp)]

/-- the things of lists, list by list -/
def allOf (n : Nat) (rem : Nat → List Th) : List Th := (List.range n).flatMap rem
def upd (rem : Nat → List Th) (i : Nat) (l : List Th) : Nat → List Th := fun j => if j = i then l else rem j

theorem allOf_upd (rem : Nat → List Th) (i : Nat) (m : Th) (rs : List Th) (hi : rem i = m :: rs) : ∀ (n : Nat), i < n → (m :: allOf n (upd rem i rs)).Perm (allOf n rem)
  | 0, h => absurd h (by omega)
  | n + 1, h => by
    unfold allOf
    rw [List.range_succ, List.flatMap_append, List.flatMap_append]
    simp only [List.flatMap_cons, List.flatMap_nil, List.append_nil]
    by_cases e : i = n
    · subst e
      have h1 : (List.range i).flatMap (upd rem i rs) = (List.range i).flatMap rem := by
        rw [List.flatMap_def, List.flatMap_def]
        refine congrArg List.flatten (List.map_congr_left (fun j hj => ?_))
        have : j < i := List.mem_range.1 hj
        unfold upd
        rw [if_neg (by omega)]
      rw [h1, hi]
      have h2 : upd rem i rs i = rs := by unfold upd; rw [if_pos rfl]
      rw [h2]
      exact (List.perm_middle).symm
    · have ih := allOf_upd rem i m rs hi n (by omega)
      have h2 : upd rem i rs n = rem n := by unfold upd; rw [if_neg (fun x => e x.symm)]
      rw [h2]
      exact List.Perm.append_right _ ih

theorem mem_allOf {n : Nat} {rem : Nat → List Th} {y : Th} : y ∈ allOf n rem ↔ ∃ i, i < n ∧ y ∈ rem i := by
  unfold allOf
  rw [List.mem_flatMap]
  constructor
  · rintro ⟨i, hi, hy⟩; exact ⟨i, List.mem_range.1 hi, hy⟩
  · rintro ⟨i, hi, hy⟩; exact ⟨i, List.mem_range.2 hi, hy⟩

/-- what merging asks of its lists: each in order, and the numbers of an earlier one are less than those of a later one -/
def Lined (n : Nat) (rem : Nat → List Th) : Prop :=
  (∀ i, i < n → (rem i).Pairwise KL) ∧ ∀ i j, i < j → j < n → ∀ x ∈ rem i, ∀ y ∈ rem j, x.id < y.id
theorem Lined.upd {n : Nat} {rem : Nat → List Th} (h : Lined n rem) {i : Nat} {m : Th} {rs : List Th} (hi : rem i = m :: rs) : Lined n (upd rem i rs) := by
  have hs : ∀ j y, y ∈ Yteiocnaneghggaa.upd rem i rs j → y ∈ rem j := by
    intro j y hy
    unfold Yteiocnaneghggaa.upd at hy
    by_cases e : j = i
    · subst e
      rw [if_pos rfl] at hy
      rw [hi]; exact List.mem_cons_of_mem _ hy
    · rw [if_neg e] at hy; exact hy
  refine ⟨fun j hj => ?_, fun a b hab hb x hx y hy => h.2 a b hab hb x (hs a x hx) y (hs b y hy)⟩
  unfold Yteiocnaneghggaa.upd
  by_cases e : j = i
  · subst e
    rw [if_pos rfl]
    have := h.1 j hj
    rw [hi] at this
    exact (List.pairwise_cons.1 this).2
  · rw [if_neg e]; exact h.1 j hj

/-- the heads in the queue are those of the lists that have some left -/
structure Heads (n : Nat) (rem : Nat → List Th) (S : List Hd.It) : Prop where
  head : ∀ t ∈ S, ∃ i rs, i < n ∧ t.x.list = (i : Int) ∧ rem i = ⟨t.x.rank, t.x.id⟩ :: rs
  all : ∀ i, i < n → rem i ≠ [] → ∃ t ∈ S, t.x.list = (i : Int)
  one : (S.map (fun t => t.x.list)).Nodup

/-- the least head is the least of all that is left -/
theorem heads_least {n c : Nat} {rem : Nat → List Th} {S : List Hd.It} {m : Hd.It} (hL : Lined n rem) (hH : Heads n rem S) (hleast : ∀ y ∈ S, Hd.ahead (Hd.cmpO c) y m = false) {i : Nat} {rs : List Th} (hi : i < n) (hmi : m.x.list = (i : Int)) (hr : rem i = ⟨m.x.rank, m.x.id⟩ :: rs) :
    ∀ y ∈ allOf n (upd rem i rs), KL ⟨m.x.rank, m.x.id⟩ y := by
  intro y hy
  obtain ⟨j, hj, hyj⟩ := mem_allOf.1 hy
  unfold upd at hyj
  by_cases e : j = i
  · subst e
    rw [if_pos rfl] at hyj
    have := hL.1 j hj
    rw [hr] at this
    exact (List.pairwise_cons.1 this).1 y hyj
  · rw [if_neg e] at hyj
    obtain ⟨t, ht, htl⟩ := hH.all j hj (fun h => by rw [h] at hyj; simp at hyj)
    obtain ⟨j', rt, hj', htl', hrt⟩ := hH.head t ht
    obtain rfl : j' = j := by omega
    have hlt := hleast t ht
    rw [← Bool.not_eq_true, Hd.ahead_H] at hlt
    have hmt : KL ⟨m.x.rank, m.x.id⟩ ⟨t.x.rank, t.x.id⟩ := by
      unfold KL
      simp only
      by_cases hrk : m.x.rank = t.x.rank
      · have hlist : (i : Int) < (j' : Int) := by omega
        exact Or.inr ⟨hrk, hL.2 i j' (by omega) hj ⟨m.x.rank, m.x.id⟩ (by rw [hr]; exact List.mem_cons_self ..) ⟨t.x.rank, t.x.id⟩ (by rw [hrt]; exact List.mem_cons_self ..)⟩
      · exact Or.inl (by omega)
    rw [hrt] at hyj
    rcases List.mem_cons.1 hyj with rfl | hyr
    · exact hmt
    · have := hL.1 j' hj
      rw [hrt] at this
      exact hmt.trans ((List.pairwise_cons.1 this).1 y hyr)
theorem heads_none {n : Nat} {rem : Nat → List Th} (hH : Heads n rem []) : allOf n rem = [] := by
  apply List.eq_nil_iff_forall_not_mem.2
  intro y hy
  obtain ⟨i, hi, hyi⟩ := mem_allOf.1 hy
  obtain ⟨t, ht, _⟩ := hH.all i hi (fun h => by rw [h] at hyi; simp at hyi)
  simp at ht
/-- m is taken; nothing is left of its list -/
theorem heads_take {n : Nat} {rem : Nat → List Th} {S S' : List Hd.It} {m : Hd.It} (hH : Heads n rem S) (hp : (S' ++ [m]).Perm S) {i : Nat} (hi : i < n) (hmi : m.x.list = (i : Int)) : Heads n (upd rem i []) S' := by
  have hone : (m.x.list :: S'.map (fun t => t.x.list)).Nodup := by
    have h1 := (hp.map (fun t => t.x.list)).nodup_iff.2 hH.one
    rw [List.map_append] at h1
    exact (List.perm_append_singleton _ _).nodup_iff.1 h1
  have hnm : ∀ t ∈ S', t.x.list ≠ (i : Int) := by
    intro t ht e
    exact (List.nodup_cons.1 hone).1 (by rw [hmi, ← e]; exact List.mem_map_of_mem ht)
  have hsub : ∀ t ∈ S', t ∈ S := fun t ht => hp.subset (List.mem_append_left _ ht)
  refine ⟨fun t ht => ?_, fun j hj hne => ?_, (List.nodup_cons.1 hone).2⟩
  · obtain ⟨j, rs, hj, htl, hr⟩ := hH.head t (hsub t ht)
    have hji : j ≠ i := fun e => hnm t ht (by rw [htl, e])
    exact ⟨j, rs, hj, htl, by unfold upd; rw [if_neg hji]; exact hr⟩
  · have hji : j ≠ i := by
      rintro rfl
      unfold upd at hne
      rw [if_pos rfl] at hne
      exact hne rfl
    unfold upd at hne
    rw [if_neg hji] at hne
    obtain ⟨t, ht, htl⟩ := hH.all j hj hne
    rcases List.mem_append.1 (hp.symm.subset ht) with h | h
    · exact ⟨t, h, htl⟩
    · rw [List.mem_singleton] at h
      subst h
      omega
/-- m is taken, and its list's next thing is put -/
theorem heads_put {n i : Nat} {rem : Nat → List Th} {S : List Hd.It} (hH : Heads n (upd rem i []) S) {t : Hd.It} {rs : List Th} (hi : i < n) (hti : t.x.list = (i : Int)) : Heads n (upd rem i (⟨t.x.rank, t.x.id⟩ :: rs)) (S ++ [t]) := by
  have hno : ∀ u ∈ S, u.x.list ≠ (i : Int) := by
    intro u hu e
    obtain ⟨j, r, hj, hl, hr⟩ := hH.head u hu
    obtain rfl : j = i := by omega
    unfold upd at hr
    rw [if_pos rfl] at hr
    cases hr
  refine ⟨fun u hu => ?_, fun j hj hne => ?_, ?_⟩
  · rcases List.mem_append.1 hu with h | h
    · obtain ⟨j, r, hj, hl, hr⟩ := hH.head u h
      have hji : j ≠ i := fun e => hno u h (by rw [hl, e])
      refine ⟨j, r, hj, hl, ?_⟩
      unfold upd at hr ⊢
      rw [if_neg hji] at hr ⊢
      exact hr
    · rw [List.mem_singleton] at h
      subst h
      exact ⟨i, rs, hi, hti, by unfold upd; rw [if_pos rfl]⟩
  · by_cases e : j = i
    · subst e
      exact ⟨t, by simp, hti⟩
    · unfold upd at hne
      rw [if_neg e] at hne
      obtain ⟨u, hu, hl⟩ := hH.all j hj (by unfold upd; rw [if_neg e]; exact hne)
      exact ⟨u, List.mem_append_left _ hu, hl⟩
  · rw [List.map_append]
    refine (List.perm_append_singleton _ _).nodup_iff.2 (List.nodup_cons.2 ⟨fun h => ?_, hH.one⟩)
    obtain ⟨u, hu, e⟩ := List.mem_map.1 h
    exact hno u hu (e.trans hti)
end Go.Proofs.Yteiocnaneghggaa
