import Derived.Test.YtddnphidmpidcaaKW11
namespace Go.Proofs.Ytddnphidmpidcaa
open Go Go.RowKit

theorem mat_iff (b c : Bool) (s t : ByteArray) : matchB b c s t = true ↔ (⟨b, nk b s⟩ : REnt) = ⟨c, nk c t⟩ := by
  cases b <;> cases c <;> simp [matchB, nk, ba_beq]
theorem plain_mat (x y : Ent) : REnt.mat x.plain y.plain = true ↔ x.nrm = y.nrm := mat_iff _ _ _ _

def plcF (ys : List Ent) (k : Nat) (κ : REnt) : List Int := ((ys.zipIdx k).filter (fun p => p.1.nrm = κ)).map (fun p => (p.2 : Int))
theorem plc_eq (ys : List Ent) (κ : REnt) : plc ys κ = plcF ys 0 κ := rfl
theorem plcF_nil (k : Nat) (κ : REnt) : plcF [] k κ = [] := rfl
theorem plcF_cons (y : Ent) (ys : List Ent) (k : Nat) (κ : REnt) : plcF (y :: ys) k κ = (if y.nrm = κ then [(k : Int)] else []) ++ plcF ys (k + 1) κ := by
  unfold plcF
  rw [List.zipIdx_cons]
  by_cases h : y.nrm = κ <;> simp [h]

theorem mem_plcF : ∀ (ys : List Ent) (k : Nat) (κ : REnt) (p : Int), p ∈ plcF ys k κ ↔ ∃ (i : Nat) (y : Ent), ys[i]? = some y ∧ y.nrm = κ ∧ p = ((k + i : Nat) : Int)
  | [], k, κ, p => by simp [plcF_nil]
  | y :: ys, k, κ, p => by
    rw [plcF_cons, List.mem_append, mem_plcF ys (k + 1) κ p]
    constructor
    · rintro (h | ⟨i, z, hz, h1, h2⟩)
      · split at h
        · rename_i hy
          simp at h
          exact ⟨0, y, rfl, hy, by simpa using h⟩
        · simp at h
      · exact ⟨i + 1, z, by simpa using hz, h1, by rw [h2]; congr 1; omega⟩
    · rintro ⟨i, z, hz, h1, h2⟩
      cases i with
      | zero =>
        simp at hz
        subst hz
        exact Or.inl (by rw [if_pos h1]; simpa using h2)
      | succ i => exact Or.inr ⟨i, z, by simpa using hz, h1, by rw [h2]; congr 1; omega⟩

theorem plcF_sorted : ∀ (ys : List Ent) (k : Nat) (κ : REnt), (plcF ys k κ).Pairwise (· < ·)
  | [], k, κ => by simp [plcF_nil]
  | y :: ys, k, κ => by
    rw [plcF_cons, List.pairwise_append]
    refine ⟨by split <;> simp, plcF_sorted ys (k + 1) κ, fun a ha b hb => ?_⟩
    obtain ⟨i, z, _, _, rfl⟩ := (mem_plcF _ _ _ _).1 hb
    split at ha
    · simp at ha; omega
    · simp at ha

theorem mem_plc (ys : List Ent) (κ : REnt) (p : Int) : p ∈ plc ys κ ↔ ∃ (i : Nat) (y : Ent), ys[i]? = some y ∧ y.nrm = κ ∧ p = (i : Int) := by
  rw [plc_eq, mem_plcF]; simp

/-- what the dictionary holds when these were taken -/
def stG (ys : List Ent) (out : List Int) (κ : REnt) : List Int := (plc ys κ).filter (fun p => decide (p ∉ out))
theorem stG_nil (ys : List Ent) : stG ys [] = plc ys := by funext κ; simp [stG]
theorem mem_stG (ys : List Ent) (out : List Int) (κ : REnt) (p : Int) : p ∈ stG ys out κ ↔ (∃ (i : Nat) (y : Ent), ys[i]? = some y ∧ y.nrm = κ ∧ p = (i : Int)) ∧ p ∉ out := by
  unfold stG; rw [List.mem_filter, mem_plc]; simp
theorem stG_sorted (ys : List Ent) (out : List Int) (κ : REnt) : (stG ys out κ).Pairwise (· < ·) := (plcF_sorted ys 0 κ).filter _

theorem stG_none (ys : List Ent) (out : List Int) : stG ys (out ++ [-1]) = stG ys out := by
  funext κ
  unfold stG
  refine List.filter_congr (fun p hp => ?_)
  obtain ⟨i, y, _, _, rfl⟩ := (mem_plc _ _ _).1 hp
  have : (i : Int) ≠ -1 := by omega
  simp [this]
theorem stG_some {ys : List Ent} {out : List Int} {v : REnt} {p : Int} {ps : List Int} (h : stG ys out v = p :: ps) : stG ys (out ++ [p]) = updG (stG ys out) v ps := by
  funext κ
  have hf : stG ys (out ++ [p]) κ = (stG ys out κ).filter (fun q => decide (q ≠ p)) := by
    unfold stG
    rw [List.filter_filter]
    refine List.filter_congr (fun q _ => ?_)
    by_cases h1 : q = p <;> by_cases h2 : q ∈ out <;> simp [h1, h2]
  rw [hf]
  unfold updG
  split
  · rename_i hk
    subst hk
    have hs := stG_sorted ys out κ
    rw [h] at hs ⊢
    rw [List.filter_cons_of_neg (by simp)]
    refine List.filter_eq_self.2 (fun q hq => ?_)
    have := (List.pairwise_cons.1 hs).1 q hq
    simp; omega
  · rename_i hk
    refine List.filter_eq_self.2 (fun q hq => ?_)
    have hp : p ∈ stG ys out v := by rw [h]; simp
    obtain ⟨⟨i, y, hi, hy, rfl⟩, _⟩ := (mem_stG _ _ _ _).1 hp
    obtain ⟨⟨j, z, hj, hz, rfl⟩, _⟩ := (mem_stG _ _ _ _).1 hq
    have : j ≠ i := by
      rintro rfl
      rw [hi] at hj; cases hj
      exact hk (hz.symm.trans hy)
    simp; omega

theorem refAt_eq (out : List Int) (v : Ent) : ∀ (ys : List Ent) (k : Nat), refAt out v.plain (ys.map Ent.plain) k = ((plcF ys k v.nrm).filter (fun p => decide (p ∉ out))).headD (-1)
  | [], k => by simp [refAt, plcF_nil]
  | y :: ys, k => by
    rw [List.map_cons, refAt, plcF_cons, List.filter_append]
    by_cases hm : v.nrm = y.nrm
    · rw [if_pos hm.symm]
      by_cases ho : (k : Int) ∈ out
      · rw [if_neg (fun h => h.1 ho), refAt_eq out v ys (k + 1)]
        simp [ho]
      · rw [if_pos ⟨ho, (plain_mat _ _).2 hm⟩]
        simp [ho]
    · rw [if_neg (fun h => hm ((plain_mat _ _).1 h.2)), if_neg (fun h => hm h.symm), refAt_eq out v ys (k + 1)]
      simp

/-- The program's answer is the document's. -/
theorem align_ref (ys : List Ent) : ∀ (xs : List Ent) (out : List Int), refL (ys.map Ent.plain) (xs.map Ent.plain) out = out ++ alignL (xs.map Ent.nrm) (stG ys out)
  | [], out => by simp [refL, alignL]
  | x :: xs, out => by
    rw [List.map_cons, refL, align_ref ys xs, refAt_eq, List.map_cons, alignL]
    show out ++ [(stG ys out x.nrm).headD (-1)] ++ alignL (xs.map Ent.nrm) (stG ys (out ++ [(stG ys out x.nrm).headD (-1)])) = _
    cases h : stG ys out x.nrm with
    | nil => simp [stG_none]
    | cons p ps => simp [stG_some h]
theorem align_is_ref (xs ys : List Ent) : refL (ys.map Ent.plain) (xs.map Ent.plain) [] = alignL (xs.map Ent.nrm) (plc ys) := by
  rw [align_ref, stG_nil, List.nil_append]

theorem bad_plain (x y : Ent) : REnt.bad x.plain y.plain = Ent.bad x y := rfl
theorem pair_plain (xs : List Ent) : pairB REnt.bad (xs.map Ent.plain) = pairB Ent.bad xs := by
  have h : PairN REnt.bad (xs.map Ent.plain) ↔ PairN Ent.bad xs := by
    constructor
    · intro h i k x y hk hx hy
      exact h i k x.plain y.plain hk (by simp [hx]) (by simp [hy])
    · intro h i k x y hk hx hy
      rw [List.getElem?_map] at hx hy
      obtain ⟨x', hx', rfl⟩ := Option.map_eq_some_iff.1 hx
      obtain ⟨y', hy', rfl⟩ := Option.map_eq_some_iff.1 hy
      exact h i k x' y' hk hx' hy'
  cases h1 : pairB Ent.bad xs
  · exact pairB_false.2 (fun h2 => pairB_false.1 h1 (h.1 h2))
  · exact pairB_true.2 (h.2 (pairB_true.1 h1))
end Go.Proofs.Ytddnphidmpidcaa
