import Derived.Test.YtgkmmlffnfpjaaaDoorUR1
namespace Go.Proofs.YtgkmmlffnfpjaaaDoor
open Go Go.RowKit

/-- the number that the reference reckons -/
def accR (off : Int) (bs : List UInt8) : Nat → Int
  | 0 => (byt bs 0 : Int) - off
  | j + 1 => 64 * accR off bs j + (byt bs (j + 1) : Int) - 128
def offR (s : Nat) : Int := if s = 2 then 192 else if s = 3 then 224 else if s = 4 then 240 else 0
def numR (s : Nat) (bs : List UInt8) : Int := accR (offR s) bs (s - 1)
theorem accR_bound {off : Int} (h0 : 0 ≤ off) (h1 : off ≤ 240) (bs : List UInt8) : ∀ j, j ≤ 3 → -100000000 ≤ accR off bs j ∧ accR off bs j ≤ 100000000 ∧ (j ≤ 2 → -1500000 ≤ accR off bs j ∧ accR off bs j ≤ 1500000) := by
  have e0 := byt_lt bs 0
  have e1 := byt_lt bs (0 + 1)
  have e2 := byt_lt bs (1 + 1)
  have e3 := byt_lt bs (2 + 1)
  intro j hj
  have : j = 0 ∨ j = 1 ∨ j = 2 ∨ j = 3 := by omega
  rcases this with rfl | rfl | rfl | rfl <;> simp only [accR] <;> omega
/-- bytes of that size are that number's -/
def Match (s : Nat) (bs : List UInt8) : Prop := isB (numR s bs) = true ∧ bytesOf (numR s bs).toNat = bs.take s
theorem numR_bytesOf {r : Nat} (h : r ≤ 1114111) (rest : List UInt8) : numR (bytesOf r).length (bytesOf r ++ rest) = r := by
  have hb : ∀ i, i < (bytesN r).length → byt (bytesOf r ++ rest) i = (bytesN r).getD i 0 := fun i hi => by rw [byt_append _ _ _ (by rw [bytesOf_len]; exact hi), byt_bytesOf h]
  rw [bytesOf_len]
  generalize bytesOf r ++ rest = bs at hb
  unfold bytesN at hb ⊢
  split
  · rw [if_pos (by omega)] at hb
    have e0 := hb 0 (by simp)
    simp at e0
    simp [numR, offR, accR, e0]
  split
  · rw [if_neg (by omega), if_pos (by omega)] at hb
    have e0 := hb 0 (by simp)
    have e1 := hb 1 (by simp)
    simp at e0 e1
    simp [numR, offR, accR, e0, e1]
    omega
  split
  · rw [if_neg (by omega), if_neg (by omega), if_pos (by omega)] at hb
    have e0 := hb 0 (by simp)
    have e1 := hb 1 (by simp)
    have e2 := hb 2 (by simp)
    simp at e0 e1 e2
    simp [numR, offR, accR, e0, e1, e2]
    omega
  · rw [if_neg (by omega), if_neg (by omega), if_neg (by omega)] at hb
    have e0 := hb 0 (by simp)
    have e1 := hb 1 (by simp)
    have e2 := hb 2 (by simp)
    have e3 := hb 3 (by simp)
    simp at e0 e1 e2 e3
    simp [numR, offR, accR, e0, e1, e2, e3]
    omega
theorem match_chr {s : Nat} {bs : List UInt8} (hl : s ≤ bs.length) (h : Match s bs) : chr bs = some ((numR s bs).toNat, s) := by
  obtain ⟨h1, h2⟩ := h
  obtain ⟨m, hm⟩ := isB_toNat h1
  rw [hm, Int.toNat_natCast] at h2 ⊢
  rw [hm] at h1
  have h3 := chr_bytesOf h1 (bs.drop s)
  rw [h2, List.take_append_drop, List.length_take, Nat.min_eq_left hl] at h3
  exact h3
theorem chr_match {bs : List UInt8} {r s : Nat} (hne : bs ≠ []) (h : chr bs = some (r, s)) : Match s bs ∧ 1 ≤ s ∧ s ≤ 4 ∧ s ≤ bs.length := by
  obtain ⟨h1, h2, h3⟩ := chr_bytes hne h
  have h4 := bytesN_len r
  rw [← bytesOf_len, ← h2] at h4
  have hr : r ≤ 1114111 := by rw [isB_nat] at h1; omega
  have h5 := numR_bytesOf hr (bs.drop s)
  rw [← h3, ← h2] at h5
  have hl : s ≤ bs.length := by
    have := congrArg List.length h3
    rw [List.length_append, ← h2] at this
    omega
  refine ⟨⟨by rw [h5]; exact h1, ?_⟩, h4.1, h4.2, hl⟩
  rw [h5, Int.toNat_natCast]
  have := congrArg (List.take s) h3
  rw [List.take_left' h2.symm] at this
  exact this.symm
/-- no size below matches -/
def NoMatch (k : Nat) (bs : List UInt8) : Prop := ∀ s, 1 ≤ s → s < k → s ≤ bs.length → ¬ Match s bs
theorem noMatch_chr {bs : List UInt8} (hne : bs ≠ []) (h : NoMatch 5 bs ∨ (∃ k, NoMatch k bs ∧ bs.length < k)) : chr bs = none := by
  cases hc : chr bs with
  | none => rfl
  | some p =>
    obtain ⟨r, s⟩ := p
    obtain ⟨h1, h2, h3, h4⟩ := chr_match hne hc
    rcases h with h | ⟨k, h, hk⟩
    · exact absurd h1 (h s h2 (by omega) h4)
    · exact absurd h1 (h s h2 (by omega) h4)
end Go.Proofs.YtgkmmlffnfpjaaaDoor
