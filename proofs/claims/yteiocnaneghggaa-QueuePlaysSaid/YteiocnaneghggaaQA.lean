import Derived.Test.YteiocnaneghggaaHW9
namespace Go.Proofs.Yteiocnaneghggaa
open Go Go.RowKit

theorem cmpT_neg (x y : Th) : cmpT x y < 0 ↔ x.rank < y.rank := by unfold cmpT; split <;> (try split) <;> omega
theorem cmpT_zero (x y : Th) : cmpT x y = 0 ↔ x.rank = y.rank := by unfold cmpT; split <;> (try split) <;> omega

theorem ahead_T (a b : It) : ahead cmpT a b = true ↔ a.x.rank < b.x.rank ∨ (a.x.rank = b.x.rank ∧ a.no < b.no) := by
  unfold ahead
  rw [Bool.or_eq_true, Bool.and_eq_true, decide_eq_true_iff, decide_eq_true_iff, decide_eq_true_iff, cmpT_neg, cmpT_zero]
theorem ahead_B (a b : It) : ahead cmpB a b = true ↔ b.x.rank < a.x.rank ∨ (a.x.rank = b.x.rank ∧ a.no < b.no) := by
  unfold ahead cmpB
  rw [Bool.or_eq_true, Bool.and_eq_true, decide_eq_true_iff, decide_eq_true_iff, decide_eq_true_iff, cmpT_neg, cmpT_zero]
  constructor
  · rintro (h | ⟨h, k⟩)
    · exact Or.inl h
    · exact Or.inr ⟨h.symm, k⟩
  · rintro (h | ⟨h, k⟩)
    · exact Or.inl h
    · exact Or.inr ⟨h.symm, k⟩
theorem to_T : TO (ahead cmpT) := by
  refine ⟨fun a b h => ?_, fun a b c h k => ?_⟩
  · rw [← Bool.not_eq_true, ahead_T]; rw [ahead_T] at h; omega
  · rw [← Bool.not_eq_true, ahead_T] at h k ⊢; omega
theorem to_B : TO (ahead cmpB) := by
  refine ⟨fun a b h => ?_, fun a b c h k => ?_⟩
  · rw [← Bool.not_eq_true, ahead_B]; rw [ahead_B] at h; omega
  · rw [← Bool.not_eq_true, ahead_B] at h k ⊢; omega
theorem to_O (kk : Bool) : TO (ahead (cmpO kk)) := by
  cases kk
  · exact to_T
  · exact to_B
/-- among things put at unlike times the least one is one alone -/
theorem Hd.ahead_H (c : Nat) (a b : Hd.It) : Hd.ahead (Hd.cmpO c) a b = true ↔ a.x.rank < b.x.rank ∨ (a.x.rank = b.x.rank ∧ (a.x.list < b.x.list ∨ (a.x.list = b.x.list ∧ a.no < b.no))) := by
  unfold Hd.ahead Hd.cmpO
  have h1 := cmpT_neg a.x.th b.x.th
  have h2 := cmpT_zero a.x.th b.x.th
  unfold Hd.Th.th at h1 h2
  unfold Hd.Th.th
  simp only at h1 h2
  by_cases h0 : cmpT ⟨a.x.rank, a.x.id⟩ ⟨b.x.rank, b.x.id⟩ = 0
  · have := h2.1 h0
    rw [if_neg (by simp [h0]), Bool.or_eq_true, Bool.and_eq_true, decide_eq_true_iff, decide_eq_true_iff, decide_eq_true_iff]
    omega
  · have hn : a.x.rank ≠ b.x.rank := fun e => h0 (h2.2 e)
    rw [if_pos h0, Bool.or_eq_true, Bool.and_eq_true, decide_eq_true_iff, decide_eq_true_iff, decide_eq_true_iff, h1]
    omega
theorem Hd.to_H (c : Nat) : TO (Hd.ahead (Hd.cmpO c)) := by
  refine ⟨fun a b h => ?_, fun a b c h k => ?_⟩
  · rw [← Bool.not_eq_true, Hd.ahead_H]; rw [Hd.ahead_H] at h; omega
  · rw [← Bool.not_eq_true, Hd.ahead_H] at h k ⊢; omega
end Go.Proofs.Yteiocnaneghggaa
