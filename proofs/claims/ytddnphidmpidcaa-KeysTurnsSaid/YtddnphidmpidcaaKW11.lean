import Derived.Test.YtddnphidmpidcaaKW10
namespace Go.Proofs.Ytddnphidmpidcaa
open Go Go.RowKit

theorem maxLen_big : 1000000 ≤ maxLen := by unfold maxLen; omega
def exView : List Ent := [⟨0, true, ⟨#[98]⟩⟩, ⟨0, true, ⟨#[99]⟩⟩, ⟨0, true, ⟨#[97]⟩⟩]
def exSource : List Ent := [⟨0, true, ⟨#[97]⟩⟩, ⟨0, true, ⟨#[98]⟩⟩]
theorem ex_align : alignL (exView.map Ent.nrm) (plc exSource) = [1, -1, 0] := by decide +kernel
theorem ex_small : (∀ x ∈ exView, x.key.size ≤ maxLen) ∧ (∀ x ∈ exSource, x.key.size ≤ maxLen) := by
  have h1 : ∀ x ∈ exView, x.key.size = 1 := by intro x hx; simp only [exView, List.mem_cons, List.not_mem_nil, or_false] at hx; rcases hx with rfl | rfl | rfl <;> rfl
  have h2 : ∀ x ∈ exSource, x.key.size = 1 := by intro x hx; simp only [exSource, List.mem_cons, List.not_mem_nil, or_false] at hx; rcases hx with rfl | rfl <;> rfl
  exact ⟨fun x hx => by rw [h1 x hx]; unfold maxLen; omega, fun x hx => by rw [h2 x hx]; unfold maxLen; omega⟩

theorem heap_alloc_new2 (w : World) (o o' : Obj) : ((w.alloc o).alloc o').heap[w.heap.size + 1]? = some o' := by simpa using heap_alloc_new (w.alloc o) o'

set_option maxHeartbeats 1000000 in
theorem awake_any (w : World) : Calls Try.prog 9 #[] w fun e w' => e = .returned (.bool true) ∧ Below w.heap.size w w' := by
  go_enter Try.func9, Try.ntmps9
  go_wp2_with fail
  refine (align_any (xs := exView) (ys := exSource) _ (Rd.lit Ent.enc 3 (g := w.heap.size) (cs := #[.int .i64 0, .bool true, .string ⟨#[98]⟩, .int .i64 0, .bool true, .string ⟨#[99]⟩, .int .i64 0, .bool true, .string ⟨#[97]⟩]) exView ((Below.heap_alloc _ _ _ (by simp)).trans (heap_alloc_new _ _)) rfl Ent.enc_len _ rfl (Nat.le_trans (by decide) maxLen_big)) (Rd.lit Ent.enc 3 (g := w.heap.size + 1) (cs := #[.int .i64 0, .bool true, .string ⟨#[97]⟩, .int .i64 0, .bool true, .string ⟨#[98]⟩]) exSource (heap_alloc_new2 _ _ _) rfl Ent.enc_len _ rfl (Nat.le_trans (by decide) maxLen_big)) (Nat.le_refl _) (by decide) (by decide) ex_small.1 ex_small.2).mono ?_
  rintro e w1 ⟨va, rfl, hra, hb1⟩
  rw [ex_align] at hra
  have hb : Below w.heap.size w w1 := Below.trans (by ((repeat (first | exact Below.refl _ _ | assumption | refine Below.alloc ?_ (by first | omega | (simp; done) | (simp; omega)) _ | refine Below.setCell ?_ (by first | omega | (simp; done) | (simp; omega)) _ | refine Below.drew ?_ | refine below_drewN ?_ _)); done)) (hb1.mono (by simp; omega))
  have hbz := hb.size
  go_wp2_with fail
  refine (ints_any (ys := [1, -1, 0]) _ (hra.below (B' := w1.heap.size) (by ((repeat (first | exact Below.refl _ _ | assumption | refine Below.alloc ?_ (by first | omega | (simp; done) | (simp; omega)) _ | refine Below.setCell ?_ (by first | omega | (simp; done) | (simp; omega)) _ | refine Below.drew ?_ | refine below_drewN ?_ _)); done)) (Nat.le_refl _)) (Rd.lit encI 1 (g := w1.heap.size) (cs := #[.int .i64 1, .int .i64 (-1), .int .i64 0]) [1, -1, 0] (heap_alloc_new _ _) rfl encI_len _ rfl (Nat.le_trans (by decide) maxLen_big)) (by simp) (Nat.le_refl _)).mono ?_
  rintro e w2 ⟨rfl, hb2⟩
  have hb' : Below w.heap.size w w2 := hb.trans (Below.trans (by ((repeat (first | exact Below.refl _ _ | assumption | refine Below.alloc ?_ (by first | omega | (simp; done) | (simp; omega)) _ | refine Below.setCell ?_ (by first | omega | (simp; done) | (simp; omega)) _ | refine Below.drew ?_ | refine below_drewN ?_ _)); done)) (hb2.mono (by have := hb.size; simp; omega)))
  go_wp2_with fail
  go_ret
  exact ⟨by simp, hb'⟩
end Go.Proofs.Ytddnphidmpidcaa
