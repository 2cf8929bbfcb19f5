import Derived.Test.YteiocnaneghggaaQW3
namespace Go.Proofs.Yteiocnaneghggaa
open Go Go.RowKit

theorem flatMap_set3 (b : It) : ∀ (L : List It) (i : Nat), i < L.length → (((L.flatMap It.enc).set (i * 3) (.int .i64 b.x.rank)).set (i * 3 + 1) (.int .i64 b.x.id)).set (i * 3 + 2) (.int .i64 b.no) = (L.set i b).flatMap It.enc
  | [], i, h => by simp at h
  | x :: L, 0, _ => by simp [List.flatMap_cons, It.enc]
  | x :: L, i + 1, h => by
    have ih := flatMap_set3 b L i (by simpa using h)
    rw [List.set_cons_succ, List.flatMap_cons, List.flatMap_cons, ← ih]
    simp [It.enc, Nat.succ_mul]
/-- element i of the row in block g becomes b -/
def set3 (w : World) (g i : Nat) (b : It) : World := ((w.setCell ⟨g, i * 3, none⟩ (.int .i64 b.x.rank)).setCell ⟨g, i * 3 + 1, none⟩ (.int .i64 b.x.id)).setCell ⟨g, i * 3 + 2, none⟩ (.int .i64 b.no)
theorem own_set {w : World} {g n cap : Nat} {L : List It} (h : Own It.enc 3 64 w 0 (.slice (some ⟨g, 0, none⟩) n cap) L) (hn : n = L.length) {i : Nat} (hi : i < L.length) (b : It) : Own It.enc 3 64 (set3 w g i b) 0 (.slice (some ⟨g, 0, none⟩) n cap) (L.set i b) := by
  subst hn
  have h1 := (World.ownsRow.stored h (i * 3) (.int .i64 b.x.rank)).1
  have h2 := (World.ownsRow.stored h1 (i * 3 + 1) (.int .i64 b.x.id)).1
  have h3 := (World.ownsRow.stored h2 (i * 3 + 2) (.int .i64 b.no)).1
  rw [flatMap_set3 b L i hi] at h3
  unfold Own set3
  rw [List.length_set]
  exact h3
theorem only_set3 (w : World) (g i : Nat) (b : It) : Only (fun k => k = g) w (set3 w g i b) := by
  unfold set3
  exact ((only_setCell _ _ _ _).trans (only_setCell _ _ _ _)).trans (only_setCell _ _ _ _)
theorem swap_world {w : World} {h g cap : Nat} {ov : Value} {L : List It} (H : HI w h ov (.slice (some ⟨g, 0, none⟩) L.length cap) L) {i j : Nat} {a b : It} (hi : i < L.length) (hj : j < L.length) :
    HI ((set3 (set3 w g i b) g j a).drew) h ov (.slice (some ⟨g, 0, none⟩) L.length cap) ((L.set i b).set j a) ∧
    Only (fun k => (Value.slice (some ⟨g, 0, none⟩) L.length cap).ownBlock = some k) w ((set3 (set3 w g i b) g j a).drew) := by
  have o1 := own_set H.2.1 rfl hi b
  have f1 := only_set3 w g i b
  obtain ⟨W1, hW1⟩ : ∃ W1, W1 = set3 w g i b := ⟨_, rfl⟩
  rw [← hW1] at o1 f1 ⊢
  have o2 := own_set o1 (by simp) (show j < (L.set i b).length by simpa using hj) a
  have f2 := f1.trans (only_set3 W1 g j a)
  obtain ⟨W2, hW2⟩ : ∃ W2, W2 = set3 W1 g j a := ⟨_, rfl⟩
  rw [← hW2] at o2 f2 ⊢
  have f3 := f2.drewN 1
  refine ⟨⟨(f2.block h H.lt (fun e => H.2.2 (by rw [e]; rfl))).trans H.1, o2, H.2.2⟩, f3.mono (fun k _ hk => by rw [hk]; rfl)⟩

set_option maxHeartbeats 4000000 in
set_option maxRecDepth 100000 in
theorem swap_any {w : World} {h : Nat} {ov v : Value} {L : List It} (H : HI w h ov v L) {i j : Nat} {a b : It} (hi : L[i]? = some a) (hj : L[j]? = some b) : Calls Try.prog 76 #[.pointer (some ⟨h, 0, none⟩), .int .i64 i, .int .i64 j] w fun e w' => (∃ u, e = .returned u) ∧ HI w' h ov v ((L.set i b).set j a) ∧ Only (fun k => v.ownBlock = some k) w w' := by
  have hil := (List.getElem?_eq_some_iff.1 hi).1
  have hjl := (List.getElem?_eq_some_iff.1 hj).1
  obtain ⟨g, cap, rfl, h1, h2, hgh, hgw, hc, hf⟩ := H.row (by omega)
  have c0 := H.c0
  have hlt := H.lt
  obtain ⟨a0, a1, a2⟩ := hc i a hi
  obtain ⟨b0, b1, b2⟩ := hc j b hj
  unfold maxLen at h2
  have f0 := hf (i * 3)
  have f1 := hf (i * 3 + 1)
  have f2 := hf (i * 3 + 2)
  have g0 := hf (j * 3)
  have g1 := hf (j * 3 + 1)
  have g2 := hf (j * 3 + 2)
  clear hc hf
  go_enter Try.func76, Try.ntmps76
  go_wp2_with fail
  by_cases hij : i = j
  · subst hij
    obtain rfl : a = b := by rw [hi] at hj; cases hj; rfl
    go_region
    go_wp2_with fail
    refine bodyPost_end (v := .tuple #[]) (by simp [results, Try.results76, go_sem]) rfl ?_
    exact ⟨⟨_, rfl⟩, swap_world H hil hil⟩
  · go_region
    go_wp2_with fail
    refine bodyPost_end (v := .tuple #[]) (by simp [results, Try.results76, go_sem]) rfl ?_
    exact ⟨⟨_, rfl⟩, swap_world H hil hjl⟩
end Go.Proofs.Yteiocnaneghggaa
