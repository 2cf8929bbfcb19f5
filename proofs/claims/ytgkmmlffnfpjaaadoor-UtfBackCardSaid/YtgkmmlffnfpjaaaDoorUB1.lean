import Derived.Test.YtgkmmlffnfpjaaaDoorUC
namespace Go.Proofs.YtgkmmlffnfpjaaaDoor
open Go Go.RowKit

theorem pl_b : ∀ (cs : List Nat) (k : Nat), AllIs cs → (pl k cs).map Pr.b = cs
  | [], _, _ => rfl
  | c :: cs, k, h => by
    have hc := h c (List.mem_cons_self ..)
    rw [isB_nat] at hc
    show (mkPr k c).b :: (pl _ cs).map Pr.b = c :: cs
    rw [pl_b cs _ (fun r hr => h r (List.mem_cons_of_mem _ hr))]
    simp only [mkPr]
    rw [Nat.mod_eq_of_lt (by omega)]
theorem pre_b {cs : List Nat} (h : AllIs cs) {pre : List Pr} (hp : pre <+: pl 0 cs) : pre.map Pr.b <+: cs := by
  obtain ⟨t, ht⟩ := hp
  have := congrArg (List.map Pr.b) ht
  rw [List.map_append, pl_b cs 0 h] at this
  exact ⟨_, this⟩
theorem allIs_map {l : List Int} (h : AllZ l) : AllIs (l.map Int.toNat) := by
  intro r hr
  obtain ⟨x, hx, rfl⟩ := List.mem_map.1 hr
  have := h x hx
  obtain ⟨n, rfl⟩ := isB_toNat this
  simpa using this
theorem told_enc {l : List Int} (h : AllZ l) : Told (encZ l) (l.map Int.toNat) [] := ⟨by unfold encZ; rw [List.append_nil], allIs_map h⟩
theorem allZ_cast {cs : List Nat} (h : AllIs cs) : AllZ (cs.map (fun n : Nat => (n : Int))) := by
  intro r hr
  obtain ⟨n, hn, rfl⟩ := List.mem_map.1 hr
  exact h n hn
theorem encZ_cast (cs : List Nat) : encZ (cs.map (fun n : Nat => (n : Int))) = encB cs := by
  unfold encZ
  rw [List.map_map]
  congr 1
  conv => rhs; rw [← List.map_id cs]
  exact List.map_congr_left (fun n _ => by simp)
/-- what the first loop holds: what has come is the beginning -/
theorem bad_b {cs : List Nat} {k c : Nat} {pre : List Pr} (hk : pre.map Pr.b = cs.take k) (hc : cs[k]? = some c) (h : AllIs cs) {x : Pr} (hx : x.b ≠ c) : ¬ (pre ++ [x]) <+: pl 0 cs := by
  intro hp
  have h1 := pre_b h hp
  rw [List.map_append, hk, List.map_cons, List.map_nil] at h1
  obtain ⟨t, ht⟩ := h1
  have h2 : cs = cs.take k ++ c :: cs.drop (k + 1) := by
    obtain ⟨hl, rfl⟩ := List.getElem?_eq_some_iff.1 hc
    rw [← List.drop_eq_getElem_cons hl, List.take_append_drop]
  rw [List.append_assoc] at ht
  have h3 := ht.trans h2
  have h4 := List.append_cancel_left h3
  simp at h4
  exact hx h4.1

set_option maxRecDepth 100000 in
set_option maxHeartbeats 8000000 in
theorem back_long {v1 v2 : Value} {l : List Int} {bs : List UInt8} (w : World) (T : Tabs w) (hl : Rd encR 1 w w.heap.size v1 l) (hx : Rd encU 1 w w.heap.size v2 bs) (hn : 100 < l.length ∨ 200 < bs.length) : Calls Tryd.prog 6 #[v1, v2] w fun e w' => e = .returned (.bool true) ∧ Below w.heap.size w w' := by
  obtain ⟨A1, cap1, rfl, h1, h2, -⟩ := hl
  obtain ⟨A2, cap2, rfl, h3, h4, -⟩ := hx
  unfold maxLen at h2 h4
  have hcase : (100 : Int) < l.length ∨ ((l.length : Int) ≤ 100 ∧ (200 : Int) < bs.length) := by omega
  have hb0 : Below w.heap.size w ((w.alloc (.cells #[.slice A1 l.length cap1] 22)).alloc (.cells #[.bool false] 4)) := by ((repeat (first | exact Below.refl _ _ | assumption | refine Below.alloc ?_ (by first | omega | (simp; done) | (simp; omega)) _ | refine Below.setCell ?_ (by first | omega | (simp; done) | (simp; omega)) _ | refine Below.drew ?_ | refine below_drewN ?_ _)); done)
  have haw := awake_any _ (T.below hb0)
  have g0 : ((w.alloc (.cells #[.slice A1 l.length cap1] 22)).alloc (.cells #[.bool false] 4)).heap[w.heap.size + 1]? = some (.cells #[.bool false] 4 (0, 0)) := by
    have := heap_alloc_new (w.alloc (.cells #[.slice A1 l.length cap1] 22)) (.cells #[.bool false] 4)
    rwa [heap_size_alloc'] at this
  have hz0 : ((w.alloc (.cells #[.slice A1 l.length cap1] 22)).alloc (.cells #[.bool false] 4)).heap.size = w.heap.size + 2 := by simp
  have HG := Lib.hid g0
  have HZ := Lib.hid hz0
  clear g0 hz0
  rcases hcase with h | ⟨h, h'⟩
  · have hd1 : decide ((100 : Int) < l.length) = true := decide_eq_true h
    go_enter Tryd.func6, Tryd.ntmps6
    go_wp2_with fail
    refine haw.mono ?_
    rintro e w1 ⟨rfl, hb1⟩
    have g1 := (hb1.block (w.heap.size + 1) (by rw [HZ.out]; omega)).trans HG.out
    have k0 : w1.cell? ⟨w.heap.size + 1, 0, none⟩ = some (.bool false) := by rw [cell_of_row _ _ _ _ _ _ g1]; rfl
    have f0 : w1.frozen? ⟨w.heap.size + 1, 0, none⟩ = false := frozen_of_row _ _ _ _ _ g1
    clear haw
    go_wp2_with fail
    have g2 := heap_setCell_same w1 (w.heap.size + 1) 0 _ 4 (.bool true) g1
    have k2 := cell_of_row _ _ 0 _ _ _ g2
    refine bodyPost_ret (v := .bool true) (by simp [results, Tryd.results6, go_sem, k2]) rfl ?_
    exact ⟨rfl, Below.setCell (hb0.trans (hb1.mono hb0.size)) (by simp) _⟩
  · have hd1 : decide ((100 : Int) < l.length) = false := decide_eq_false (by omega)
    have hd2 : decide ((200 : Int) < bs.length) = true := decide_eq_true h'
    go_enter Tryd.func6, Tryd.ntmps6
    go_wp2_with fail
    refine haw.mono ?_
    rintro e w1 ⟨rfl, hb1⟩
    have g1 := (hb1.block (w.heap.size + 1) (by rw [HZ.out]; omega)).trans HG.out
    have k0 : w1.cell? ⟨w.heap.size + 1, 0, none⟩ = some (.bool false) := by rw [cell_of_row _ _ _ _ _ _ g1]; rfl
    have f0 : w1.frozen? ⟨w.heap.size + 1, 0, none⟩ = false := frozen_of_row _ _ _ _ _ g1
    clear haw
    go_wp2_with fail
    have g2 := heap_setCell_same w1 (w.heap.size + 1) 0 _ 4 (.bool true) g1
    have k2 := cell_of_row _ _ 0 _ _ _ g2
    refine bodyPost_ret (v := .bool true) (by simp [results, Tryd.results6, go_sem, k2]) rfl ?_
    exact ⟨rfl, Below.setCell (hb0.trans (hb1.mono hb0.size)) (by simp) _⟩
end Go.Proofs.YtgkmmlffnfpjaaaDoor
