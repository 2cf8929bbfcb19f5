import Derived.Test.YteiocnaneghggaaHW2
import Derived.Deep.RegionHeld3
namespace Go.Proofs.Yteiocnaneghggaa.Hd
open Go Go.RowKit

theorem as122 (W : World) (v : Value) : (Instr.typeAssert (.iface 122 v) 20 122 true).run Try.prog W = .ok (.tuple #[v, .bool true]) W := by kernel_rfl

set_option maxHeartbeats 4000000 in
set_option maxRecDepth 100000 in
theorem push_any {w : World} {h : Nat} {ov v : Value} {L : List It} (x : It) (H : HI w h ov v L) (hl : L.length ≤ 1000) : Calls Try.prog 89 #[.pointer (some ⟨h, 0, none⟩), .iface 122 (.agg #[.int .i64 x.x.rank, .int .i64 x.x.id, .int .i64 x.x.list, .slice x.x.ra x.x.rn x.x.rc, .int .i64 x.no])] w fun e w' => (∃ u, e = .returned u) ∧ ∃ v', HI w' h ov v' (L ++ [x]) ∧ (v'.ownBlock = v.ownBlock ∨ ∃ k, v'.ownBlock = some k ∧ w.heap.size ≤ k) ∧ Only (fun k => k = h ∨ v.ownBlock = some k) w w' := by
  have hown := H.2.1
  have hne := H.2.2
  have c0 := H.c0
  have f0 := H.f0
  have hlt := H.lt
  have has := as122 w (.agg #[.int .i64 x.x.rank, .int .i64 x.x.id, .int .i64 x.x.list, .slice x.x.ra x.x.rn x.x.rc, .int .i64 x.no])
  go_enter Try.func89, Try.ntmps89
  go_wp2_with fail
  obtain ⟨wq, hwq⟩ : ∃ wq : World, wq = w.alloc (.cells #[.int .i64 x.x.rank, .int .i64 x.x.id, .int .i64 x.x.list, .slice x.x.ra x.x.rn x.x.rc, .int .i64 x.no] 122) := ⟨_, rfl⟩
  have hqs : wq.heap.size = w.heap.size + 1 := by rw [hwq]; simp
  have hbq : Below w.heap.size w wq := by rw [hwq]; ((repeat (first | exact Below.refl _ _ | assumption | refine Below.alloc ?_ (by first | omega | (simp; done) | (simp; omega)) _ | refine Below.setCell ?_ (by first | omega | (simp; done) | (simp; omega)) _ | refine Below.drew ?_ | refine below_drewN ?_ _)); done)
  have q0 : wq.cell? ⟨h, 0, none⟩ = some v := Below.cell_some hbq c0 hlt
  have qh : wq.heap[h]? = some (.cells #[v, ov] 118 (0, 0)) := (hbq.block h hlt).trans H.1
  have qf : wq.frozen? ⟨h, 0, none⟩ = false := frozen_of_row _ _ _ _ _ qh
  have qt : wq.heap[w.heap.size]? = some (.cells #[.int .i64 x.x.rank, .int .i64 x.x.id, .int .i64 x.x.list, .slice x.x.ra x.x.rn x.x.rc, .int .i64 x.no] 122 (0, 0)) := by rw [hwq]; exact heap_alloc_new _ _
  have t0 : wq.cell? ⟨w.heap.size, 0, none⟩ = some (.int .i64 x.x.rank) := by rw [cell_of_row _ _ _ _ _ _ qt]; rfl
  have t1 : wq.cell? ⟨w.heap.size, 1, none⟩ = some (.int .i64 x.x.id) := by rw [cell_of_row _ _ _ _ _ _ qt]; rfl
  have t3 : wq.cell? ⟨w.heap.size, 3, none⟩ = some (.slice x.x.ra x.x.rn x.x.rc) := by rw [cell_of_row _ _ _ _ _ _ qt]; rfl
  have t4 : wq.cell? ⟨w.heap.size, 4, none⟩ = some (.int .i64 x.no) := by rw [cell_of_row _ _ _ _ _ _ qt]; rfl
  have t2 : wq.cell? ⟨w.heap.size, 2, none⟩ = some (.int .i64 x.x.list) := by rw [cell_of_row _ _ _ _ _ _ qt]; rfl
  have hownq := hown.below hbq
  rw [← hwq]
  have KEEP1 : ∀ wa wb sl, Below wq.heap.size wq wa → Only (fun k => v.ownBlock = some k) wa wb → Own It.enc 5 122 wb 0 sl (L ++ [x]) → (sl.ownBlock = v.ownBlock ∨ sl.ownBlock = some wa.heap.size) → (wb.cell? ⟨h, 0, none⟩ = some v ∧ wb.frozen? ⟨h, 0, none⟩ = false) ∧ Hid (HI (wb.setCell ⟨h, 0, none⟩ sl) h ov sl (L ++ [x]) ∧ (sl.ownBlock = v.ownBlock ∨ ∃ k, sl.ownBlock = some k ∧ w.heap.size ≤ k) ∧ Only (fun k => k = h ∨ v.ownBlock = some k) w (wb.setCell ⟨h, 0, none⟩ sl)) := by
    intro wa wb sl hb hO ho hloc
    have hz := hb.size
    have hh : wb.heap[h]? = some (.cells #[v, ov] 118 (0, 0)) := (hO.block h (by omega) hne).trans ((Below.block hb h (by omega)).trans qh)
    refine ⟨⟨by rw [cell_of_row _ _ _ _ _ _ hh]; rfl, frozen_of_row _ _ _ _ _ hh⟩, HI.re hh ho (fun e => ?_), ?_, ?_⟩
    · rcases hloc with h1 | h1
      · exact hne (h1.symm.trans e)
      · rw [h1] at e; cases e; omega
    · rcases hloc with h1 | h1
      · exact Or.inl h1
      · exact Or.inr ⟨_, h1, by omega⟩
    · have o1 : Only (fun k => k = h ∨ v.ownBlock = some k) w wa := Only.of_below (hbq.trans (hb.mono (by omega))) _
      have o2 : Only (fun k => k = h ∨ v.ownBlock = some k) wa wb := hO.mono (fun k _ hk => Or.inr hk)
      exact (o1.trans o2).trans ((only_setCell _ _ _ _).mono (fun k _ hk => Or.inl hk))
  have hn0 : wq.heap.size ≠ h := World.new_ne wq ⟨h, 0, none⟩ q0
  have hn1 : wq.heap.size ≠ w.heap.size := World.new_ne wq ⟨w.heap.size, 0, none⟩ t0
  have hn2 := hn0.symm
  have hn3 := hn1.symm
  have qA : ((wq.alloc (.cells #[.int .i64 x.x.rank, .int .i64 x.x.id, .int .i64 x.x.list, .slice x.x.ra x.x.rn x.x.rc, .int .i64 x.no] 122)).drew).cell? ⟨h, 0, none⟩ = some v := Below.cell_some (B := wq.heap.size) (w := wq) (by ((repeat (first | exact Below.refl _ _ | assumption | refine Below.alloc ?_ (by first | omega | (simp; done) | (simp; omega)) _ | refine Below.setCell ?_ (by first | omega | (simp; done) | (simp; omega)) _ | refine Below.drew ?_ | refine below_drewN ?_ _)); done)) q0 (show h < wq.heap.size by omega)
  have HBQ := Lib.hid hbq
  have HLT := Lib.hid hlt
  have HH := Lib.hid H
  have htb : w.heap.size < wq.heap.size := by omega
  clear c0 f0 has qt hwq hown hqs hbq hlt H
  generalize hE : w.heap.size = tb at t0 t1 t2 t3 t4 htb hn1 hn3 ⊢
  have HE := Lib.hid hE
  clear hE
  refine wp_region_any (by kernel_rfl) ?_
  refine wpAny_take (i := 0) (v := ?_) rfl (by kernel_rfl) (by kernel_rfl) (by kernel_rfl) (fun _ _ _ h => h) (Or.inl ⟨by rfl, ?_⟩) ?_
  rotate_left
  focus (intro ww; go_simp; try (with_reducible rfl))
  simp only [Act.put, List.setIfInBounds_toArray, List.set_cons_zero, List.set_cons_succ]
  refine wpAny_take (i := 1) (v := ?_) rfl (by kernel_rfl) (by kernel_rfl) (by kernel_rfl) (fun _ _ _ h => h) (Or.inl ⟨by rfl, ?_⟩) ?_
  rotate_left
  focus (intro ww; go_simp; try (with_reducible rfl))
  simp only [Act.put, List.setIfInBounds_toArray, List.set_cons_zero, List.set_cons_succ]
  refine wpAny_take (i := 2) (v := ?_) rfl (by kernel_rfl) (by kernel_rfl) (by kernel_rfl) (fun _ _ _ h => h) (Or.inl ⟨by rfl, ?_⟩) ?_
  rotate_left
  focus (intro ww; go_simp; try (with_reducible rfl))
  simp only [Act.put, List.setIfInBounds_toArray, List.set_cons_zero, List.set_cons_succ]
  refine wpAny_take (i := 3) (v := ?_) rfl (by kernel_rfl) (by kernel_rfl) (by kernel_rfl) (fun _ _ _ h => h) (Or.inl ⟨by rfl, ?_⟩) ?_
  rotate_left
  focus (intro ww; go_simp; try (with_reducible rfl))
  simp only [Act.put, List.setIfInBounds_toArray, List.set_cons_zero, List.set_cons_succ]
  refine wpAny_ready (rs := [4, 5]) (by kernel_rfl) (by simp) ?_
  refine AllReady.cons rfl (fun K hK => ?_) ?_
  · go_simp
    refine hK _ _ ?_
    refine wpAny_ready (rs := [5]) (by kernel_rfl) (by simp) ?_
    refine AllReady.cons rfl (fun K hK => ?_) AllReady.nil
    go_simp
    refine hK _ _ ?_
    refine wpAny_ready (rs := [6]) (by kernel_rfl) (by simp) ?_
    refine AllReady.cons rfl (fun K hK => ?_) AllReady.nil
    go_simp
    refine hK _ _ ?_
    refine wpAny_ready (rs := [7]) (by kernel_rfl) (by simp) ?_
    refine AllReady.cons rfl (fun K hK => ?_) AllReady.nil
    refine step_append_one _ (by rfl) _ _ _ (by rfl) It.enc It.enc_len It.enc_one T116 0 _ _ (by rfl) (Own.below (w := wq) hownq (by ((repeat (first | exact Below.refl _ _ | assumption | refine Below.alloc ?_ (by first | omega | (simp; done) | (simp; omega)) _ | refine Below.setCell ?_ (by first | omega | (simp; done) | (simp; omega)) _ | refine Below.drew ?_ | refine below_drewN ?_ _)); done))) x _ #[.int .i64 x.x.rank, .int .i64 x.x.id, .int .i64 x.x.list, .slice x.x.ra x.x.rn x.x.rc, .int .i64 x.no] (by rfl) (by rfl) (by ((repeat (first | exact heap_alloc_new _ _ | refine Eq.trans (Below.block (by assumption) _ (by first | omega | (simp; done) | (simp; omega))) ?_)); done)) (by omega) (by simp) ?_
    intro v1 w1 hown1 hb1 hO1 hloc1
    obtain ⟨A1, cap1, rfl⟩ := hown1.len_val
    have ⟨⟨q0', qf'⟩, hfin⟩ := KEEP1 _ _ _ (by ((repeat (first | exact Below.refl _ _ | assumption | refine Below.alloc ?_ (by first | omega | (simp; done) | (simp; omega)) _ | refine Below.setCell ?_ (by first | omega | (simp; done) | (simp; omega)) _ | refine Below.drew ?_ | refine below_drewN ?_ _)); done)) hO1 hown1 hloc1
    refine hK _ _ ?_
    simp only [Act.put, List.setIfInBounds_toArray, List.set_cons_zero, List.set_cons_succ]
    refine wpAny_take (i := 8) (v := ?_) rfl (by kernel_rfl) (by kernel_rfl) (by kernel_rfl) (fun _ _ _ h => h) (Or.inl ⟨by rfl, ?_⟩) ?_
    rotate_left
    focus (intro ww; go_simp; try (with_reducible rfl))
    simp only [Act.put, List.setIfInBounds_toArray, List.set_cons_zero, List.set_cons_succ]
    refine wpAny_take (i := 9) (v := ?_) rfl (by kernel_rfl) (by kernel_rfl) (by kernel_rfl) (fun _ _ _ h => h) (Or.inl ⟨by rfl, ?_⟩) ?_
    rotate_left
    focus (intro ww; go_simp; try (with_reducible rfl))
    simp only [Act.put, List.setIfInBounds_toArray, List.set_cons_zero, List.set_cons_succ]
    refine wpAny_ready (rs := [10]) (by kernel_rfl) (by simp) ?_
    refine AllReady.cons rfl (fun K hK => ?_) AllReady.nil
    go_simp
    refine hK _ _ ?_
    refine wpAny_done (by kernel_rfl) ?_ _
    go_wp2_with fail
    refine bodyPost_end (v := .tuple #[]) (by simp [results, Try.results89, go_sem]) rfl ?_
    have hf := hfin.out
    rw [show (L ++ [x]).length = L.length + 1 by simp] at hf
    exact ⟨⟨_, rfl⟩, _, hf⟩
  refine AllReady.cons rfl (fun K hK => ?_) AllReady.nil
  · go_simp
    refine hK _ _ ?_
    refine wpAny_ready (rs := [4, 6]) (by kernel_rfl) (by simp) ?_
    refine AllReady.cons rfl (fun K hK => ?_) ?_
    · go_simp
      refine hK _ _ ?_
      refine wpAny_ready (rs := [6]) (by kernel_rfl) (by simp) ?_
      refine AllReady.cons rfl (fun K hK => ?_) AllReady.nil
      go_simp
      refine hK _ _ ?_
      refine wpAny_ready (rs := [7]) (by kernel_rfl) (by simp) ?_
      refine AllReady.cons rfl (fun K hK => ?_) AllReady.nil
      refine step_append_one _ (by rfl) _ _ _ (by rfl) It.enc It.enc_len It.enc_one T116 0 _ _ (by rfl) (Own.below (w := wq) hownq (by ((repeat (first | exact Below.refl _ _ | assumption | refine Below.alloc ?_ (by first | omega | (simp; done) | (simp; omega)) _ | refine Below.setCell ?_ (by first | omega | (simp; done) | (simp; omega)) _ | refine Below.drew ?_ | refine below_drewN ?_ _)); done))) x _ #[.int .i64 x.x.rank, .int .i64 x.x.id, .int .i64 x.x.list, .slice x.x.ra x.x.rn x.x.rc, .int .i64 x.no] (by rfl) (by rfl) (by ((repeat (first | exact heap_alloc_new _ _ | refine Eq.trans (Below.block (by assumption) _ (by first | omega | (simp; done) | (simp; omega))) ?_)); done)) (by omega) (by simp) ?_
      intro v1 w1 hown1 hb1 hO1 hloc1
      obtain ⟨A1, cap1, rfl⟩ := hown1.len_val
      have ⟨⟨q0', qf'⟩, hfin⟩ := KEEP1 _ _ _ (by ((repeat (first | exact Below.refl _ _ | assumption | refine Below.alloc ?_ (by first | omega | (simp; done) | (simp; omega)) _ | refine Below.setCell ?_ (by first | omega | (simp; done) | (simp; omega)) _ | refine Below.drew ?_ | refine below_drewN ?_ _)); done)) hO1 hown1 hloc1
      refine hK _ _ ?_
      simp only [Act.put, List.setIfInBounds_toArray, List.set_cons_zero, List.set_cons_succ]
      refine wpAny_take (i := 8) (v := ?_) rfl (by kernel_rfl) (by kernel_rfl) (by kernel_rfl) (fun _ _ _ h => h) (Or.inl ⟨by rfl, ?_⟩) ?_
      rotate_left
      focus (intro ww; go_simp; try (with_reducible rfl))
      simp only [Act.put, List.setIfInBounds_toArray, List.set_cons_zero, List.set_cons_succ]
      refine wpAny_take (i := 9) (v := ?_) rfl (by kernel_rfl) (by kernel_rfl) (by kernel_rfl) (fun _ _ _ h => h) (Or.inl ⟨by rfl, ?_⟩) ?_
      rotate_left
      focus (intro ww; go_simp; try (with_reducible rfl))
      simp only [Act.put, List.setIfInBounds_toArray, List.set_cons_zero, List.set_cons_succ]
      refine wpAny_ready (rs := [10]) (by kernel_rfl) (by simp) ?_
      refine AllReady.cons rfl (fun K hK => ?_) AllReady.nil
      go_simp
      refine hK _ _ ?_
      refine wpAny_done (by kernel_rfl) ?_ _
      go_wp2_with fail
      refine bodyPost_end (v := .tuple #[]) (by simp [results, Try.results89, go_sem]) rfl ?_
      have hf := hfin.out
      rw [show (L ++ [x]).length = L.length + 1 by simp] at hf
      exact ⟨⟨_, rfl⟩, _, hf⟩
    refine AllReady.cons rfl (fun K hK => ?_) AllReady.nil
    · go_simp
      refine hK _ _ ?_
      refine wpAny_ready (rs := [4]) (by kernel_rfl) (by simp) ?_
      refine AllReady.cons rfl (fun K hK => ?_) AllReady.nil
      go_simp
      refine hK _ _ ?_
      refine wpAny_ready (rs := [7]) (by kernel_rfl) (by simp) ?_
      refine AllReady.cons rfl (fun K hK => ?_) AllReady.nil
      refine step_append_one _ (by rfl) _ _ _ (by rfl) It.enc It.enc_len It.enc_one T116 0 _ _ (by rfl) (Own.below (w := wq) hownq (by ((repeat (first | exact Below.refl _ _ | assumption | refine Below.alloc ?_ (by first | omega | (simp; done) | (simp; omega)) _ | refine Below.setCell ?_ (by first | omega | (simp; done) | (simp; omega)) _ | refine Below.drew ?_ | refine below_drewN ?_ _)); done))) x _ #[.int .i64 x.x.rank, .int .i64 x.x.id, .int .i64 x.x.list, .slice x.x.ra x.x.rn x.x.rc, .int .i64 x.no] (by rfl) (by rfl) (by ((repeat (first | exact heap_alloc_new _ _ | refine Eq.trans (Below.block (by assumption) _ (by first | omega | (simp; done) | (simp; omega))) ?_)); done)) (by omega) (by simp) ?_
      intro v1 w1 hown1 hb1 hO1 hloc1
      obtain ⟨A1, cap1, rfl⟩ := hown1.len_val
      have ⟨⟨q0', qf'⟩, hfin⟩ := KEEP1 _ _ _ (by ((repeat (first | exact Below.refl _ _ | assumption | refine Below.alloc ?_ (by first | omega | (simp; done) | (simp; omega)) _ | refine Below.setCell ?_ (by first | omega | (simp; done) | (simp; omega)) _ | refine Below.drew ?_ | refine below_drewN ?_ _)); done)) hO1 hown1 hloc1
      refine hK _ _ ?_
      simp only [Act.put, List.setIfInBounds_toArray, List.set_cons_zero, List.set_cons_succ]
      refine wpAny_take (i := 8) (v := ?_) rfl (by kernel_rfl) (by kernel_rfl) (by kernel_rfl) (fun _ _ _ h => h) (Or.inl ⟨by rfl, ?_⟩) ?_
      rotate_left
      focus (intro ww; go_simp; try (with_reducible rfl))
      simp only [Act.put, List.setIfInBounds_toArray, List.set_cons_zero, List.set_cons_succ]
      refine wpAny_take (i := 9) (v := ?_) rfl (by kernel_rfl) (by kernel_rfl) (by kernel_rfl) (fun _ _ _ h => h) (Or.inl ⟨by rfl, ?_⟩) ?_
      rotate_left
      focus (intro ww; go_simp; try (with_reducible rfl))
      simp only [Act.put, List.setIfInBounds_toArray, List.set_cons_zero, List.set_cons_succ]
      refine wpAny_ready (rs := [10]) (by kernel_rfl) (by simp) ?_
      refine AllReady.cons rfl (fun K hK => ?_) AllReady.nil
      go_simp
      refine hK _ _ ?_
      refine wpAny_done (by kernel_rfl) ?_ _
      go_wp2_with fail
      refine bodyPost_end (v := .tuple #[]) (by simp [results, Try.results89, go_sem]) rfl ?_
      have hf := hfin.out
      rw [show (L ++ [x]).length = L.length + 1 by simp] at hf
      exact ⟨⟨_, rfl⟩, _, hf⟩
end Go.Proofs.Yteiocnaneghggaa.Hd
