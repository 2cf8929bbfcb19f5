import Derived.Test.YteiocnaneghggaaHW8
namespace Go.Proofs.Yteiocnaneghggaa.Hd
open Go Go.RowKit

set_option maxHeartbeats 4000000 in
set_option maxRecDepth 100000 in
theorem put_any {w : World} {q : Nat} {kk : Nat} (T : TO (ahead (cmpO kk))) {S : List It} {no : Nat} {F : Nat → Prop} (Q : QI w q kk S no F) (x : Th) (hl : S.length ≤ 900) (hno : no ≤ 1000000) : Calls Try.prog 41 #[.pointer (some ⟨q, 0, none⟩), x.val] w fun e w' => e = .returned (.int .i64 0) ∧ QI w' q kk (S ++ [⟨x, no⟩]) (no + 1) (fun k => F k ∨ w.heap.size ≤ k) ∧ Only F w w' := by
  obtain ⟨h, v, L, h1, H, h3, h4, h5, h6, fq, fh, fv, fc, nc⟩ := Q.ex
  have hckh : kk ≠ h := fun e => nc (e ▸ fh)
  have hckq : kk ≠ q := fun e => nc (e ▸ fq)
  have hvck : v.ownBlock ≠ some kk := fun e => nc (fv _ e)
  have hckl := fc.lt
  have hll : L.length ≤ 900 := by rw [h4.length_eq]; exact hl
  have hq : q < w.heap.size := (Array.getElem?_eq_some_iff.1 h1).1
  have hh := H.lt
  obtain ⟨W0, hW0⟩ : ∃ W0 : World, W0 = w.alloc (.cells #[.int .i64 x.rank, .int .i64 x.id, .int .i64 x.list, .slice x.ra x.rn x.rc] 93) := ⟨_, rfl⟩
  have hb0 : Below w.heap.size w W0 := by rw [hW0]; ((repeat (first | exact Below.refl _ _ | assumption | refine Below.alloc ?_ (by first | omega | (simp; done) | (simp; omega)) _ | refine Below.setCell ?_ (by first | omega | (simp; done) | (simp; omega)) _ | refine Below.drew ?_ | refine below_drewN ?_ _)); done)
  have hz0 : W0.heap.size = w.heap.size + 1 := by rw [hW0]; simp
  have hx0 : W0.heap[w.heap.size]? = some (.cells #[.int .i64 x.rank, .int .i64 x.id, .int .i64 x.list, .slice x.ra x.rn x.rc] 93 (0, 0)) := by rw [hW0]; exact heap_alloc_new _ _
  have H0 := H.below hb0
  have KEEP0 : ∀ wa, Below W0.heap.size W0 wa → wa.cell? ⟨q, 0, none⟩ = some (.pointer (some ⟨h, 0, none⟩)) ∧ wa.cell? ⟨q, 1, none⟩ = some (.int .i64 no) ∧ wa.cell? ⟨w.heap.size, 0, none⟩ = some (.int .i64 x.rank) ∧ wa.cell? ⟨w.heap.size, 1, none⟩ = some (.int .i64 x.id) ∧ wa.cell? ⟨w.heap.size, 2, none⟩ = some (.int .i64 x.list) ∧ wa.cell? ⟨w.heap.size, 3, none⟩ = some (.slice x.ra x.rn x.rc) := by
    intro wa hb
    have g1 : wa.heap[q]? = some (.cells #[.pointer (some ⟨h, 0, none⟩), .int .i64 no] 120 (0, 0)) := ((hb.block q (by omega)).trans (hb0.block q hq)).trans h1
    have g2 := (hb.block w.heap.size (by omega)).trans hx0
    exact ⟨by rw [cell_of_row _ _ _ _ _ _ g1]; rfl, by rw [cell_of_row _ _ _ _ _ _ g1]; rfl, by rw [cell_of_row _ _ _ _ _ _ g2]; rfl, by rw [cell_of_row _ _ _ _ _ _ g2]; rfl, by rw [cell_of_row _ _ _ _ _ _ g2]; rfl, by rw [cell_of_row _ _ _ _ _ _ g2]; rfl⟩
  have KEEP1 : ∀ wa wb, Below W0.heap.size W0 wa → Only (fun k => k = h ∨ v.ownBlock = some k) wa wb → wb.cell? ⟨q, 0, none⟩ = some (.pointer (some ⟨h, 0, none⟩)) ∧ wb.cell? ⟨q, 1, none⟩ = some (.int .i64 no) ∧ wb.cell? ⟨w.heap.size, 0, none⟩ = some (.int .i64 x.rank) ∧ wb.cell? ⟨w.heap.size, 1, none⟩ = some (.int .i64 x.id) ∧ wb.cell? ⟨w.heap.size, 2, none⟩ = some (.int .i64 x.list) ∧ wb.cell? ⟨w.heap.size, 3, none⟩ = some (.slice x.ra x.rn x.rc) := by
    intro wa wb hb hO
    have hz := hb.size
    have nq : ¬ (q = h ∨ v.ownBlock = some q) := by rintro (e | e); exact h5 e.symm; exact h6 e
    have nx : ¬ (w.heap.size = h ∨ v.ownBlock = some w.heap.size) := by rintro (e | e); omega; exact absurd (H.2.1.lt _ e).2 (by omega)
    have g1 : wb.heap[q]? = some (.cells #[.pointer (some ⟨h, 0, none⟩), .int .i64 no] 120 (0, 0)) := (hO.block q (by omega) nq).trans (((hb.block q (by omega)).trans (hb0.block q hq)).trans h1)
    have g2 := (hO.block w.heap.size (by omega) nx).trans ((hb.block w.heap.size (by omega)).trans hx0)
    exact ⟨by rw [cell_of_row _ _ _ _ _ _ g1]; rfl, by rw [cell_of_row _ _ _ _ _ _ g1]; rfl, by rw [cell_of_row _ _ _ _ _ _ g2]; rfl, by rw [cell_of_row _ _ _ _ _ _ g2]; rfl, by rw [cell_of_row _ _ _ _ _ _ g2]; rfl, by rw [cell_of_row _ _ _ _ _ _ g2]; rfl⟩
  have hpush : ∀ wa, Below W0.heap.size W0 wa → Calls Try.prog 35 #[ifT h, .iface 122 (It.val ⟨x, no⟩)] wa fun e w' => (∃ u, e = .returned u) ∧ ∃ v' L', HI w' h (ovT kk) v' L' ∧ L'.Perm (L ++ [⟨x, no⟩]) ∧ HeapI (ahead (cmpO kk)) L' L'.length ∧ (v'.ownBlock = v.ownBlock ∨ ∃ k, v'.ownBlock = some k ∧ wa.heap.size ≤ k) ∧ Only (fun k => k = h ∨ v.ownBlock = some k) wa w' :=
    fun wa hb => hpush_any kk T ((fc.below hb0).below hb) hckh hvck ⟨x, no⟩ (H0.below hb) hll h3
  unfold ifT It.val at hpush
  have FIN : ∀ wa wb v' L', Below W0.heap.size W0 wa → Only (fun k => k = h ∨ v.ownBlock = some k) wa wb → HI wb h (ovT kk) v' L' → L'.Perm (L ++ [⟨x, no⟩]) → HeapI (ahead (cmpO kk)) L' L'.length → (v'.ownBlock = v.ownBlock ∨ ∃ k, v'.ownBlock = some k ∧ wa.heap.size ≤ k) → wb.frozen? ⟨q, 1, none⟩ = false ∧ Hid (QI (wb.setCell ⟨q, 1, none⟩ (.int .i64 ((no : Int) + 1))) q kk (S ++ [⟨x, no⟩]) (no + 1) (fun k => F k ∨ w.heap.size ≤ k) ∧ Only F w (wb.setCell ⟨q, 1, none⟩ (.int .i64 ((no : Int) + 1)))) := by
    intro wa wb v' L' hb hO H' hp hH hloc
    have hz := hb.size
    have nq : ¬ (q = h ∨ v.ownBlock = some q) := by rintro (e | e); exact h5 e.symm; exact h6 e
    have g1 : wb.heap[q]? = some (.cells #[.pointer (some ⟨h, 0, none⟩), .int .i64 no] 120 (0, 0)) := (hO.block q (by omega) nq).trans (((hb.block q (by omega)).trans (hb0.block q hq)).trans h1)
    have oS := only_setCell wb q 1 (.int .i64 ((no : Int) + 1))
    refine ⟨frozen_of_row _ _ _ _ _ g1, ⟨⟨h, v', L', ?_, ?_, hH, hp.trans (h4.append_right _), h5, ?_, Or.inl fq, Or.inl fh, ?_, ?_, ?_⟩⟩, ?_⟩
    · have := heap_setCell_same wb q 1 _ 120 (.int .i64 ((no : Int) + 1)) g1
      rw [this]; rfl
    · exact ⟨(oS.block h H'.lt (fun e => h5 e)).trans H'.1, H'.2.1.kept oS (fun k hk e => by
        subst e
        rcases hloc with e1 | ⟨i, e1, e2⟩
        · exact h6 (e1 ▸ hk)
        · rw [e1] at hk; cases hk; omega), H'.2.2⟩
    · rcases hloc with e1 | ⟨i, e1, e2⟩
      · rw [e1]; exact h6
      · rw [e1]; intro e; cases e; omega
    · intro k hk
      rcases hloc with e1 | ⟨i, e1, e2⟩
      · exact Or.inl (fv k (e1 ▸ hk))
      · rw [e1] at hk; cases hk; exact Or.inr (by omega)
    · refine OrdC.only2 ?_ oS hckq
      refine OrdC.only2 ((fc.below hb0).below hb) hO ?_
      rintro (e | e)
      · exact hckh e
      · exact hvck e
    · rintro (e | e)
      · exact nc e
      · omega
    · have o1 : Only F w wa := Only.of_below (hb0.trans (hb.mono (by omega))) _
      have o2 : Only F wa wb := hO.mono (fun k _ hk => by rcases hk with rfl | hk; exact fh; exact fv k hk)
      exact (o1.trans o2).trans (oS.mono (fun k _ hk => by rw [hk]; exact fq))
  clear H0 hx0 H h3 h4 h1 Q T fc hckl
  have HZ := Lib.hid hz0
  have hqW : q < W0.heap.size := by omega
  clear hz0 hb0
  unfold Th.val
  go_enter Try.func41, Try.ntmps41
  go_wp2_with fail
  rw [← hW0]
  clear hW0
  generalize hX : w.heap.size = n0 at KEEP0 KEEP1 FIN HZ hq hh ⊢
  go_region_held3 (fun w' => w'.cell? ⟨q, 0, none⟩ = some (.pointer (some ⟨h, 0, none⟩)) ∧ w'.cell? ⟨q, 1, none⟩ = some (.int .i64 no) ∧ w'.cell? ⟨n0, 0, none⟩ = some (.int .i64 x.rank) ∧ w'.cell? ⟨n0, 1, none⟩ = some (.int .i64 x.id) ∧ w'.cell? ⟨n0, 2, none⟩ = some (.int .i64 x.list) ∧ w'.cell? ⟨n0, 3, none⟩ = some (.slice x.ra x.rn x.rc))
    (first | (refine KEEP0 _ ?_; ((repeat (first | exact Below.refl _ _ | assumption | refine Below.alloc ?_ (by first | omega | (simp; done) | (simp; omega)) _ | refine Below.setCell ?_ (by first | omega | (simp; done) | (simp; omega)) _ | refine Below.drew ?_ | refine below_drewN ?_ _)); done)) | (refine KEEP1 _ _ ?_ hO1; ((repeat (first | exact Below.refl _ _ | assumption | refine Below.alloc ?_ (by first | omega | (simp; done) | (simp; omega)) _ | refine Below.setCell ?_ (by first | omega | (simp; done) | (simp; omega)) _ | refine Below.drew ?_ | refine below_drewN ?_ _)); done)) | go_keep)
    (first | (go_at_call 35; refine (hpush _ (by ((repeat (first | exact Below.refl _ _ | assumption | refine Below.alloc ?_ (by first | omega | (simp; done) | (simp; omega)) _ | refine Below.setCell ?_ (by first | omega | (simp; done) | (simp; omega)) _ | refine Below.drew ?_ | refine below_drewN ?_ _)); done))).mono ?_; rintro e w1 ⟨⟨u, rfl⟩, v', L', H1, hp1, hh1, hloc1, hO1⟩; have ⟨qf, hfin⟩ := FIN _ _ _ _ (by ((repeat (first | exact Below.refl _ _ | assumption | refine Below.alloc ?_ (by first | omega | (simp; done) | (simp; omega)) _ | refine Below.setCell ?_ (by first | omega | (simp; done) | (simp; omega)) _ | refine Below.drew ?_ | refine below_drewN ?_ _)); done)) hO1 H1 hp1 hh1 hloc1; clear hp1 hh1 hloc1 H1))
  go_wp2_with fail
  go_ret
  subst hX
  exact ⟨rfl, hfin.out⟩

set_option maxHeartbeats 4000000 in
set_option maxRecDepth 100000 in
theorem take_any {w : World} {q : Nat} {kk : Nat} (T : TO (ahead (cmpO kk))) {S : List It} {no : Nat} {F : Nat → Prop} (Q : QI w q kk S no F) (hl : S.length ≤ 900) : Calls Try.prog 42 #[.pointer (some ⟨q, 0, none⟩)] w fun e w' => (∃ m S', Least kk S m ∧ (S' ++ [m]).Perm S ∧ e = .returned (.tuple #[m.x.val, .int .i64 0]) ∧ QI w' q kk S' no F ∧ Only F w w') ∨ (S = [] ∧ e = .returned (.tuple #[.agg #[.int .i64 0, .int .i64 0, .int .i64 0, .slice none 0 0], .int .i64 16]) ∧ Below w.heap.size w w') := by
  obtain ⟨h, v, L, h1, H, h3, h4, h5, h6, fq, fh, fv, fc, nc⟩ := Q.ex
  have hckh : kk ≠ h := fun e => nc (e ▸ fh)
  have hckq : kk ≠ q := fun e => nc (e ▸ fq)
  have hvck : v.ownBlock ≠ some kk := fun e => nc (fv _ e)
  have hckl := fc.lt
  have hll : L.length ≤ 900 := by rw [h4.length_eq]; exact hl
  have hq : q < w.heap.size := (Array.getElem?_eq_some_iff.1 h1).1
  have hh := H.lt
  obtain ⟨W0, hW0⟩ : ∃ W0 : World, W0 = w.alloc (.cells #[.int .i64 0, .int .i64 0, .int .i64 0, .slice none 0 0] 93) := ⟨_, rfl⟩
  have hb0 : Below w.heap.size w W0 := by rw [hW0]; ((repeat (first | exact Below.refl _ _ | assumption | refine Below.alloc ?_ (by first | omega | (simp; done) | (simp; omega)) _ | refine Below.setCell ?_ (by first | omega | (simp; done) | (simp; omega)) _ | refine Below.drew ?_ | refine below_drewN ?_ _)); done)
  have hz0 : W0.heap.size = w.heap.size + 1 := by rw [hW0]; simp
  have hx0 : W0.heap[w.heap.size]? = some (.cells #[.int .i64 0, .int .i64 0, .int .i64 0, .slice none 0 0] 93 (0, 0)) := by rw [hW0]; exact heap_alloc_new _ _
  have H0 := H.below hb0
  go_enter Try.func42, Try.ntmps42
  go_wp2_with fail
  rw [← hW0]
  refine (peek_raw ((hb0.block q hq).trans h1) H0).mono ?_
  rintro e w1 ⟨hcase, hb1⟩
  have hz1 := hb1.size
  have H1 := H0.below hb1
  have hx1 : w1.heap[w.heap.size]? = some (.cells #[.int .i64 0, .int .i64 0, .int .i64 0, .slice none 0 0] 93 (0, 0)) := (hb1.block _ (by omega)).trans hx0
  have hq1 : w1.heap[q]? = some (.cells #[.pointer (some ⟨h, 0, none⟩), .int .i64 no] 120 (0, 0)) := (hb1.block q (by omega)).trans ((hb0.block q hq).trans h1)
  have hb01 : Below w.heap.size w w1 := hb0.trans (hb1.mono (by omega))
  rcases hcase with ⟨m, hm, rfl⟩ | ⟨rfl, rfl⟩
  · have hleast := Lib.hid (least_of T h3 h4 hm)
    obtain ⟨W2, hW2⟩ : ∃ W2 : World, W2 = w1.alloc (.cells #[.int .i64 m.x.rank, .int .i64 m.x.id, .int .i64 m.x.list, .slice m.x.ra m.x.rn m.x.rc] 93) := ⟨_, rfl⟩
    have hb2 : Below w1.heap.size w1 W2 := by rw [hW2]; ((repeat (first | exact Below.refl _ _ | assumption | refine Below.alloc ?_ (by first | omega | (simp; done) | (simp; omega)) _ | refine Below.setCell ?_ (by first | omega | (simp; done) | (simp; omega)) _ | refine Below.drew ?_ | refine below_drewN ?_ _)); done)
    have hz2 : W2.heap.size = w1.heap.size + 1 := by rw [hW2]; simp
    have hy2 : W2.heap[w1.heap.size]? = some (.cells #[.int .i64 m.x.rank, .int .i64 m.x.id, .int .i64 m.x.list, .slice m.x.ra m.x.rn m.x.rc] 93 (0, 0)) := by rw [hW2]; exact heap_alloc_new _ _
    have H2 := H1.below hb2
    have c0 : w1.cell? ⟨q, 0, none⟩ = some (.pointer (some ⟨h, 0, none⟩)) := by rw [cell_of_row _ _ _ _ _ _ hq1]; rfl
    have hqw1 : q < w1.heap.size := by omega
    have hr1 : w.heap.size < w1.heap.size := by omega
    have hpop := hpop_any kk T (((fc.below hb0).below hb1).below hb2) hckh hvck H2 hll h3 hm
    unfold ifT at hpop
    subst hW2
    clear hy2 hz2
    unfold Th.val
    go_wp2_with fail
    refine hpop.mono ?_
    rintro e w3 ⟨⟨u3, rfl⟩, v', L', H3, hp3, hh3, hv3, hO3⟩
    have FIN : ∀ y z y2 z2 : Value, w3.cell? ⟨w1.heap.size, 0, none⟩ = some (.int .i64 m.x.rank) ∧ w3.cell? ⟨w1.heap.size, 1, none⟩ = some (.int .i64 m.x.id) ∧ w3.cell? ⟨w1.heap.size, 2, none⟩ = some (.int .i64 m.x.list) ∧ w3.cell? ⟨w1.heap.size, 3, none⟩ = some (.slice m.x.ra m.x.rn m.x.rc) ∧ w3.cell? ⟨w.heap.size, 0, none⟩ = some (.int .i64 0) ∧ w3.cell? ⟨w.heap.size, 1, none⟩ = some (.int .i64 0) ∧ w3.frozen? ⟨w.heap.size, 0, none⟩ = false ∧ w3.frozen? ⟨w.heap.size, 1, none⟩ = false ∧ w3.cell? ⟨w.heap.size, 2, none⟩ = some (.int .i64 0) ∧ w3.cell? ⟨w.heap.size, 3, none⟩ = some (.slice none 0 0) ∧ w3.frozen? ⟨w.heap.size, 2, none⟩ = false ∧ w3.frozen? ⟨w.heap.size, 3, none⟩ = false ∧ Hid (QI ((((w3.setCell ⟨w.heap.size, 0, none⟩ y).setCell ⟨w.heap.size, 1, none⟩ z).setCell ⟨w.heap.size, 2, none⟩ y2).setCell ⟨w.heap.size, 3, none⟩ z2) q kk L' no F ∧ Only F w ((((w3.setCell ⟨w.heap.size, 0, none⟩ y).setCell ⟨w.heap.size, 1, none⟩ z).setCell ⟨w.heap.size, 2, none⟩ y2).setCell ⟨w.heap.size, 3, none⟩ z2)) := by
      intro y z y2 z2
      have hvl : ∀ k, v.ownBlock = some k → k < w.heap.size := fun k hk => (H.2.1.lt k hk).2
      have oS : Only (fun k => k = w.heap.size) w3 ((((w3.setCell ⟨w.heap.size, 0, none⟩ y).setCell ⟨w.heap.size, 1, none⟩ z).setCell ⟨w.heap.size, 2, none⟩ y2).setCell ⟨w.heap.size, 3, none⟩ z2) := (((only_setCell w3 w.heap.size 0 y).trans (only_setCell _ w.heap.size 1 z)).trans (only_setCell _ w.heap.size 2 y2)).trans (only_setCell _ w.heap.size 3 z2)
      generalize ((((w3.setCell ⟨w.heap.size, 0, none⟩ y).setCell ⟨w.heap.size, 1, none⟩ z).setCell ⟨w.heap.size, 2, none⟩ y2).setCell ⟨w.heap.size, 3, none⟩ z2) = w4 at oS ⊢
      have hz3 := hO3.size
      simp only [heap_size_alloc'] at hz3
      have n1 : ¬ (w1.heap.size = h ∨ v.ownBlock = some w1.heap.size) := by rintro (e | e); omega; have := hvl _ e; omega
      have n2 : ¬ (w.heap.size = h ∨ v.ownBlock = some w.heap.size) := by rintro (e | e); omega; have := hvl _ e; omega
      have nq : ¬ (q = h ∨ v.ownBlock = some q) := by rintro (e | e); exact h5 e.symm; exact h6 e
      have g1 := (hO3.block w1.heap.size (by simp) n1).trans (heap_alloc_new _ _)
      have g2 := (hO3.block w.heap.size (by simp; omega) n2).trans ((heap_alloc_old _ _ hr1).trans hx1)
      have g3 := (hO3.block q (by simp; omega) nq).trans ((heap_alloc_old _ _ hqw1).trans hq1)
      have hq3 : q < w3.heap.size := (Array.getElem?_eq_some_iff.1 g3).1
      refine ⟨by rw [cell_of_row _ _ _ _ _ _ g1]; rfl, by rw [cell_of_row _ _ _ _ _ _ g1]; rfl, by rw [cell_of_row _ _ _ _ _ _ g1]; rfl, by rw [cell_of_row _ _ _ _ _ _ g1]; rfl, by rw [cell_of_row _ _ _ _ _ _ g2]; rfl, by rw [cell_of_row _ _ _ _ _ _ g2]; rfl, frozen_of_row _ _ _ _ _ g2, frozen_of_row _ _ _ _ _ g2, by rw [cell_of_row _ _ _ _ _ _ g2]; rfl, by rw [cell_of_row _ _ _ _ _ _ g2]; rfl, frozen_of_row _ _ _ _ _ g2, frozen_of_row _ _ _ _ _ g2, ?_, ?_⟩
      · refine ⟨h, v', L', (oS.block q hq3 (by omega)).trans g3, ⟨(oS.block h H3.lt (by omega)).trans H3.1, H3.2.1.kept oS (fun k hk e => ?_), H3.2.2⟩, hh3, List.Perm.refl _, h5, by rw [hv3]; exact h6, fq, fh, fun k hk => fv k (by rw [← hv3]; exact hk), OrdC.only2 (OrdC.only2 (((fc.below hb0).below hb1).below hb2) hO3 (by rintro (e | e); exact hckh e; exact hvck e)) oS (by omega), nc⟩
        rw [hv3] at hk
        have := hvl k hk
        omega
      · have o1 : Only F w w3 := (Only.of_below (hb01.trans (hb2.mono (by omega))) F).trans (hO3.mono (fun k _ hk => by rcases hk with rfl | hk; exact fh; exact fv k hk))
        exact o1.trans2 oS (fun i hi e => by omega)
    obtain ⟨e0, e1, e01, e11, e2, e3, e4, e5, e6, e7, e8, e9, hfin⟩ := FIN (.int .i64 m.x.rank) (.int .i64 m.x.id) (.int .i64 m.x.list) (.slice m.x.ra m.x.rn m.x.rc)
    have hpm := Lib.hid (hp3.trans h4)
    clear FIN hp3 hh3 hpop
    go_wp2_with fail
    refine bodyPost_ret (v := .tuple #[.agg #[.int .i64 m.x.rank, .int .i64 m.x.id, .int .i64 m.x.list, .slice m.x.ra m.x.rn m.x.rc], .int .i64 0]) (by simp [results, Try.results42, go_sem, e2, e3, e6, e7]) rfl ?_
    exact Or.inl ⟨m, L', hleast.out, hpm.out, rfl, hfin.out.1, hfin.out.2⟩
  · have t0 : w1.cell? ⟨w.heap.size, 0, none⟩ = some (.int .i64 0) := by rw [cell_of_row _ _ _ _ _ _ hx1]; rfl
    have t1 : w1.cell? ⟨w.heap.size, 1, none⟩ = some (.int .i64 0) := by rw [cell_of_row _ _ _ _ _ _ hx1]; rfl
    have f0 : w1.frozen? ⟨w.heap.size, 0, none⟩ = false := frozen_of_row _ _ _ _ _ hx1
    have f1 : w1.frozen? ⟨w.heap.size, 1, none⟩ = false := frozen_of_row _ _ _ _ _ hx1
    have t2 : w1.cell? ⟨w.heap.size, 2, none⟩ = some (.int .i64 0) := by rw [cell_of_row _ _ _ _ _ _ hx1]; rfl
    have t3 : w1.cell? ⟨w.heap.size, 3, none⟩ = some (.slice none 0 0) := by rw [cell_of_row _ _ _ _ _ _ hx1]; rfl
    have f2 : w1.frozen? ⟨w.heap.size, 2, none⟩ = false := frozen_of_row _ _ _ _ _ hx1
    have f3 : w1.frozen? ⟨w.heap.size, 3, none⟩ = false := frozen_of_row _ _ _ _ _ hx1
    have hr1 : w.heap.size < w1.heap.size := by omega
    have hS := Lib.hid (List.eq_nil_of_length_eq_zero h4.length_eq.symm)
    clear h3 h4
    go_wp2_with fail
    have g3 := (heap_alloc_old ((((w1.setCell ⟨w.heap.size, 0, none⟩ (.int .i64 0)).setCell ⟨w.heap.size, 1, none⟩ (.int .i64 0)).setCell ⟨w.heap.size, 2, none⟩ (.int .i64 0)).setCell ⟨w.heap.size, 3, none⟩ (.slice none 0 0)) (.cells #[.int .i64 0, .int .i64 0, .int .i64 0, .slice none 0 0] 93) (r := w.heap.size) (by simp; omega)).trans (heap_setCell_same _ w.heap.size 3 _ 93 (.slice none 0 0) (heap_setCell_same _ w.heap.size 2 _ 93 (.int .i64 0) (heap_setCell_same _ w.heap.size 1 _ 93 (.int .i64 0) (heap_setCell_same w1 w.heap.size 0 _ 93 (.int .i64 0) hx1))))
    have r0 := cell_of_row _ _ 0 _ _ _ g3
    have r1 := cell_of_row _ _ 1 _ _ _ g3
    have r2 := cell_of_row _ _ 2 _ _ _ g3
    have r3 := cell_of_row _ _ 3 _ _ _ g3
    refine bodyPost_ret (v := .tuple #[.agg #[.int .i64 0, .int .i64 0, .int .i64 0, .slice none 0 0], .int .i64 16]) (by simp [results, Try.results42, go_sem, r0, r1, r2, r3]) rfl ?_
    exact Or.inr ⟨hS.out, rfl, by ((repeat (first | exact Below.refl _ _ | assumption | refine Below.alloc ?_ (by first | omega | (simp; done) | (simp; omega)) _ | refine Below.setCell ?_ (by first | omega | (simp; done) | (simp; omega)) _ | refine Below.drew ?_ | refine below_drewN ?_ _)); done)⟩
end Go.Proofs.Yteiocnaneghggaa.Hd
