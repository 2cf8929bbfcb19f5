import Derived.Test.YtgkmmlffnfpjaaaDoorUI3
namespace Go.Proofs.YtgkmmlffnfpjaaaDoor
open Go Go.RowKit

attribute [local go_sem] Oper.semAt_some

set_option maxRecDepth 100000 in
set_option maxHeartbeats 8000000 in
theorem checks_long {v : Value} {bs : List UInt8} (w : World) (T : Tabs w) (hx : Rd encU 1 w w.heap.size v bs) (hn : 200 < bs.length) : Calls Tryd.prog 5 #[v] w fun e w' => e = .returned (.bool true) ∧ Below w.heap.size w w' := by
  obtain ⟨A, cap, rfl, h1, h2, -⟩ := hx
  unfold maxLen at h2
  have hd : decide ((200 : Int) < bs.length) = true := decide_eq_true (by omega)
  have hb0 : Below w.heap.size w (w.alloc (.cells #[.bool false] 4)) := by ((repeat (first | exact Below.refl _ _ | assumption | refine Below.alloc ?_ (by first | omega | (simp; done) | (simp; omega)) _ | refine Below.setCell ?_ (by first | omega | (simp; done) | (simp; omega)) _ | refine Below.drew ?_ | refine below_drewN ?_ _)); done)
  have haw := awake_any _ (T.below hb0)
  go_enter Tryd.func5, Tryd.ntmps5
  go_wp2_with fail
  refine haw.mono ?_
  rintro e w1 ⟨rfl, hb1⟩
  have g1 := (hb1.block w.heap.size (by simp)).trans (heap_alloc_new _ _)
  have k0 : w1.cell? ⟨w.heap.size, 0, none⟩ = some (.bool false) := by rw [cell_of_row _ _ _ _ _ _ g1]; rfl
  have f0 : w1.frozen? ⟨w.heap.size, 0, none⟩ = false := frozen_of_row _ _ _ _ _ g1
  clear haw
  go_wp2_with fail
  have g2 := heap_setCell_same w1 w.heap.size 0 _ 4 (.bool true) g1
  have k2 := cell_of_row _ _ 0 _ _ _ g2
  refine bodyPost_ret (v := .bool true) (by simp [results, Tryd.results5, go_sem, k2]) rfl ?_
  exact ⟨rfl, Below.setCell (hb0.trans (hb1.mono (by simp))) (by simp) _⟩

theorem pl_take_next {cs : List Nat} {k r : Nat} (h : cs[k]? = some r) : pl 0 (cs.take (k + 1)) = pl 0 (cs.take k) ++ [mkPr (encB (cs.take k)).length r] := by
  rw [take_snoc h, pl_snoc, Nat.zero_add]
theorem pl_take_pre (cs : List Nat) (k : Nat) : pl 0 (cs.take k) <+: pl 0 cs := by
  have := pl_append (cs.take k) (cs.drop k) 0
  rwa [List.take_append_drop] at this
/-- another one than the next one does not come -/
theorem pl_bad {cs : List Nat} {k r : Nat} (h : cs[k]? = some r) {x : Pr} (hx : x ≠ mkPr (encB (cs.take k)).length r) : ¬ (pl 0 (cs.take k) ++ [x]) <+: pl 0 cs := by
  intro hp
  have h1 := pl_take_pre cs (k + 1)
  rw [pl_take_next h] at h1
  obtain ⟨t1, e1⟩ := hp
  obtain ⟨t2, e2⟩ := h1
  rw [← e2, List.append_assoc, List.append_assoc] at e1
  have := List.append_cancel_left e1
  simp at this
  exact hx this.1

theorem bcell {W w1 : World} (hb : Below W.heap.size W w1) : (∀ b o, b < W.heap.size → w1.cell? ⟨b, o, none⟩ = W.cell? ⟨b, o, none⟩) ∧ (∀ b o, b < W.heap.size → w1.frozen? ⟨b, o, none⟩ = W.frozen? ⟨b, o, none⟩) :=
  ⟨fun b o h => hb.cell (p := ⟨b, o, none⟩) h, fun b o h => hb.frozen (p := ⟨b, o, none⟩) h⟩
theorem heap_size_alloc' (w : World) (o : Obj) : (w.alloc o).heap.size = w.heap.size + 1 := by simp
theorem fn_some (g : Nat) (W : World) : Sem.run Tryd.prog (binOp .eql 38 (.func (.func 20) #[] #[.pointer (some ⟨g, 0, none⟩)]) .nilFunc) W = .ok (.bool false) W := by rfl
theorem refall_told {B : Nat} {v : Value} {bs : List UInt8} {cs : List Nat} {rest : List UInt8} (w : World) (hx : Rd encU 1 w B v bs) (hB : B ≤ w.heap.size) (hl : bs.length ≤ 1000) (hT : Told bs cs rest) (hS : Stuck rest) :
    Calls Tryd.prog 13 #[v] w fun e w' => (∃ A cap, e = .returned (.tuple #[.slice A cs.length cap, .int .i64 (encB cs).length]) ∧ Rd encN 1 w' w'.heap.size (.slice A cs.length cap) cs) ∧ Below w.heap.size w w' := by
  refine (refall_any w hx hB hl).mono ?_
  rintro e w' ⟨⟨ds, p, u, hD, hP, rfl, hr⟩, hb⟩
  obtain ⟨rfl, rfl⟩ := Told.one hT hD hS hP
  obtain ⟨A, cap, rfl, -⟩ := id hr
  exact ⟨⟨A, cap, rfl, hr⟩, hb⟩
theorem check_told {B : Nat} {v : Value} {bs : List UInt8} {cs : List Nat} {rest : List UInt8} (w : World) (hx : Rd encU 1 w B v bs) (hB : B ≤ w.heap.size) (T : Tabs w) (hT : Told bs cs rest) (hS : Stuck rest) {xe : Int} (he : (rest = [] ∧ xe = 0) ∨ (rest ≠ [] ∧ xe = 10)) :
    Calls Tryd.prog 12 #[v] w fun e w' => e = .returned (.tuple #[.int .i64 (encB cs).length, .int .i64 xe]) ∧ Below w.heap.size w w' := by
  rcases he with ⟨rfl, rfl⟩ | ⟨hne, rfl⟩
  · have := hT.len
    rw [List.length_nil, Nat.add_zero] at this
    rw [← this]
    exact check_whole w hx hB T hT
  · rcases hS with h | h
    · exact absurd h hne
    · exact check_part w hx hB T hT hne h

theorem round_good {w3 W w4 : World} {a b a0 b0 : Value} (hB : Below w3.heap.size w3 W) (hb4 : Below W.drew.heap.size W.drew w4) (c1 : w4.cell? ⟨w3.heap.size, 0, none⟩ = some a0) (c2 : w4.cell? ⟨w3.heap.size + 1, 0, none⟩ = some b0) (f1 : w4.frozen? ⟨w3.heap.size, 0, none⟩ = false) (f2 : w4.frozen? ⟨w3.heap.size + 1, 0, none⟩ = false) :
    KeepsOthers W ((w4.setCell ⟨w3.heap.size + 1, 0, none⟩ b).setCell ⟨w3.heap.size, 0, none⟩ a) ∧ Below w3.heap.size W ((w4.setCell ⟨w3.heap.size + 1, 0, none⟩ b).setCell ⟨w3.heap.size, 0, none⟩ a) ∧
    (((w4.setCell ⟨w3.heap.size + 1, 0, none⟩ b).setCell ⟨w3.heap.size, 0, none⟩ a).cell? ⟨w3.heap.size, 0, none⟩ = some a ∧ ((w4.setCell ⟨w3.heap.size + 1, 0, none⟩ b).setCell ⟨w3.heap.size, 0, none⟩ a).frozen? ⟨w3.heap.size, 0, none⟩ = false ∧
      ((w4.setCell ⟨w3.heap.size + 1, 0, none⟩ b).setCell ⟨w3.heap.size, 0, none⟩ a).cell? ⟨w3.heap.size + 1, 0, none⟩ = some b ∧ ((w4.setCell ⟨w3.heap.size + 1, 0, none⟩ b).setCell ⟨w3.heap.size, 0, none⟩ a).frozen? ⟨w3.heap.size + 1, 0, none⟩ = false) ∧
    Below w3.heap.size w3 ((w4.setCell ⟨w3.heap.size + 1, 0, none⟩ b).setCell ⟨w3.heap.size, 0, none⟩ a) := by
  have hb : Below w3.heap.size W w4 := Below.trans ((Below.refl w3.heap.size W).drew) (hb4.mono hB.size)
  have hbb : Below w3.heap.size W ((w4.setCell ⟨w3.heap.size + 1, 0, none⟩ b).setCell ⟨w3.heap.size, 0, none⟩ a) := Below.setCell (Below.setCell hb (by simp) _) (by simp) _
  have o1 : (w4.setCell ⟨w3.heap.size + 1, 0, none⟩ b).cell? ⟨w3.heap.size, 0, none⟩ = some a0 := (World.cell?_of_block (heap_setCell_other w4 ⟨w3.heap.size + 1, 0, none⟩ w3.heap.size b (by simp))).trans c1
  have o2 := World.cell?_setCell_same' w4 ⟨w3.heap.size + 1, 0, none⟩ b (by rw [c2]; rfl)
  refine ⟨(KeepsOthers.drew W).trans ((KeepsOthers.of_grownBy (grown_of_below hb4) (fun j o h => by cases h)).trans ((KeepsOthers.setCell _ _ _).trans (KeepsOthers.setCell _ _ _))), hbb, ⟨World.cell?_setCell_same' _ _ _ (by rw [o1]; rfl), ?_, ?_, ?_⟩, hB.trans hbb⟩
  · rw [World.frozen?_setCell, World.frozen?_setCell]; exact f1
  · exact (World.cell?_of_block (heap_setCell_other _ ⟨w3.heap.size, 0, none⟩ (w3.heap.size + 1) a (by simp))).trans o2
  · rw [World.frozen?_setCell, World.frozen?_setCell]; exact f2

set_option maxRecDepth 100000 in
set_option maxHeartbeats 8000000 in
theorem checks_walk {v : Value} {bs : List UInt8} (w : World) (T : Tabs w) (hx : Rd encU 1 w w.heap.size v bs) (hn : bs.length ≤ 200) : Calls Tryd.prog 5 #[v] w fun e w' => e = .returned (.bool true) ∧ Below w.heap.size w w' := by
  have hx' := hx
  obtain ⟨A, cap, rfl, h1, h2, -⟩ := hx
  unfold maxLen at h2
  have hd : decide ((200 : Int) < bs.length) = false := decide_eq_false (by omega)
  obtain ⟨cs, rest, hT, hS⟩ := told_all bs
  have hlen := hT.len
  have hge := encB_ge cs
  have hrl : rest = [] ↔ rest.length = 0 := List.length_eq_zero_iff.symm
  obtain ⟨xe, he, hxe⟩ : ∃ xe : Int, ((rest = [] ∧ xe = 0) ∨ (rest ≠ [] ∧ xe = 10)) ∧ ((xe = 0 ∧ (((encB cs).length : Int) == (bs.length : Int)) = true) ∨ (xe = 10 ∧ (((encB cs).length : Int) == (bs.length : Int)) = false)) := by
    by_cases h : rest = []
    · exact ⟨0, Or.inl ⟨h, rfl⟩, Or.inl ⟨rfl, by simp; have := hrl.1 h; omega⟩⟩
    · exact ⟨10, Or.inr ⟨h, rfl⟩, Or.inr ⟨rfl, by simp; have : rest.length ≠ 0 := fun e => h (hrl.2 e); omega⟩⟩
  have hb0 : Below w.heap.size w (w.alloc (.cells #[.bool false] 4)) := by ((repeat (first | exact Below.refl _ _ | assumption | refine Below.alloc ?_ (by first | omega | (simp; done) | (simp; omega)) _ | refine Below.setCell ?_ (by first | omega | (simp; done) | (simp; omega)) _ | refine Below.drew ?_ | refine below_drewN ?_ _)); done)
  have hx0 := hx'.next hb0
  have T0 := T.below hb0
  have g0 := heap_alloc_new w (.cells #[.bool false] 4)
  have hz0 : (w.alloc (.cells #[.bool false] 4)).heap.size = w.heap.size + 1 := by simp
  have hra := refall_told _ hx0 (Nat.le_refl _) (by omega) hT hS
  have HE := Lib.hid he
  have HTT := Lib.hid hT
  have HSS := Lib.hid hS
  have HG0 := Lib.hid g0
  obtain ⟨ne, hne⟩ : ∃ ne, ne = (encB cs).length := ⟨_, rfl⟩
  rw [← hne] at hxe hra
  have HNE := Lib.hid hne
  have hcl : cs.length ≤ 200 := by omega
  clear he hT hS g0 hlen hge hrl hne
  refine (callsIn_wide (n := 6)).1 ?_
  refine callsIn_of_wp_marks Tryd.func5 rfl trivial ?_ rfl
  simp only [Tryd.ntmps5, List.size_toArray, List.length_cons, List.length_nil, Nat.reduceAdd, Nat.reduceSub, Array.replicate_succ, Array.replicate_zero, List.push_toArray, List.append_toArray, List.nil_append, List.cons_append]
  rcases hxe with ⟨rfl, hq⟩ | ⟨rfl, hq⟩
  all_goals
    gi_wp2_with (first
      | (refine ⟨trivial, ?_⟩; gi_at_call 13; refine (callsIn_wide.2 hra).mono ?_; rintro e w1 ⟨⟨Aw, cw, rfl, hrw⟩, hb1⟩; have hb11 : Below w1.heap.size w1 (w1.alloc (.cells #[.slice Aw cs.length cw] 34)) := (by ((repeat (first | exact Below.refl _ _ | assumption | refine Below.alloc ?_ (by first | omega | (simp; done) | (simp; omega)) _ | refine Below.setCell ?_ (by first | omega | (simp; done) | (simp; omega)) _ | refine Below.drew ?_ | refine below_drewN ?_ _)); done)); have hck := check_told _ ((hx0.next hb1).next hb11) (Nat.le_refl _) ((T0.below hb1).below hb11) HTT.out HSS.out HE.out; rw [← HNE.out] at hck; clear hra)
      | (refine ⟨trivial, ?_⟩; gi_at_call 12; refine (callsIn_wide.2 hck).mono ?_; rintro e w2 ⟨rfl, hb2⟩; have hal := all_any _ (((hx0.next hb1).next hb11).next hb2) (Nat.le_refl _) (by omega); clear hck)
      | (refine ⟨trivial, ?_⟩; gi_at_call 14; refine (callsIn_wide.2 hal).mono ?_; rintro e w3 ⟨⟨g, u, rfl, hg3, hr3⟩, hb3⟩; have hfn := fn_some g w3; clear hal))
  all_goals
    have hz1 := hb1.size
    have hz2 := hb2.size
    have hz3 := hb3.size
    rw [hz0] at hz1
    simp only [heap_size_alloc'] at hz2
    have hb01 := hb0.trans (hb1.mono hb0.size)
    have hb011 := hb01.trans (hb11.mono hb01.size)
    have hb02 := hb011.trans (hb2.mono hb011.size)
    have hb03 := hb02.trans (hb3.mono hb02.size)
    have T3 := T.below hb03
    have hrw3 := ((hrw.next hb11).next hb2).next hb3
    have gw3 := (hb3.block w1.heap.size (by omega)).trans ((hb2.block w1.heap.size (by simp)).trans (heap_alloc_new w1 (.cells #[.slice Aw cs.length cw] 34)))
    have gr3 := (hb3.block w.heap.size (by omega)).trans ((hb2.block w.heap.size (by simp; omega)).trans ((hb11.block w.heap.size (by omega)).trans ((hb1.block w.heap.size (by simp)).trans HG0.out)))
    have hgl : g < w3.heap.size := World.block_lt_of_cell? w3 _ hg3
    have hbL : Below w3.heap.size w3 ((w3.alloc (.cells #[.int .i64 0] 3)).alloc (.cells #[.int .i64 0] 3)) := by ((repeat (first | exact Below.refl _ _ | assumption | refine Below.alloc ?_ (by first | omega | (simp; done) | (simp; omega)) _ | refine Below.setCell ?_ (by first | omega | (simp; done) | (simp; omega)) _ | refine Below.drew ?_ | refine below_drewN ?_ _)); done)
    have gn := heap_alloc_old (w3.alloc (.cells #[.int .i64 0] 3)) (.cells #[.int .i64 0] 3) (i := w3.heap.size) (by rw [heap_size_alloc']; omega)
    have gn2 := gn.trans (heap_alloc_new w3 (.cells #[.int .i64 0] 3))
    have gp := heap_alloc_new (w3.alloc (.cells #[.int .i64 0] 3)) (.cells #[.int .i64 0] 3)
    rw [heap_size_alloc'] at gp
    clear hx0 T0 hrw hb11 hb2 hb3 hb1 hb01 hb011 hb02 gn
    refine range_all (by omega) 10 11 rfl (iter_stops 5 (by omega) g w3.heap.size HTT.out HSS.out (by omega) w3 hg3 hgl hr3 T3 T3.lt (Nat.le_refl _)) (by simp; omega) hbL
      (fun pre W => (∃ k, k ≤ cs.length ∧ pre = pl 0 (cs.take k) ∧ W.cell? ⟨w3.heap.size, 0, none⟩ = some (.int .i64 (k : Nat)) ∧ W.frozen? ⟨w3.heap.size, 0, none⟩ = false ∧ W.cell? ⟨w3.heap.size + 1, 0, none⟩ = some (.int .i64 ((encB (cs.take k)).length : Nat)) ∧ W.frozen? ⟨w3.heap.size + 1, 0, none⟩ = false) ∧ Below w3.heap.size w3 W)
      (fun c pre _ => c = .ret ∧ ¬ pre <+: pl 0 cs)
      (OwnFrom.and (fun s A B row hs hg hr => by
        obtain ⟨k, i1, i2, i3, i4, i5, i6⟩ := hs
        exact ⟨k, i1, i2, cell_kept i3 hg (fun r e => (hr r e).2), (frozen_kept i3 hg (fun r e => (hr r e).2)).trans i4, cell_kept i5 hg (fun r e => (hr r e).2), (frozen_kept i5 hg (fun r e => (hr r e).2)).trans i6⟩) (ownFrom_below (Nat.le_refl _) (by simp; omega)))
      (fun c s A B row hs hg hr => hs)
      ⟨⟨0, Nat.zero_le _, rfl, by rw [cell_of_row _ _ _ _ _ _ gn2]; rfl, frozen_of_row _ _ _ _ _ gn2, by rw [cell_of_row _ _ _ _ _ _ gp]; rfl, frozen_of_row _ _ _ _ _ gp⟩, hbL⟩
      ?_ ?_ ?_ ?_
    · intro l x W K hK
      simp only [actAt, List.setIfInBounds_toArray, List.set_cons_succ, List.set_cons_zero] at hK ⊢
      gi_wp2
      exact hK
    · rintro l pre x W ⟨⟨k, hk, rfl, c1, f1, c2, f2⟩, hB⟩ hpl
      rw [pl_len, List.length_take, Nat.min_eq_left hk] at hpl
      simp only [actAt, List.setIfInBounds_toArray, List.set_cons_succ, List.set_cons_zero]
      obtain ⟨r, hr⟩ := get_lt hpl
      have hIr := HTT.out.all r (List.mem_of_getElem? hr)
      have hrb : r < 2147483648 := by have := hIr; rw [isB_nat] at this; omega
      have hRN := Lib.hid (pl_take_next hr)
      have hBAD : ∀ y : Pr, y ≠ mkPr (encB (cs.take k)).length r → Hid (¬ (pl 0 (cs.take k) ++ [y]) <+: pl 0 cs) := fun y hy => pl_bad hr hy
      obtain ⟨b2, off2, rfl, hb2, hc2⟩ := (hrw3.below hB (Nat.le_refl _)).at_ hr
      have cr : W.cell? ⟨b2, off2 + k, none⟩ = some (.int .i64 (r : Nat)) := by simpa using hc2 k _ hr 0 _ rfl
      have cw : W.cell? ⟨w1.heap.size, 0, none⟩ = some (.slice (some ⟨b2, off2, none⟩) cs.length cw) := Below.cell_some hB (by rw [cell_of_row _ _ _ _ _ _ gw3]; rfl) (show w1.heap.size < w3.heap.size by omega)
      have ck : W.cell? ⟨w.heap.size, 0, none⟩ = some (.bool false) := Below.cell_some hB (by rw [cell_of_row _ _ _ _ _ _ gr3]; rfl) (show w.heap.size < w3.heap.size by omega)
      have fk : W.frozen? ⟨w.heap.size, 0, none⟩ = false := (hB.frozen (p := ⟨w.heap.size, 0, none⟩) (show w.heap.size < w3.heap.size by omega)).trans (frozen_of_row _ _ _ _ _ gr3)
      have hzW : w3.heap.size + 1 < W.heap.size := World.block_lt_of_cell? W _ c2
      have hnext : Hid (encB (cs.take (k + 1)) = encB (cs.take k) ++ bytesOf r) := by unfold Hid; rw [take_snoc hr, encB_snoc]
      obtain ⟨pp, hpp⟩ : ∃ pp, pp = (encB (cs.take k)).length := ⟨_, rfl⟩
      have hppl : pp ≤ 200 := by
        have h5 := HTT.out.len
        have h6 := encB_append (cs.take k) (cs.drop k)
        rw [List.take_append_drop] at h6
        rw [h6, List.length_append] at h5
        omega
      have hlr := Lib.hid (bytesN_len r)
      have hl4 : (bytesOf r).length ≤ 4 := by rw [bytesOf_len]; exact hlr.out.2
      rw [← hpp] at c2 hBAD hRN
      have HPP := Lib.hid hpp
      have HIR := Lib.hid hIr
      clear hc2 hr hpp hIr
      obtain ⟨xa, xb, hxa, hxb⟩ := x
      simp only
      have hz1W : w1.heap.size < W.heap.size := by omega
      have hzwW : w.heap.size < W.heap.size := by omega
      have hb2W : b2 < W.heap.size := by omega
      have hznW : w3.heap.size < W.heap.size := by omega
      have hmx : Tryd.prog.follows .mixedOrders = true := by kernel_rfl
      have hdd : 1 ≤ 6 - 1 - 1 := by omega
      by_cases e1 : xb = r
      · subst e1
        by_cases e2 : xa = pp
        · subst e2
          clear hBAD
          gi_wp2
          gi_region_with_o (refine ⟨trivial, ?_⟩; gi_at_call 10; refine (CallsIn.inRound l (callsIn_wide.2 (refbytes_any _ HIR.out))).mono ?_; rintro e w4 ⟨u4, rfl, hr4, hb4⟩; have c1' := Below.cell_some hb4 c1 hznW; have c2' := Below.cell_some hb4 c2 hzW; have f1' := (hb4.frozen (p := ⟨w3.heap.size, 0, none⟩) hznW).trans f1; have f2' := (hb4.frozen (p := ⟨w3.heap.size + 1, 0, none⟩) hzW).trans f2; obtain ⟨A4, c4, rfl, -⟩ := id hr4)
          all_goals gi_wp2
          all_goals (try go_bits)
          all_goals
            obtain ⟨j1, j2, ⟨j3, j4, j5, j6⟩, j7⟩ := round_good (a := .int .i64 ((k : Int) + 1)) (b := .int .i64 ((xa : Int) + ((bytesOf xb).length : Int))) hB hb4 c1' c2' f1' f2'
            refine ⟨j1, j2, ⟨k + 1, by omega, ?_, by rw [j3]; rfl, j4, ?_, j6⟩, j7⟩
            · rw [hRN.out]
              exact congrArg (fun y => pl 0 (cs.take k) ++ [y]) (mkPr_self ⟨xa, xb, hxa, hxb⟩).symm
            · rw [j5, hnext.out, List.length_append, ← HPP.out]
              rfl
        · have hbad := hBAD ⟨xa, xb, hxa, hxb⟩ (fun e => e2 (by
            have := congrArg Pr.a e
            simp only [mkPr] at this
            rw [this, Nat.mod_eq_of_lt (by omega)]))
          have n1 : ((xa : Int) != (pp : Int)) = true := by simp; omega
          have n2 : (xa != pp) = true := by simp; omega
          clear hBAD
          gi_wp2
          exact ⟨KeepsOthers.setCell _ _ _, rfl, hbad.out⟩
      · have hbad := hBAD ⟨xa, xb, hxa, hxb⟩ (fun e => e1 (by
          have := congrArg Pr.b e
          simp only [mkPr] at this
          rw [this, Nat.mod_eq_of_lt hrb]))
        have n1 : ((xb : Int) != (r : Int)) = true := by simp; omega
        have n2 : (xb != r) = true := by simp; omega
        clear hBAD
        gi_wp2
        exact ⟨KeepsOthers.setCell _ _ _, rfl, hbad.out⟩
    · rintro D W hD ⟨⟨k, hk, he, c1, f1, c2, f2⟩, hB⟩ hK
      have hkl : k = cs.length := by
        have := congrArg List.length he
        rw [pl_len, pl_len, List.length_take, Nat.min_eq_left hk] at this
        omega
      subst hkl
      have cw : W.cell? ⟨w1.heap.size, 0, none⟩ = some (.slice Aw cs.length cw) := Below.cell_some hB (by rw [cell_of_row _ _ _ _ _ _ gw3]; rfl) (show w1.heap.size < w3.heap.size by omega)
      have gr : W.heap[w.heap.size]? = some (.cells #[.bool false] 4 (0, 0)) := (hB.block w.heap.size (by omega)).trans gr3
      have hbW := hb03.trans (hB.mono hb03.size)
      have hwW : w.heap.size < W.heap.size := (Array.getElem?_eq_some_iff.1 gr).1
      have hDl : D < W.heap.size := (Array.getElem?_eq_some_iff.1 hK).1
      have haw := awake_any W (T3.keep hB T3.lt)
      have HK := Lib.hid hK
      have HGR := Lib.hid gr
      clear he c2 f2 hK gr
      gi_wp2
      refine ⟨trivial, ?_⟩
      gi_at_call 7
      refine (callsIn_wide.2 haw).mono ?_
      rintro e w6 ⟨rfl, hb6⟩
      have g6 := (hb6.block w.heap.size hwW).trans HGR.out
      have k6 : w6.cell? ⟨w.heap.size, 0, none⟩ = some (.bool false) := by rw [cell_of_row _ _ _ _ _ _ g6]; rfl
      have f6 : w6.frozen? ⟨w.heap.size, 0, none⟩ = false := frozen_of_row _ _ _ _ _ g6
      clear g6 haw
      gi_wp2
      have hK6 : w6.heap[D]? = some (.deferred (some [])) := (hb6.block D hDl).trans HK.out
      have hK7 := (KeepsOthers.setCell w6 ⟨w.heap.size, 0, none⟩ (.bool true)).same D _ hK6 rfl
      refine ⟨by simp, .inl ⟨_, _, rfl, run_takeDeferred hK7, ?_⟩⟩
      have hc7 := cell_kept (World.cell?_setCell_same' w6 ⟨w.heap.size, 0, none⟩ (.bool true) (by rw [k6]; rfl)) (grownBy_putObj' _ D (.deferred none)) (fun r e => by cases e; exact ⟨_, hK7, rfl⟩)
      have hb7 : Below w.heap.size w (w6.setCell ⟨w.heap.size, 0, none⟩ (.bool true)) := Below.setCell (hbW.trans (hb6.mono hbW.size)) (Nat.le_refl _) _
      refine ⟨.bool true, ?_, rfl, hb7.trans (belowK_b (w := w) (Nat.le_refl _) _ D _ _ (by simp at hD; omega) hK7 rfl rfl)⟩
      simp [results, Tryd.f5, go_sem, hc7]
    · rintro D c pre W hD hp ⟨rfl, hbad⟩ hK
      exact absurd hp hbad

theorem checks_all {v : Value} {bs : List UInt8} (w : World) (T : Tabs w) (hx : Rd encU 1 w w.heap.size v bs) : Calls Tryd.prog 5 #[v] w fun e w' => e = .returned (.bool true) ∧ Below w.heap.size w w' := by
  by_cases hn : bs.length ≤ 200
  · exact checks_walk w T hx hn
  · exact checks_long w T hx (by omega)
end Go.Proofs.YtgkmmlffnfpjaaaDoor
