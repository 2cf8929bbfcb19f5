import Derived.Test.YtgkmmlffnfpjaaaDoorUB1
import Derived.RangeFuncBox
import Derived.OwnWalkIn
namespace Go.Proofs.YtgkmmlffnfpjaaaDoor
open Go Go.RowKit

attribute [local go_sem] Oper.semAt_some

theorem info21 : (Tryd.prog.info? 21).map (fun i => (i.zero, i.size, i.bytes)) = some (some (.int .i32 0), 1, 4) := by kernel_rfl

theorem encode_good {B : Nat} {v : Value} {zs : List Int} (w : World) (hx : Rd encR 1 w B v zs) (hB : B ≤ w.heap.size) (T : Tabs w) (hl : zs.length ≤ 200) (hz : AllZ zs) :
    Calls Tryd.prog 8 #[v] w fun e w' => (∃ A cap, e = .returned (.tuple #[.slice A (encZ zs).length cap, .int .i64 0]) ∧ Rd encU 1 w' w'.heap.size (.slice A (encZ zs).length cap) (encZ zs)) ∧ Below w.heap.size w w' := by
  refine (encode_any w hx hB T (by omega)).mono ?_
  rintro e w' ⟨h, hb⟩
  rcases h with ⟨-, u, rfl, ho⟩ | ⟨hn, -⟩
  · obtain ⟨A, cap, rfl⟩ := ho.len_val
    have := encZ_le zs
    exact ⟨⟨A, cap, rfl, ho.rd encU_len (by simp only [maxLen]; omega)⟩, hb⟩
  · exact absurd hz hn
theorem encode_no {B : Nat} {v : Value} {zs : List Int} (w : World) (hx : Rd encR 1 w B v zs) (hB : B ≤ w.heap.size) (T : Tabs w) (hl : zs.length ≤ 200) (hz : ¬ AllZ zs) :
    Calls Tryd.prog 8 #[v] w fun e w' => e = .returned (.tuple #[.slice none 0 0, .int .i64 10]) ∧ Below w.heap.size w w' := by
  refine (encode_any w hx hB T (by omega)).mono ?_
  rintro e w' ⟨h, hb⟩
  rcases h with ⟨h, -⟩ | ⟨-, rfl⟩
  · exact absurd h hz
  · exact ⟨rfl, hb⟩

theorem get_cast {zs : List Int} (hz : AllZ zs) {k r : Nat} (h : (zs.map Int.toNat)[k]? = some r) : zs[k]? = some (r : Int) := by
  rw [List.getElem?_map] at h
  cases hk : zs[k]? with
  | none => rw [hk] at h; cases h
  | some y =>
    rw [hk] at h
    obtain ⟨n, rfl⟩ := isB_toNat (hz y (List.mem_of_getElem? hk))
    simp at h
    rw [h]

theorem leave_one {F : Fence} {n : Nat} {P : Program} {fn : Func} {tmps : Array Value} {R : Ending → World → Prop} {X : World} {D : Nat} (h1 : X.heap[D]? = some (.deferred (some [])))
    (hl : LeavesInM F n P fn tmps R [] .returning (X.putObj D (.deferred none))) : LeavesInM F n P fn tmps R [{ target := .collected D, args := #[] }] .returning X := by
  exact ⟨by simp, .inl ⟨_, _, rfl, run_takeDeferred h1, hl⟩⟩
theorem leave_two {F : Fence} {n : Nat} {P : Program} {fn : Func} {tmps : Array Value} {R : Ending → World → Prop} {X : World} {D D2 : Nat} (h1 : X.heap[D]? = some (.deferred (some []))) (h2 : X.heap[D2]? = some (.deferred (some []))) (hne : D ≠ D2)
    (hl : LeavesInM F n P fn tmps R [] .returning ((X.putObj D2 (.deferred none)).putObj D (.deferred none))) : LeavesInM F n P fn tmps R [{ target := .collected D2, args := #[] }, { target := .collected D, args := #[] }] .returning X := by
  refine ⟨by simp, .inl ⟨_, _, rfl, run_takeDeferred h2, ?_⟩⟩
  exact leave_one ((World.putObj_heap_other hne).trans h1) hl

/-- what the second loop holds -/
def Box2 (n₀ B : Nat) (W : World) (cs : List Nat) : Prop :=
  ∃ v, Boxed W B 22 v ∧ W.ownsRow n₀ 21 1 v cs.length ((cs.map (fun n : Nat => (n : Int))).flatMap encR) ∧ True

set_option maxRecDepth 100000 in
set_option maxHeartbeats 8000000 in
theorem back_walk {v1 v2 : Value} {zs : List Int} {bs : List UInt8} (w : World) (T : Tabs w) (hl : Rd encR 1 w w.heap.size v1 zs) (hx : Rd encU 1 w w.heap.size v2 bs) (hn1 : zs.length ≤ 100) (hn2 : bs.length ≤ 200) : Calls Tryd.prog 6 #[v1, v2] w fun e w' => e = .returned (.bool true) ∧ Below w.heap.size w w' := by
  have hl' := hl
  have hx' := hx
  obtain ⟨A1, cap1, rfl, h1, h2, -⟩ := hl
  obtain ⟨A2, cap2, rfl, h3, h4, -⟩ := hx
  unfold maxLen at h2 h4
  have hd1 : decide ((100 : Int) < zs.length) = false := decide_eq_false (by omega)
  have hd2 : decide ((200 : Int) < bs.length) = false := decide_eq_false (by omega)
  obtain ⟨cs, rest, hT, hS⟩ := told_all bs
  have hlen := hT.len
  have hge := encB_ge cs
  have hrl : rest = [] ↔ rest.length = 0 := List.length_eq_zero_iff.symm
  obtain ⟨xe, he, hxe⟩ : ∃ xe : Int, ((rest = [] ∧ xe = 0) ∨ (rest ≠ [] ∧ xe = 10)) ∧ ((xe = 0 ∧ (((encB cs).length : Int) == (bs.length : Int)) = true) ∨ (xe = 10 ∧ (((encB cs).length : Int) == (bs.length : Int)) = false)) := by
    by_cases h : rest = []
    · exact ⟨0, Or.inl ⟨h, rfl⟩, Or.inl ⟨rfl, by simp; have := hrl.1 h; omega⟩⟩
    · exact ⟨10, Or.inr ⟨h, rfl⟩, Or.inr ⟨rfl, by simp; have : rest.length ≠ 0 := fun e => h (hrl.2 e); omega⟩⟩
  have hb0 : Below w.heap.size w ((w.alloc (.cells #[.slice A1 zs.length cap1] 22)).alloc (.cells #[.bool false] 4)) := by ((repeat (first | exact Below.refl _ _ | assumption | refine Below.alloc ?_ (by first | omega | (simp; done) | (simp; omega)) _ | refine Below.setCell ?_ (by first | omega | (simp; done) | (simp; omega)) _ | refine Below.drew ?_ | refine below_drewN ?_ _)); done)
  have hx0 := hx'.next hb0
  have hl0 := hl'.next hb0
  have T0 := T.below hb0
  have gr0 : ((w.alloc (.cells #[.slice A1 zs.length cap1] 22)).alloc (.cells #[.bool false] 4)).heap[w.heap.size + 1]? = some (.cells #[.bool false] 4 (0, 0)) := by
    have := heap_alloc_new (w.alloc (.cells #[.slice A1 zs.length cap1] 22)) (.cells #[.bool false] 4)
    rwa [heap_size_alloc'] at this
  have gl0 : ((w.alloc (.cells #[.slice A1 zs.length cap1] 22)).alloc (.cells #[.bool false] 4)).heap[w.heap.size]? = some (.cells #[.slice A1 zs.length cap1] 22 (0, 0)) :=
    (heap_alloc_old (w.alloc (.cells #[.slice A1 zs.length cap1] 22)) (.cells #[.bool false] 4) (i := w.heap.size) (by rw [heap_size_alloc']; omega)).trans (heap_alloc_new w (.cells #[.slice A1 zs.length cap1] 22))
  have hz0 : ((w.alloc (.cells #[.slice A1 zs.length cap1] 22)).alloc (.cells #[.bool false] 4)).heap.size = w.heap.size + 2 := by simp
  have HE := Lib.hid he
  have HTT := Lib.hid hT
  have HSS := Lib.hid hS
  have HR0 := Lib.hid gr0
  have HL0 := Lib.hid gl0
  have hcl : cs.length ≤ 200 := by omega
  clear he hT hS gr0 gl0 hlen hge hrl
  refine (callsIn_wide (n := 6)).1 ?_
  refine callsIn_of_wp_marks Tryd.func6 rfl trivial ?_ rfl
  simp only [Tryd.ntmps6, List.size_toArray, List.length_cons, List.length_nil, Nat.reduceAdd, Nat.reduceSub, Array.replicate_succ, Array.replicate_zero, List.push_toArray, List.append_toArray, List.nil_append, List.cons_append]
  by_cases hz : AllZ zs
  · have hen := encode_good _ hl0 (Nat.le_refl _) T0 (by omega) hz
    gi_wp2_with (first
      | (refine ⟨trivial, ?_⟩; gi_at_call 8; refine (callsIn_wide.2 hen).mono ?_; rintro e w1 ⟨⟨Ac, cc, rfl, hrc⟩, hb1⟩; have hal := all_any _ hrc (Nat.le_refl _) (by have := encZ_le zs; omega); clear hen)
      | (refine ⟨trivial, ?_⟩; gi_at_call 14; refine (callsIn_wide.2 hal).mono ?_; rintro e w2 ⟨⟨g, u, rfl, hg2, hr2⟩, hb2⟩; have hfn := fn_some g w2; clear hal))
    have hds : ∃ ds : List Nat, ds = zs.map Int.toNat := ⟨_, rfl⟩
    obtain ⟨ds, hds⟩ := hds
    have HTE : Hid (Told (encZ zs) ds []) := by rw [hds]; exact told_enc hz
    have hdl : ds.length = zs.length := by rw [hds, List.length_map]
    have HZR : ∀ (k r : Nat), ds[k]? = some r → Hid (zs[k]? = some (r : Int)) := fun k r h => get_cast hz (by rw [← hds]; exact h)
    have hz1 := hb1.size
    have hz2 := hb2.size
    rw [hz0] at hz1
    have hb01 := hb0.trans (hb1.mono hb0.size)
    have hb02 := hb01.trans (hb2.mono hb01.size)
    have T2 := T.below hb02
    have hl2 := (hl0.next hb1).next hb2
    have hx2 := (hx0.next hb1).next hb2
    have hrc2 := hrc.next hb2
    have gr2 := (hb2.block (w.heap.size + 1) (by omega)).trans ((hb1.block (w.heap.size + 1) (by rw [hz0]; omega)).trans HR0.out)
    have gl2 := (hb2.block w.heap.size (by omega)).trans ((hb1.block w.heap.size (by rw [hz0]; omega)).trans HL0.out)
    have hgl : g < w2.heap.size := World.block_lt_of_cell? w2 _ hg2
    have hbL : Below w2.heap.size w2 (w2.alloc (.cells #[.int .i64 0] 3)) := by ((repeat (first | exact Below.refl _ _ | assumption | refine Below.alloc ?_ (by first | omega | (simp; done) | (simp; omega)) _ | refine Below.setCell ?_ (by first | omega | (simp; done) | (simp; omega)) _ | refine Below.drew ?_ | refine below_drewN ?_ _)); done)
    have gn := heap_alloc_new w2 (.cells #[.int .i64 0] 3)
    clear hl0 hx0 T0 hrc hb1 hb2 hb01 hds
    refine range_all (by omega) 42 10 rfl (iter_stops 5 (by omega) g w2.heap.size HTE.out (Or.inl rfl) (by have := encZ_le zs; omega) w2 hg2 hgl hr2 T2 T2.lt (Nat.le_refl _)) (by simp) hbL
      (fun pre W => (∃ k, k ≤ ds.length ∧ pre.map Pr.b = ds.take k ∧ W.cell? ⟨w2.heap.size, 0, none⟩ = some (.int .i64 (k : Nat)) ∧ W.frozen? ⟨w2.heap.size, 0, none⟩ = false) ∧ Below w2.heap.size w2 W)
      (fun c pre _ => c = .ret ∧ ¬ pre <+: pl 0 ds)
      (OwnFrom.and (fun s A B row hs hg hr => by
        obtain ⟨k, i1, i2, i3, i4⟩ := hs
        exact ⟨k, i1, i2, cell_kept i3 hg (fun r e => (hr r e).2), (frozen_kept i3 hg (fun r e => (hr r e).2)).trans i4⟩) (ownFrom_below (Nat.le_refl _) (by simp)))
      (fun c s A B row hs hg hr => hs)
      ⟨⟨0, Nat.zero_le _, rfl, by rw [cell_of_row _ _ _ _ _ _ gn]; rfl, frozen_of_row _ _ _ _ _ gn⟩, hbL⟩
      ?_ ?_ ?_ ?_
    · intro l x W K hK
      simp only [actAt, List.setIfInBounds_toArray, List.set_cons_succ, List.set_cons_zero] at hK ⊢
      gi_wp2
      exact hK
    · rintro l pre x W ⟨⟨k, hk, hpre, c1, f1⟩, hB⟩ hpl
      have hkl : pre.length = k := by
        have := congrArg List.length hpre
        rw [List.length_map, List.length_take, Nat.min_eq_left hk] at this
        exact this
      simp only [actAt, List.setIfInBounds_toArray, List.set_cons_succ, List.set_cons_zero]
      obtain ⟨r, hr⟩ := get_lt (show k < ds.length by omega)
      have hzr := (HZR k r hr).out
      have hir : isB (r : Int) = true := HTE.out.all r (List.mem_of_getElem? hr)
      have TW : Tabs W := T2.keep hB T2.lt
      have his := is_any (r : Int) W TW
      rw [hir] at his
      have HBAD : ∀ y : Pr, y.b ≠ r → Hid (¬ (pre ++ [y]) <+: pl 0 ds) := fun y hy => bad_b hpre hr HTE.out.all hy
      have HNX : Hid (ds.take (k + 1) = ds.take k ++ [r]) := take_snoc hr
      have hlW := hl2.below hB (Nat.le_refl _)
      obtain ⟨b2, off2, hA, hbb, hc2⟩ := hlW.at_ hzr
      have cr : W.cell? ⟨b2, off2 + k, none⟩ = some (.int .i32 (r : Nat)) := by simpa using hc2 k _ hzr 0 _ rfl
      have cl : W.cell? ⟨w.heap.size, 0, none⟩ = some (.slice (some ⟨b2, off2, none⟩) zs.length cap1) := by
        rw [← hA]
        exact Below.cell_some hB (by rw [cell_of_row _ _ _ _ _ _ gl2]; rfl) (show w.heap.size < w2.heap.size by omega)
      have ck : W.cell? ⟨w.heap.size + 1, 0, none⟩ = some (.bool false) := Below.cell_some hB (by rw [cell_of_row _ _ _ _ _ _ gr2]; rfl) (show w.heap.size + 1 < w2.heap.size by omega)
      have fk : W.frozen? ⟨w.heap.size + 1, 0, none⟩ = false := (hB.frozen (p := ⟨w.heap.size + 1, 0, none⟩) (show w.heap.size + 1 < w2.heap.size by omega)).trans (frozen_of_row _ _ _ _ _ gr2)
      have hznW : w2.heap.size < W.heap.size := World.block_lt_of_cell? W _ c1
      have hge : decide ((zs.length : Int) ≤ (k : Int)) = false := decide_eq_false (by omega)
      have hge2 : decide (zs.length ≤ k) = false := decide_eq_false (by omega)
      have hkz : k < zs.length := by omega
      clear hc2 hr hir hzr hlW hA
      have HPRE := Lib.hid hpre
      clear hpre
      obtain ⟨xa, xb, hxa, hxb⟩ := x
      simp only
      by_cases e1 : xb = r
      · subst e1
        clear HBAD
        gi_wp2_with (first | (refine ⟨trivial, ?_⟩; gi_at_call 15; refine (CallsIn.inRound l (callsIn_wide.2 his)).mono ?_; rintro e w4 ⟨rfl, hb4⟩; have c1' := Below.cell_some hb4 c1 hznW; have f1' := (hb4.frozen (p := ⟨w2.heap.size, 0, none⟩) hznW).trans f1))
        have j2 : Below w2.heap.size W (w4.setCell ⟨w2.heap.size, 0, none⟩ (.int .i64 ((k : Int) + 1))) := Below.setCell (hb4.mono hB.size) (Nat.le_refl _) _
        refine ⟨(KeepsOthers.of_grownBy (grown_of_below hb4) (fun j o h => by cases h)).trans (KeepsOthers.setCell _ _ _), j2, ⟨k + 1, by omega, ?_, World.cell?_setCell_same' _ _ _ (by rw [c1']; rfl), ?_⟩, hB.trans j2⟩
        · rw [List.map_append, HPRE.out, HNX.out]; rfl
        · rw [World.frozen?_setCell]; exact f1'
      · have hbad := HBAD ⟨xa, xb, hxa, hxb⟩ e1
        have n1 : ((xb : Int) != (r : Int)) = true := by simp; omega
        have n2 : (xb != r) = true := by simp; omega
        clear HBAD his
        gi_wp2_with (first | (refine ⟨trivial, ?_⟩))
        all_goals exact ⟨KeepsOthers.setCell _ _ _, rfl, hbad.out⟩
    · rintro D W hD ⟨⟨k, hk, hpre, c1, f1⟩, hB⟩ hK
      rw [pl_b ds 0 HTE.out.all] at hpre
      have hkl : k = ds.length := by
        have := congrArg List.length hpre
        rw [List.length_take, Nat.min_eq_left hk] at this
        omega
      subst hkl
      have hck := check_whole W (hrc2.below hB (Nat.le_refl _)) hB.size (T2.keep hB T2.lt) HTE.out
      have hzW : w2.heap.size < W.heap.size := World.block_lt_of_cell? W _ c1
      have hDl : D < W.heap.size := (Array.getElem?_eq_some_iff.1 hK).1
      have cl : W.cell? ⟨w.heap.size, 0, none⟩ = some (.slice A1 zs.length cap1) := Below.cell_some hB (by rw [cell_of_row _ _ _ _ _ _ gl2]; rfl) (show w.heap.size < w2.heap.size by omega)
      have grW := (hB.block (w.heap.size + 1) (by omega)).trans gr2
      have HK := Lib.hid hK
      have HGW := Lib.hid grW
      rw [hdl] at c1
      clear hpre hK grW
      gi_wp2_with (first | (refine ⟨trivial, ?_⟩; gi_at_call 12; refine (callsIn_wide.2 hck).mono ?_; rintro e w5 ⟨rfl, hb5⟩; have c5 := Below.cell_some hb5 c1 hzW; have l5 := Below.cell_some hb5 cl (show w.heap.size < W.heap.size by omega); have hx5 := (((hx2.below hB (Nat.le_refl _)).more hB.size).next hb5); have hal := all_any _ hx5 (Nat.le_refl _) (by omega); clear hck) | (refine ⟨trivial, ?_⟩; gi_at_call 14; refine (callsIn_wide.2 hal).mono ?_; rintro e w6 ⟨⟨g6, u6, rfl, hg6, hr6⟩, hb6⟩; have hfn6 := fn_some g6 w6; clear hal))
      have hb5' : Below w2.heap.size w2 w5 := hB.trans (hb5.mono hB.size)
      have hb6' : Below w2.heap.size w2 w6 := hb5'.trans (hb6.mono hb5'.size)
      have hb06 := hb02.trans (hb6'.mono hb02.size)
      have T6 := T.below hb06
      have hz6 := hb6'.size
      have hD6 : D < w6.heap.size := Nat.lt_of_lt_of_le hDl (Nat.le_trans hb5.size hb6.size)
      have hx6 := hx5.next hb6
      have gr6 := (hb6'.block (w.heap.size + 1) (by omega)).trans gr2
      have hK6 := (hb6.block D (Nat.lt_of_lt_of_le hDl hb5.size)).trans ((hb5.block D hDl).trans HK.out)
      have hg6l : g6 < w6.heap.size := World.block_lt_of_cell? w6 _ hg6
      have hbM : Below w6.heap.size w6 (w6.alloc (.cells #[.slice none 0 0] 22)) := by ((repeat (first | exact Below.refl _ _ | assumption | refine Below.alloc ?_ (by first | omega | (simp; done) | (simp; omega)) _ | refine Below.setCell ?_ (by first | omega | (simp; done) | (simp; omega)) _ | refine Below.drew ?_ | refine below_drewN ?_ _)); done)
      refine range_all (by omega) 87 16 rfl (iter_stops 5 (by omega) g6 w6.heap.size HTT.out HSS.out (by omega) w6 hg6 hg6l hr6 T6 T6.lt (Nat.le_refl _)) (by simp) hbM
        (fun pre W => Box2 w6.heap.size w6.heap.size W (pre.map Pr.b) ∧ Below w6.heap.size w6 W)
        (fun _ _ _ => False)
        (OwnFrom.and ((holdsRow_own w6.heap.size w6.heap.size 22 21 1 (fun pre : List Pr => (pre.map Pr.b).length) (fun pre => ((pre.map Pr.b).map (fun n : Nat => (n : Int))).flatMap encR) (fun _ _ => True)).from _) (ownFrom_below (Nat.le_refl _) (by simp)))
        (fun c s A B row hs hg hr => hs)
        ⟨⟨_, Boxed.new w6 22 (.slice none 0 0), World.ownsRow_nil _ _ _ _, trivial⟩, hbM⟩
        ?_ ?_ ?_ ?_
      · intro l x W K hK
        simp only [actAt, List.setIfInBounds_toArray, List.set_cons_succ, List.set_cons_zero] at hK ⊢
        gi_wp2
        exact hK
      · rintro l pre x W ⟨⟨v, hv, hrow, -⟩, hB⟩ hpl
        simp only [actAt, List.setIfInBounds_toArray, List.set_cons_succ, List.set_cons_zero]
        obtain ⟨i0, hi, hi0, hi1, hi2⟩ := info_parts info21
        have hvc := hv.cell
        have hvl := hv.lt
        rw [List.length_map] at hrow
        have hszB := hB.size
        gi_wp2_with (first | (gi_at_builtin; refine wpListIn_append_own _ rfl _ _ 22 rfl w6.heap.size 21 i0 (.int .i32 0) 1 4 Tryd.underlying22 hi hi0 hi1 hi2 rfl (by decide) _ _ _ rfl (hrow.alloc _) ⟨W.heap.size, 0, none⟩ 1 1 [.int .i32 (x.b : Nat)] rfl rfl (cell_one_new _ _ _) (by simp [Value.oneCell']) (by simp only [maxLen]; omega) (by omega) (by simp; omega) ?_; intro v' w7 hown' hgrow _; obtain ⟨g', cap', rfl⟩ := ownsRow_succ hown'; obtain ⟨hv1, hv2, hr2', hk2, hb2'⟩ := hv.appended (by decide) hrow hszB (Nat.le_refl _) hown' hgrow; have hc1 := hv1.cell; have hf1 := hv1.frozen))
        refine ⟨hk2, hb2', ⟨_, hv2, ?_, trivial⟩, hB.trans hb2'⟩
        simpa [encR] using hr2'
      · rintro D2 W2 hD2 ⟨⟨v, hv, hrow, -⟩, hB2⟩ hK2
        rw [pl_b cs 0 HTT.out.all] at hrow
        have hom : Own encR 1 21 W2 w6.heap.size v (cs.map (fun n : Nat => (n : Int))) := by unfold Own; rw [List.length_map]; exact hrow
        have hrm := hom.rd encR_len (by rw [List.length_map]; simp only [maxLen]; omega)
        have TW2 : Tabs W2 := T6.keep hB2 T6.lt
        have hen2 := encode_good W2 hrm (Nat.le_refl _) TW2 (by rw [List.length_map]; omega) (allZ_cast HTT.out.all)
        simp only [encZ_cast] at hen2
        have hbW := hb06.trans (hB2.mono hb06.size)
        have hvc := hv.cell
        have hxW2 := (hx6.below hB2 (Nat.le_refl _)).more hB2.size
        have hck2 : ∀ (w8 : World), Rd encU 1 w8 w8.heap.size (.slice A2 bs.length cap2) bs → Tabs w8 → _ := fun w8 h8 t8 => check_told w8 h8 (Nat.le_refl _) t8 HTT.out HSS.out HE.out
        have hnl : (encB cs).length ≤ bs.length := by have := HTT.out.len; omega
        have HEQ : Hid (decide (encB cs = bs.take (encB cs).length) = true) := by
          apply decide_eq_true
          conv => rhs; rw [HTT.out.eq]
          simp
        have hgrW : W2.heap[w.heap.size + 1]? = some (.cells #[.bool false] 4 (0, 0)) := (hB2.block (w.heap.size + 1) (by omega)).trans gr6
        have HGR := Lib.hid hgrW
        have HK1 := Lib.hid ((hB2.block D (by omega)).trans hK6)
        have HK2 := Lib.hid hK2
        have hwW : w.heap.size + 1 < W2.heap.size := by have := hB2.size; omega
        have g1 : decide (0 ≤ ((encB cs).length : Int)) = true := decide_eq_true (by omega)
        have g2 : decide (((encB cs).length : Int) ≤ (bs.length : Int)) = true := decide_eq_true (by omega)
        have g3 : decide ((encB cs).length ≤ bs.length) = true := decide_eq_true hnl
        clear hgrW hK6 hK2
        rcases hxe with ⟨rfl, hq⟩ | ⟨rfl, hq⟩
        all_goals
         gi_wp2_with (first | (refine ⟨trivial, ?_⟩; gi_at_call 8; refine (callsIn_wide.2 hen2).mono ?_; rintro e w8 ⟨⟨Ad, cd, rfl, hrd⟩, hb8⟩; have hx8 := hxW2.next hb8; have hck8 := hck2 _ hx8 (TW2.below hb8); clear hen2 hck2) | (refine ⟨trivial, ?_⟩; gi_at_call 12; refine (callsIn_wide.2 hck8).mono ?_; rintro e w9 ⟨rfl, hb9⟩; have hx9 := hx8.next hb9; have hd9 := hrd.next hb9; have hsl := slice_to A2 bs.length (encB cs).length cap2 (by omega) w9; have hby := bytes_any _ hd9 (hx9.take hnl) (Nat.le_refl _); rw [HEQ.out] at hby; clear hck8) | (refine ⟨trivial, ?_⟩; gi_at_call 11; refine (callsIn_wide.2 hby).mono ?_; rintro e w10 ⟨rfl, hb10⟩; have hb810 := hb8.trans ((hb9.mono hb8.size).trans (hb10.mono (Nat.le_trans hb8.size hb9.size))); have haw := awake_any w10 (TW2.below hb810); clear hby) | (refine ⟨trivial, ?_⟩; gi_at_call 7; refine (callsIn_wide.2 haw).mono ?_; rintro e w11 ⟨rfl, hb11⟩; have hb811 := hb810.trans (hb11.mono hb810.size); have g11 := (hb811.block (w.heap.size + 1) hwW).trans HGR.out; have k11 : w11.cell? ⟨w.heap.size + 1, 0, none⟩ = some (.bool false) := (by rw [cell_of_row _ _ _ _ _ _ g11]; rfl); have f11 : w11.frozen? ⟨w.heap.size + 1, 0, none⟩ = false := frozen_of_row _ _ _ _ _ g11; clear haw))
        all_goals
         have hD2W : D2 < W2.heap.size := (Array.getElem?_eq_some_iff.1 HK2.out).1
         have hDne : D ≠ D2 := by simp at hD2; omega
         have hDW : D < W2.heap.size := (Array.getElem?_eq_some_iff.1 HK1.out).1
         have hX1 := (KeepsOthers.setCell w11 ⟨w.heap.size + 1, 0, none⟩ (.bool true)).same D _ ((hb811.block D hDW).trans HK1.out) rfl
         have hX2 := (KeepsOthers.setCell w11 ⟨w.heap.size + 1, 0, none⟩ (.bool true)).same D2 _ ((hb811.block D2 hD2W).trans HK2.out) rfl
         refine leave_two hX1 hX2 hDne ?_
         have hc1 := cell_kept (World.cell?_setCell_same' w11 ⟨w.heap.size + 1, 0, none⟩ (.bool true) (by rw [k11]; rfl)) (grownBy_putObj' _ D2 (.deferred none)) (fun r e => by cases e; exact ⟨_, hX2, rfl⟩)
         have hX1' := (World.putObj_heap_other (o := .deferred none) hDne).trans hX1
         have hc2 := cell_kept hc1 (grownBy_putObj' _ D (.deferred none)) (fun r e => by cases e; exact ⟨_, hX1', rfl⟩)
         have hbX : Below w.heap.size w (w11.setCell ⟨w.heap.size + 1, 0, none⟩ (.bool true)) := Below.setCell (hbW.trans (hb811.mono hbW.size)) (by simp) _
         refine ⟨.bool true, ?_, rfl, (hbX.trans (belowK_b (w := w) (Nat.le_refl _) _ D2 _ _ (by simp at hD2; omega) hX2 rfl rfl)).trans (belowK_b (w := w) (Nat.le_refl _) _ D _ _ (by simp at hD; omega) hX1' rfl rfl)⟩
         simp [results, Tryd.results6, go_sem, hc2]
      · rintro D c pre W hD hp h hK
        exact absurd h id
    · rintro D c pre W hD hp ⟨rfl, hbad⟩ hK
      exact absurd hp hbad
  · have hen := encode_no _ hl0 (Nat.le_refl _) T0 (by omega) hz
    gi_wp2_with (first
      | (refine ⟨trivial, ?_⟩; gi_at_call 8; refine (callsIn_wide.2 hen).mono ?_; rintro e w5 ⟨rfl, hb5⟩; have hx5 := hx0.next hb5; have hal := all_any _ hx5 (Nat.le_refl _) (by omega); clear hen)
      | (refine ⟨trivial, ?_⟩; gi_at_call 14; refine (callsIn_wide.2 hal).mono ?_; rintro e w6 ⟨⟨g6, u6, rfl, hg6, hr6⟩, hb6⟩; have hfn6 := fn_some g6 w6; clear hal))
    have hz5 := hb5.size
    have hz6 := hb6.size
    rw [hz0] at hz5
    have hb05 := hb0.trans (hb5.mono hb0.size)
    have hb06 := hb05.trans (hb6.mono hb05.size)
    have T6 := T.below hb06
    have hx6 := hx5.next hb6
    have gr6 := (hb6.block (w.heap.size + 1) (by omega)).trans ((hb5.block (w.heap.size + 1) (by rw [hz0]; omega)).trans HR0.out)
    have hg6l : g6 < w6.heap.size := World.block_lt_of_cell? w6 _ hg6
    have hbM : Below w6.heap.size w6 (w6.alloc (.cells #[.slice none 0 0] 22)) := by ((repeat (first | exact Below.refl _ _ | assumption | refine Below.alloc ?_ (by first | omega | (simp; done) | (simp; omega)) _ | refine Below.setCell ?_ (by first | omega | (simp; done) | (simp; omega)) _ | refine Below.drew ?_ | refine below_drewN ?_ _)); done)
    refine range_all (by omega) 87 16 rfl (iter_stops 5 (by omega) g6 w6.heap.size HTT.out HSS.out (by omega) w6 hg6 hg6l hr6 T6 T6.lt (Nat.le_refl _)) (by simp) hbM
      (fun pre W => Box2 w6.heap.size w6.heap.size W (pre.map Pr.b) ∧ Below w6.heap.size w6 W)
      (fun _ _ _ => False)
      (OwnFrom.and ((holdsRow_own w6.heap.size w6.heap.size 22 21 1 (fun pre : List Pr => (pre.map Pr.b).length) (fun pre => ((pre.map Pr.b).map (fun n : Nat => (n : Int))).flatMap encR) (fun _ _ => True)).from _) (ownFrom_below (Nat.le_refl _) (by simp)))
      (fun c s A B row hs hg hr => hs)
      ⟨⟨_, Boxed.new w6 22 (.slice none 0 0), World.ownsRow_nil _ _ _ _, trivial⟩, hbM⟩
      ?_ ?_ ?_ ?_
    · intro l x W K hK
      simp only [actAt, List.setIfInBounds_toArray, List.set_cons_succ, List.set_cons_zero] at hK ⊢
      gi_wp2
      exact hK
    · rintro l pre x W ⟨⟨v, hv, hrow, -⟩, hB⟩ hpl
      simp only [actAt, List.setIfInBounds_toArray, List.set_cons_succ, List.set_cons_zero]
      obtain ⟨i0, hi, hi0, hi1, hi2⟩ := info_parts info21
      have hvc := hv.cell
      have hvl := hv.lt
      rw [List.length_map] at hrow
      have hszB := hB.size
      gi_wp2_with (first | (gi_at_builtin; refine wpListIn_append_own _ rfl _ _ 22 rfl w6.heap.size 21 i0 (.int .i32 0) 1 4 Tryd.underlying22 hi hi0 hi1 hi2 rfl (by decide) _ _ _ rfl (hrow.alloc _) ⟨W.heap.size, 0, none⟩ 1 1 [.int .i32 (x.b : Nat)] rfl rfl (cell_one_new _ _ _) (by simp [Value.oneCell']) (by simp only [maxLen]; omega) (by omega) (by simp; omega) ?_; intro v' w7 hown' hgrow _; obtain ⟨g', cap', rfl⟩ := ownsRow_succ hown'; obtain ⟨hv1, hv2, hr2', hk2, hb2'⟩ := hv.appended (by decide) hrow hszB (Nat.le_refl _) hown' hgrow; have hc1 := hv1.cell; have hf1 := hv1.frozen))
      refine ⟨hk2, hb2', ⟨_, hv2, ?_, trivial⟩, hB.trans hb2'⟩
      simpa [encR] using hr2'
    · rintro D2 W2 hD2 ⟨⟨v, hv, hrow, -⟩, hB2⟩ hK2
      rw [pl_b cs 0 HTT.out.all] at hrow
      have hom : Own encR 1 21 W2 w6.heap.size v (cs.map (fun n : Nat => (n : Int))) := by unfold Own; rw [List.length_map]; exact hrow
      have hrm := hom.rd encR_len (by rw [List.length_map]; simp only [maxLen]; omega)
      have TW2 : Tabs W2 := T6.keep hB2 T6.lt
      have hen2 := encode_good W2 hrm (Nat.le_refl _) TW2 (by rw [List.length_map]; omega) (allZ_cast HTT.out.all)
      simp only [encZ_cast] at hen2
      have hbW := hb06.trans (hB2.mono hb06.size)
      have hvc := hv.cell
      have hxW2 := (hx6.below hB2 (Nat.le_refl _)).more hB2.size
      have hck2 : ∀ (w8 : World), Rd encU 1 w8 w8.heap.size (.slice A2 bs.length cap2) bs → Tabs w8 → _ := fun w8 h8 t8 => check_told w8 h8 (Nat.le_refl _) t8 HTT.out HSS.out HE.out
      have hnl : (encB cs).length ≤ bs.length := by have := HTT.out.len; omega
      have HEQ : Hid (decide (encB cs = bs.take (encB cs).length) = true) := by
        apply decide_eq_true
        conv => rhs; rw [HTT.out.eq]
        simp
      have hgrW : W2.heap[w.heap.size + 1]? = some (.cells #[.bool false] 4 (0, 0)) := (hB2.block (w.heap.size + 1) (by omega)).trans gr6
      have HGR := Lib.hid hgrW
      have HK2 := Lib.hid hK2
      have hwW : w.heap.size + 1 < W2.heap.size := by have := hB2.size; omega
      have g1 : decide (0 ≤ ((encB cs).length : Int)) = true := decide_eq_true (by omega)
      have g2 : decide (((encB cs).length : Int) ≤ (bs.length : Int)) = true := decide_eq_true (by omega)
      have g3 : decide ((encB cs).length ≤ bs.length) = true := decide_eq_true hnl
      clear hgrW hK2
      rcases hxe with ⟨rfl, hq⟩ | ⟨rfl, hq⟩
      all_goals
       gi_wp2_with (first | (refine ⟨trivial, ?_⟩; gi_at_call 8; refine (callsIn_wide.2 hen2).mono ?_; rintro e w8 ⟨⟨Ad, cd, rfl, hrd⟩, hb8⟩; have hx8 := hxW2.next hb8; have hck8 := hck2 _ hx8 (TW2.below hb8); clear hen2 hck2) | (refine ⟨trivial, ?_⟩; gi_at_call 12; refine (callsIn_wide.2 hck8).mono ?_; rintro e w9 ⟨rfl, hb9⟩; have hx9 := hx8.next hb9; have hd9 := hrd.next hb9; have hsl := slice_to A2 bs.length (encB cs).length cap2 (by omega) w9; have hby := bytes_any _ hd9 (hx9.take hnl) (Nat.le_refl _); rw [HEQ.out] at hby; clear hck8) | (refine ⟨trivial, ?_⟩; gi_at_call 11; refine (callsIn_wide.2 hby).mono ?_; rintro e w10 ⟨rfl, hb10⟩; have hb810 := hb8.trans ((hb9.mono hb8.size).trans (hb10.mono (Nat.le_trans hb8.size hb9.size))); have haw := awake_any w10 (TW2.below hb810); clear hby) | (refine ⟨trivial, ?_⟩; gi_at_call 7; refine (callsIn_wide.2 haw).mono ?_; rintro e w11 ⟨rfl, hb11⟩; have hb811 := hb810.trans (hb11.mono hb810.size); have g11 := (hb811.block (w.heap.size + 1) hwW).trans HGR.out; have k11 : w11.cell? ⟨w.heap.size + 1, 0, none⟩ = some (.bool false) := (by rw [cell_of_row _ _ _ _ _ _ g11]; rfl); have f11 : w11.frozen? ⟨w.heap.size + 1, 0, none⟩ = false := frozen_of_row _ _ _ _ _ g11; clear haw))
      all_goals
       have hD2W : D2 < W2.heap.size := (Array.getElem?_eq_some_iff.1 HK2.out).1
       have hX2 := (KeepsOthers.setCell w11 ⟨w.heap.size + 1, 0, none⟩ (.bool true)).same D2 _ ((hb811.block D2 hD2W).trans HK2.out) rfl
       refine leave_one hX2 ?_
       have hc2 := cell_kept (World.cell?_setCell_same' w11 ⟨w.heap.size + 1, 0, none⟩ (.bool true) (by rw [k11]; rfl)) (grownBy_putObj' _ D2 (.deferred none)) (fun r e => by cases e; exact ⟨_, hX2, rfl⟩)
       have hbX : Below w.heap.size w (w11.setCell ⟨w.heap.size + 1, 0, none⟩ (.bool true)) := Below.setCell (hbW.trans (hb811.mono hbW.size)) (by simp) _
       refine ⟨.bool true, ?_, rfl, hbX.trans (belowK_b (w := w) (Nat.le_refl _) _ D2 _ _ (by simp at hD2; omega) hX2 rfl rfl)⟩
       simp [results, Tryd.results6, go_sem, hc2]
    · rintro D c pre W hD hp h hK
      exact absurd h id

theorem back_all {v1 v2 : Value} {zs : List Int} {bs : List UInt8} (w : World) (T : Tabs w) (hl : Rd encR 1 w w.heap.size v1 zs) (hx : Rd encU 1 w w.heap.size v2 bs) : Calls Tryd.prog 6 #[v1, v2] w fun e w' => e = .returned (.bool true) ∧ Below w.heap.size w w' := by
  by_cases hn1 : zs.length ≤ 100
  · by_cases hn2 : bs.length ≤ 200
    · exact back_walk w T hl hx hn1 hn2
    · exact back_long w T hl hx (by omega)
  · exact back_long w T hl hx (by omega)
#print axioms back_all
end Go.Proofs.YtgkmmlffnfpjaaaDoor
