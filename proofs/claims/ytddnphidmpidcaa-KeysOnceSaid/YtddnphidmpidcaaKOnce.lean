import Derived.Test.YtddnphidmpidcaaKP2
namespace Go.Proofs.Ytddnphidmpidcaa
open Go Go.RowKit

/-- block g is the array of forty bools: whose places are in S -/
def Bits (w : World) (g : Nat) (S : List Int) : Prop := ∃ cs : Array Value, w.heap[g]? = some (.cells cs 40 (0, 0)) ∧ cs.size = 40 ∧ ∀ p : Nat, p < 40 → cs[p]? = some (.bool (decide ((p : Int) ∈ S)))
theorem Bits.start {w : World} {g : Nat} (h : w.heap[g]? = some (.cells (Array.replicate 40 (.bool false)) 40 (0, 0))) : Bits w g [] :=
  ⟨_, h, by simp, fun p hp => by simp [hp]⟩
theorem Bits.cell {w : World} {g : Nat} {S : List Int} (h : Bits w g S) {p : Nat} (hp : p < 40) : w.cell? ⟨g, p, none⟩ = some (.bool (decide ((p : Int) ∈ S))) := by
  obtain ⟨cs, hg, _, hc⟩ := h
  rw [cell_of_row _ _ _ _ _ _ hg]; exact hc p hp
theorem Bits.frozen {w : World} {g : Nat} {S : List Int} (h : Bits w g S) (p : Nat) : w.frozen? ⟨g, p, none⟩ = false := by
  obtain ⟨cs, hg, _, hc⟩ := h
  exact frozen_of_row _ _ _ _ _ hg
theorem Bits.store {w : World} {g : Nat} {S : List Int} (h : Bits w g S) {p : Nat} (hp : p < 40) : Bits (w.setCell ⟨g, p, none⟩ (.bool true)) g (S ++ [(p : Int)]) := by
  obtain ⟨cs, hg, hs, hc⟩ := h
  refine ⟨_, heap_setCell_same w g p cs 40 _ hg, by simpa using hs, fun q hq => ?_⟩
  rw [Array.getElem?_setIfInBounds]
  by_cases h1 : p = q
  · subst h1; simp [hs, hp]
  · rw [if_neg h1, hc q hq]
    have : (q : Int) ≠ (p : Int) := by omega
    simp [this]
theorem Bits.below {w w' : World} {g : Nat} {S : List Int} (h : Bits w g S) (hb : Below w.heap.size w w') : Bits w' g S := by
  obtain ⟨cs, hg, hs, hc⟩ := h
  exact ⟨cs, (hb.block g (Array.getElem?_eq_some_iff.1 hg).1).trans hg, hs, hc⟩

set_option maxHeartbeats 4000000 in
set_option maxRecDepth 100000 in
theorem once_walk {v v' : Value} {xs ys : List Ent} (w : World) (hx : Rd Ent.enc 3 w w.heap.size v xs) (hy : Rd Ent.enc 3 w w.heap.size v' ys) (hkx : ∀ x ∈ xs, x.key.size ≤ maxLen) (hky : ∀ x ∈ ys, x.key.size ≤ maxLen) :
   Calls Try.prog 5 #[v, v'] w fun e w' => e = .returned (.bool true) ∧ Below w.heap.size w w' := by
  have hx' := hx
  have hy' := hy
  obtain ⟨A, cap, rfl, h1, h2, -⟩ := hx
  obtain ⟨A', cap', rfl, h1', h2', -⟩ := hy
  unfold maxLen at h2 h2'
  by_cases hlx : xs.length ≤ 40
  · by_cases hly : ys.length ≤ 40
    · have hw : Below w.heap.size w w := Below.refl _ _
      go_enter Try.func5, Try.ntmps5
      go_wp2_with fail
      refine (align_any _ hx' hy' (Nat.le_refl _) (by omega) (by omega) hkx hky).mono ?_
      rintro e w1 ⟨va, rfl, hra, hb1⟩
      (replace hw := Below.trans hw (Below.mono hb1 (Below.size hw)); replace hx' := Rd.next hx' hb1; replace hy' := Rd.next hy' hb1)
      go_wp2_with fail
      refine (left_any _ hx' hy' (Nat.le_refl _) (by omega) (by omega) hkx hky).mono ?_
      rintro e w2 ⟨vl, rfl, hrl, hb2⟩
      (replace hw := Below.trans hw (Below.mono hb2 (Below.size hw)); replace hx' := Rd.next hx' hb2; replace hy' := Rd.next hy' hb2; replace hra := Rd.next hra hb2)
      change Rd encI 1 w2 w2.heap.size va (TT xs ys) at hra
      change Rd encI 1 w2 w2.heap.size vl (leftL (TT xs ys) ys.length) at hrl
      have hra' := hra
      have hrl' := hrl
      obtain ⟨At, capt, rfl, ht1, ht2, -⟩ := hra
      obtain ⟨Al, capl, rfl, hl1, hl2, -⟩ := hrl
      unfold maxLen at ht2 hl2
      have hTl := TT_len xs ys
      have hLl := leftL_len (TT xs ys) ys.length
      have hne : (((TT xs ys).length : Int) != (xs.length : Int)) = false := by rw [hTl]; simp
      have HTL := Lib.hid hTl
      clear hTl
      go_wp2_with fail
      go_loopw [8, 9] (fun n i wr => ∃ (k : Nat), k ≤ (TT xs ys).length ∧ i = .int .i64 k ∧ n = .int .i64 (tookN (TT xs ys) k) ∧ Bits wr w2.heap.size ((TT xs ys).take k) ∧ Below w2.heap.size w2 wr) (fun _ i _ => (TT xs ys).length - (intOf i).toNat)
      case atStart => exact ⟨0, Nat.zero_le _, rfl, rfl, Bits.start (heap_alloc_new _ _), by ((repeat (first | exact Below.refl _ _ | assumption | refine Below.alloc ?_ (by first | omega | (simp; done) | (simp; omega)) _ | refine Below.setCell ?_ (by first | omega | (simp; done) | (simp; omega)) _ | refine Below.drew ?_ | refine below_drewN ?_ _)); done)⟩
      case round =>
        obtain ⟨k, hk, rfl, rfl, hbits, hbel⟩ := hrel
        have hsz := hbel.size
        by_cases hlt : k < (TT xs ys).length
        · obtain ⟨t, htk⟩ := get_lt hlt
          obtain ⟨X, hxk⟩ := get_lt (show k < xs.length by rw [← HTL.out]; exact hlt)
          have hlt2 : k < xs.length := (List.getElem?_eq_some_iff.1 hxk).1
          have HX := Lib.hid hxk
          have HK := Lib.hid htk
          obtain ⟨b, off, rfl, hb, hc⟩ := (hra'.below hbel (Nat.le_refl _)).at_ htk
          have c0 : wr.cell? ⟨b, off + k, none⟩ = some (.int .i64 t) := by simpa using hc k _ htk 0 _ rfl
          have hor := TT_or hxk htk
          clear hc htk hxk
          rcases hor with rfl | ⟨ht0, htm, hno, j, Y, hyj, hnrm, rfl⟩
          · have HT1 : Hid (tookN (TT xs ys) (k + 1) = tookN (TT xs ys) k) := by unfold Hid; rw [tookN_step HK.out]; simp
            have hneg := Lib.hid (TT_neg HX.out HK.out)
            go_wp2_with fail
            obtain ⟨wo, rfl⟩ : ∃ wo : World, wo = wr := ⟨_, rfl⟩
            go_loopw [10] (fun j wr => ∃ (n : Nat), n ≤ (leftL (TT xs ys) ys.length).length ∧ j = .int .i64 n ∧ Below wo.heap.size wo wr) (fun j _ => (leftL (TT xs ys) ys.length).length - (intOf j).toNat)
            case atStart => exact ⟨0, Nat.zero_le _, rfl, Below.refl _ _⟩
            case round =>
              obtain ⟨n, hn, rfl, hbel3⟩ := hrel
              have hsz3 := hbel3.size
              by_cases hln : n < (leftL (TT xs ys) ys.length).length
              · obtain ⟨q, hqn⟩ := get_lt hln
                have hmem := (mem_leftL _ _ _).1 (List.mem_of_getElem? hqn)
                obtain ⟨⟨p, hp, rfl⟩, hpT⟩ := hmem
                obtain ⟨Y, hyp⟩ := get_lt hp
                have hnn : Y.nrm ≠ X.nrm := fun e => hpT (List.mem_of_mem_take (hneg.out p Y hyp e))
                have hbw : Below w2.heap.size w2 wr := hbel.trans (hbel3.mono hsz)
                obtain ⟨bl, offl, rfl, hbl, hcl⟩ := (hrl'.below hbw (Nat.le_refl _)).at_ hqn
                have c1 : wr.cell? ⟨bl, offl + n, none⟩ = some (.int .i64 p) := by simpa using hcl n _ hqn 0 _ rfl
                obtain ⟨bx, offx, rfl, hbx, hcx⟩ := (hx'.below hbw (Nat.le_refl _)).at_ HX.out
                obtain ⟨by_, offy, rfl, hby, hcy⟩ := (hy'.below hbw (Nat.le_refl _)).at_ hyp
                have hm0 : matchB Y.has X.has Y.key X.key = false := by
                  cases h : matchB Y.has X.has Y.key X.key
                  · rfl
                  · exact absurd ((mat_iff _ _ _ _).1 h) hnn
                obtain ⟨ax, xb, xk⟩ := X
                obtain ⟨ay, yb, yk⟩ := Y
                have c2 : wr.cell? ⟨bx, offx + k * 3 + 1, none⟩ = some (.bool xb) := hcx k _ HX.out 1 _ rfl
                have c3 : wr.cell? ⟨bx, offx + k * 3 + 2, none⟩ = some (.string xk) := hcx k _ HX.out 2 _ rfl
                have c4 : wr.cell? ⟨by_, offy + p * 3, none⟩ = some (.int .i64 ay) := hcy p _ hyp 0 _ rfl
                have c5 : wr.cell? ⟨by_, offy + p * 3 + 1, none⟩ = some (.bool yb) := hcy p _ hyp 1 _ rfl
                have c6 : wr.cell? ⟨by_, offy + p * 3 + 2, none⟩ = some (.string yk) := hcy p _ hyp 2 _ rfl
                have hbx' : bx < wr.heap.size := by omega
                have hbx2 : bx ≠ wr.heap.size := by omega
                clear hcl hcx hcy hyp hqn hnn hpT hx' hy' hra' hrl'
                have hss : yb = true → xb = true → (yk.toList == xk.toList) = false := by
                  rintro rfl rfl; simpa [matchB, beq_toListBytes] using hm0
                have hff : ¬ (yb = false ∧ xb = false) := by
                  rintro ⟨rfl, rfl⟩; simp [matchB] at hm0
                clear hm0
                cases yb <;> cases xb
                · exact absurd ⟨rfl, rfl⟩ hff
                all_goals
                  have hs' := hss
                  clear hss hff
                  try (have hs'' := hs' rfl rfl)
                  clear hs'
                  go_wp2_with fail
                  go_quiet (fail)
                  go_wp2_with fail
                  go_roundw
                  case rel => exact ⟨n + 1, by omega, by go_num, by ((repeat (first | exact Below.refl _ _ | assumption | refine Below.alloc ?_ (by first | omega | (simp; done) | (simp; omega)) _ | refine Below.setCell ?_ (by first | omega | (simp; done) | (simp; omega)) _ | refine Below.drew ?_ | refine below_drewN ?_ _)); done)⟩
                  case measure => simp [intOf]; omega
              · go_wp2_with fail
                go_roundw
                case rel => exact ⟨k + 1, by omega, by go_num, by rw [HT1.out], by
                  rw [take_snoc HK.out]
                  obtain ⟨cs, hg, hs, hc⟩ := hbits.below hbel3
                  refine ⟨cs, hg, hs, fun p hp => ?_⟩
                  rw [hc p hp]
                  have : (p : Int) ≠ -1 := by omega
                  simp [this], hbel.trans (hbel3.mono hsz)⟩
                case measure => simp [intOf]; omega
          · have HT1 : Hid (tookN (TT xs ys) (k + 1) = tookN (TT xs ys) k + 1) := by unfold Hid; rw [tookN_step HK.out]; simp
            have htook : tookN (TT xs ys) k ≤ 40 := by
              have h1 : tookN (TT xs ys) k ≤ ((TT xs ys).take k).length := List.countP_le_length
              rw [List.length_take] at h1
              omega
            have hj40 : j < 40 := by omega
            have hjm : j < ys.length := by omega
            have c7 := hbits.cell hj40
            have f7 := hbits.frozen j
            rw [decide_eq_false hno] at c7
            obtain ⟨bx, offx, rfl, hbx, hcx⟩ := (hx'.below hbel (Nat.le_refl _)).at_ HX.out
            obtain ⟨by_, offy, rfl, hby, hcy⟩ := (hy'.below hbel (Nat.le_refl _)).at_ hyj
            obtain ⟨ax, xb, xk⟩ := X
            obtain ⟨ay, yb, yk⟩ := Y
            have hm1 : matchB yb xb yk xk = true := (mat_iff _ _ _ _).2 hnrm
            have c2 : wr.cell? ⟨bx, offx + k * 3 + 1, none⟩ = some (.bool xb) := hcx k _ HX.out 1 _ rfl
            have c3 : wr.cell? ⟨bx, offx + k * 3 + 2, none⟩ = some (.string xk) := hcx k _ HX.out 2 _ rfl
            have c4 : wr.cell? ⟨by_, offy + j * 3, none⟩ = some (.int .i64 ay) := hcy j _ hyj 0 _ rfl
            have c5 : wr.cell? ⟨by_, offy + j * 3 + 1, none⟩ = some (.bool yb) := hcy j _ hyj 1 _ rfl
            have c6 : wr.cell? ⟨by_, offy + j * 3 + 2, none⟩ = some (.string yk) := hcy j _ hyj 2 _ rfl
            have hbx' : bx < wr.heap.size := by omega
            have hbx2 : bx ≠ wr.heap.size := by omega
            have hg2 : w2.heap.size < wr.heap.size := by obtain ⟨cs, hg, _⟩ := hbits; exact (Array.getElem?_eq_some_iff.1 hg).1
            have hg3 : w2.heap.size ≠ wr.heap.size := by omega
            have hb' : b < wr.heap.size := by omega
            have HNO := Lib.hid hno
            clear hcx hcy hyj hnrm hx' hy' hra' hrl' hno
            have hss : yb = true → (yk.toList == xk.toList) = true := by
              rintro rfl; simp [matchB, beq_toListBytes] at hm1; simpa using hm1.2
            have hff : yb = xb := by simp [matchB] at hm1; exact hm1.1
            clear hm1
            subst hff
            cases yb
            all_goals
              have hs' := hss
              clear hss
              try (have hs'' := hs' rfl)
              clear hs'
              go_wp2_with fail
              go_quiet (fail)
              go_wp2_with fail
              go_roundw
              case rel => exact ⟨k + 1, by omega, by go_num, by rw [HT1.out]; go_num, by rw [take_snoc HK.out]; exact Bits.store (hbits.below (by ((repeat (first | exact Below.refl _ _ | assumption | refine Below.alloc ?_ (by first | omega | (simp; done) | (simp; omega)) _ | refine Below.setCell ?_ (by first | omega | (simp; done) | (simp; omega)) _ | refine Below.drew ?_ | refine below_drewN ?_ _)); done))) hj40, by ((repeat (first | exact Below.refl _ _ | assumption | refine Below.alloc ?_ (by first | omega | (simp; done) | (simp; omega)) _ | refine Below.setCell ?_ (by first | omega | (simp; done) | (simp; omega)) _ | refine Below.drew ?_ | refine below_drewN ?_ _)); done)⟩
              case measure => simp [intOf]; omega
        · have hkl := HTL.out
          obtain rfl : k = (TT xs ys).length := by omega
          have htk := took_all xs ys
          rw [← HTL.out] at htk
          have hfin : ((tookN (TT xs ys) (TT xs ys).length : Int) + ((leftL (TT xs ys) ys.length).length : Int) == (ys.length : Int)) = true := by
            rw [beq_iff_eq]; omega
          have hHT := Lib.hid htk
          have htook : tookN (TT xs ys) (TT xs ys).length ≤ 40 := by omega
          clear htk hkl
          replace hw := hw.trans (hbel.mono hw.size)
          go_wp2_with fail
          refine (awake_any _).mono ?_
          rintro e w12 ⟨rfl, hb12⟩
          (replace hw := Below.trans hw (Below.mono hb12 (Below.size hw)))
          go_wp2_with fail
          go_ret
          exact ⟨rfl, hw⟩
    · have hd : (40 : Int) < ys.length := by omega
      go_enter Try.func5, Try.ntmps5
      go_wp2_with fail
      refine (awake_any _).mono ?_
      rintro e w12 ⟨rfl, hb12⟩
      go_wp2_with fail
      go_ret
      exact ⟨rfl, hb12⟩
  · have hd : (40 : Int) < xs.length := by omega
    go_enter Try.func5, Try.ntmps5
    go_wp2_with fail
    refine (awake_any _).mono ?_
    rintro e w12 ⟨rfl, hb12⟩
    go_wp2_with fail
    go_ret
    exact ⟨rfl, hb12⟩
end Go.Proofs.Ytddnphidmpidcaa
