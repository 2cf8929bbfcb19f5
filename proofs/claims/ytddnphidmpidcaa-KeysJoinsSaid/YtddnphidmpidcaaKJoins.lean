import Derived.Test.YtddnphidmpidcaaKJ1
namespace Go.Proofs.Ytddnphidmpidcaa
open Go Go.RowKit

theorem Rd.take {α : Type} {enc : α → List Value} {size B : Nat} {w : World} {A : Option Addr} {n cap : Nat} {xs : List α} (h : Rd enc size w B (.slice A n cap) xs) {k : Nat} (hk : k ≤ n) : Rd enc size w B (.slice A k cap) (xs.take k) := by
  obtain ⟨A', cap', h0, h1, h2, h3⟩ := h
  cases h0
  have hl : (xs.take k).length = k := by rw [List.length_take, Nat.min_eq_left hk]
  refine ⟨A, cap, by rw [hl], by rw [hl]; omega, h2, fun hne => ?_⟩
  obtain ⟨b, off, hA, hb, hc⟩ := h3 (fun e => hne (by rw [e]; simp))
  refine ⟨b, off, hA, hb, fun i x hx j u hu => ?_⟩
  rw [List.getElem?_take] at hx
  split at hx
  · exact hc i x hx j u hu
  · cases hx
theorem slice_to (A : Option Addr) (n k cap : Nat) (hk : k ≤ cap) (W : World) : Sem.run Try.prog (Instr.sliceAt 28 (.slice A n cap) none (some (.int .i64 (k : Int))) none) W = .ok (.slice A k cap) W := by
  obtain ⟨-, i0, z, hi, hz, hsize, -⟩ := T28
  rw [run_sliceAt_slice _ _ _ _ _ _ und28, run_slice_h _ _ _ _ _ und28 _ _ (by omega) (by omega), elem28]
  have hA : (if cap = 0 then A else A.map (fun a => a.add (0 * i0.size))) = A := by
    split
    · rfl
    · cases A <;> simp [Addr.add]
  simp [go_sem, sliced, sizeOf, typeInfo, hi, Result.andThen, Addr.add]
  try (cases A <;> simp)

set_option maxHeartbeats 4000000 in
set_option maxRecDepth 100000 in
theorem joins_walk {va vb vs : Value} {xs zs ys : List Ent} (w : World) (hx : Rd Ent.enc 3 w w.heap.size va xs) (hz : Rd Ent.enc 3 w w.heap.size vb zs) (hy : Rd Ent.enc 3 w w.heap.size vs ys) (hkx : ∀ x ∈ xs, x.key.size ≤ maxLen) (hkz : ∀ x ∈ zs, x.key.size ≤ maxLen) (hky : ∀ x ∈ ys, x.key.size ≤ maxLen) :
   Calls Try.prog 6 #[.agg #[va, vb], vs] w fun e w' => e = .returned (.bool true) ∧ Below w.heap.size w w' := by
  have hx' := hx
  have hz' := hz
  have hy' := hy
  have hx0 := hx
  have hz0 := hz
  have hy0 := hy
  obtain ⟨A, cap, rfl, h1, h2, -⟩ := hx
  obtain ⟨Az, capz, rfl, hz1, hz2, -⟩ := hz
  obtain ⟨A', cap', rfl, h1', h2', -⟩ := hy
  unfold maxLen at h2 h2' hz2
  by_cases hlx : xs.length ≤ 20
  · by_cases hlz : zs.length ≤ 20
    · by_cases hly : ys.length ≤ 20
      · have hw0 : Below w.heap.size w (w.alloc (.cells #[.slice A xs.length cap, .slice Az zs.length capz] 41)) := by ((repeat (first | exact Below.refl _ _ | assumption | refine Below.alloc ?_ (by first | omega | (simp; done) | (simp; omega)) _ | refine Below.setCell ?_ (by first | omega | (simp; done) | (simp; omega)) _ | refine Below.drew ?_ | refine below_drewN ?_ _)); done)
        have hw := hw0
        replace hx' := Rd.next hx' hw0
        replace hz' := Rd.next hz' hw0
        replace hy' := Rd.next hy' hw0
        have q0 : (w.alloc (.cells #[.slice A xs.length cap, .slice Az zs.length capz] 41)).cell? ⟨w.heap.size, 0, none⟩ = some (.slice A xs.length cap) := by rw [cell_of_row _ _ 0 _ _ _ (heap_alloc_new _ _)]; rfl
        have q1 : (w.alloc (.cells #[.slice A xs.length cap, .slice Az zs.length capz] 41)).cell? ⟨w.heap.size, 1, none⟩ = some (.slice Az zs.length capz) := by rw [cell_of_row _ _ 1 _ _ _ (heap_alloc_new _ _)]; rfl
        go_enter Try.func6, Try.ntmps6
        go_wp2_with (first | (at_builtin; refine wpList_append_rd _ (by rfl) _ _ _ (by rfl) Ent.enc Ent.enc_len Ent.enc_one T22 (w.heap.size + 1) _ [] xs (by rfl) (Own.nil _ _ _ _ _) _ (by rfl) hx' (by simp; omega) (by simp) ?_; intro v1 w1 hown1 hb1 hO1 hloc1; have d0 := Below.cell_some hb1 q0 (by simp); have d1 := Below.cell_some hb1 q1 (by simp); have hsz1 := hb1.size) | (at_builtin; refine wpList_append_rd _ (by rfl) _ _ _ (by rfl) Ent.enc Ent.enc_len Ent.enc_one T22 (w.heap.size + 1) _ xs zs (by rfl) hown1 _ (by rfl) (hz'.below hb1 (by simp)) (by omega) (by simp at hsz1; omega) ?_; intro v2 w2 hown2 hb2 hO2 hloc2; have d0 := Below.cell_some hb2 d0 (by simp); have d1 := Below.cell_some hb2 d1 (by simp)))
        have hbw2 : Below w.heap.size w w2 := hw.trans ((hb1.mono (by omega)).trans (hb2.mono (by omega)))
        have hlt0 : w.heap.size < w2.heap.size := by have := hb2.size; simp at hsz1; omega
        have hboth := hown2.rd Ent.enc_len (by simp [maxLen]; omega)
        have hkb : ∀ x ∈ xs ++ zs, x.key.size ≤ maxLen := by
          intro x hx0
          rcases List.mem_append.1 hx0 with h | h
          · exact hkx x h
          · exact hkz x h
        clear hw hw0 hx' hz' hy' hb1 hb2 hO1 hO2 hloc1 hloc2 hown1 q0 q1
        have hw := hbw2
        have hx' := (hx0.below hw (Nat.le_refl _)).more hw.size
        have hz' := (hz0.below hw (Nat.le_refl _)).more hw.size
        have hy' := (hy0.below hw (Nat.le_refl _)).more hw.size
        obtain ⟨Ab, capb, rfl⟩ := hown2.len_val
        clear hbw2 hown2 hsz1
        refine (align_any _ hboth hy' (Nat.le_refl _) (by simp; omega) (by omega) hkb hky).mono ?_
        rintro e w3 ⟨v3, rfl, hr3, hb3⟩
        (replace d0 := Below.cell_some hb3 d0 hlt0; replace d1 := Below.cell_some hb3 d1 hlt0; replace hlt0 := Nat.lt_of_lt_of_le hlt0 (Below.size hb3))
        (replace hw := Below.trans hw (Below.mono hb3 (Below.size hw)); replace hx' := Rd.next hx' hb3; replace hz' := Rd.next hz' hb3; replace hy' := Rd.next hy' hb3)
        change Rd encI 1 w3 w3.heap.size v3 (TT (xs ++ zs) ys) at hr3
        go_wp2_with fail
        refine (align_any _ hx' hy' (Nat.le_refl _) (by omega) (by omega) hkx hky).mono ?_
        rintro e w4 ⟨v4, rfl, hr4, hb4⟩
        (replace d0 := Below.cell_some hb4 d0 hlt0; replace d1 := Below.cell_some hb4 d1 hlt0; replace hlt0 := Nat.lt_of_lt_of_le hlt0 (Below.size hb4))
        (replace hw := Below.trans hw (Below.mono hb4 (Below.size hw)); replace hx' := Rd.next hx' hb4; replace hz' := Rd.next hz' hb4; replace hy' := Rd.next hy' hb4; replace hr3 := Rd.next hr3 hb4)
        change Rd encI 1 w4 w4.heap.size v4 (TT xs ys) at hr4
        go_wp2_with fail
        refine (left_any _ hx' hy' (Nat.le_refl _) (by omega) (by omega) hkx hky).mono ?_
        rintro e w5 ⟨v5, rfl, hr5, hb5⟩
        (replace d0 := Below.cell_some hb5 d0 hlt0; replace d1 := Below.cell_some hb5 d1 hlt0; replace hlt0 := Nat.lt_of_lt_of_le hlt0 (Below.size hb5))
        (replace hw := Below.trans hw (Below.mono hb5 (Below.size hw)); replace hx' := Rd.next hx' hb5; replace hz' := Rd.next hz' hb5; replace hy' := Rd.next hy' hb5; replace hr3 := Rd.next hr3 hb5; replace hr4 := Rd.next hr4 hb5)
        change Rd encI 1 w5 w5.heap.size v5 (leftL (TT xs ys) ys.length) at hr5
        have hl3 : Hid ((TT (xs ++ zs) ys).length = xs.length + zs.length) := by unfold Hid; rw [TT_len]; simp
        have hl4 : Hid ((TT xs ys).length = xs.length) := TT_len _ _
        have hl5 := leftL_len (TT xs ys) ys.length
        have hr3' := hr3
        have hr4' := hr4
        have hr5' := hr5
        obtain ⟨A3, cap3, rfl, h31, h32, -⟩ := hr3
        obtain ⟨A4, cap4, rfl, h41, h42, -⟩ := hr4
        obtain ⟨A5, cap5, rfl, h51, h52, -⟩ := hr5
        unfold maxLen at h32 h42 h52
        have hne1 : (((TT (xs ++ zs) ys).length : Int) != (xs.length : Int) + (zs.length : Int)) = false := by rw [hl3.out]; simp
        have hne2 : (((TT xs ys).length : Int) != (xs.length : Int)) = false := by rw [hl4.out]; simp
        go_wp2_with fail
        go_loopw [9, 10] (fun rs i wr => ∃ (k : Nat), k ≤ (leftL (TT xs ys) ys.length).length ∧ i = .int .i64 k ∧ Own Ent.enc 3 27 wr w5.heap.size rs (restL ys ((leftL (TT xs ys) ys.length).take k)) ∧ Below w5.heap.size w5 wr) (fun _ i _ => (leftL (TT xs ys) ys.length).length - (intOf i).toNat)
        case atStart => exact ⟨0, Nat.zero_le _, rfl, Own.nil _ _ _ _ _, Below.refl _ _⟩
        case round =>
          obtain ⟨k, hk, rfl, hown, hbel⟩ := hrel
          have hsz := hbel.size
          by_cases hlt : k < (leftL (TT xs ys) ys.length).length
          · obtain ⟨q, hqk⟩ := get_lt hlt
            obtain ⟨⟨p, hp, rfl⟩, _⟩ := (mem_leftL _ _ _).1 (List.mem_of_getElem? hqk)
            obtain ⟨Y, hyp⟩ := get_lt hp
            have hown5 : Own Ent.enc 3 27 wr w5.heap.size u9 (restL ys ((leftL (TT xs ys) ys.length).take k)) := hown
            have hrl : (restL ys ((leftL (TT xs ys) ys.length).take k)).length ≤ 20 := by rw [restL_len]; simp; omega
            have hnext : restL ys ((leftL (TT xs ys) ys.length).take (k + 1)) = restL ys ((leftL (TT xs ys) ys.length).take k) ++ [Y] := by
              rw [take_snoc hqk]
              unfold restL
              rw [List.map_append]
              simp [List.getD_eq_getElem?_getD, hyp]
            have HN := Lib.hid hnext
            obtain ⟨bl, offl, rfl, hbl, hcl⟩ := (hr5'.below hbel (Nat.le_refl _)).at_ hqk
            have c1 : wr.cell? ⟨bl, offl + k, none⟩ = some (.int .i64 p) := by simpa using hcl k _ hqk 0 _ rfl
            obtain ⟨by_, offy, rfl, hby, hcy⟩ := (hy'.below hbel (Nat.le_refl _)).at_ hyp
            have c4 : wr.cell? ⟨by_, offy + p * 3, none⟩ = some (.int .i64 Y.at_) := hcy p _ hyp 0 _ rfl
            have c5 : wr.cell? ⟨by_, offy + p * 3 + 1, none⟩ = some (.bool Y.has) := hcy p _ hyp 1 _ rfl
            have c6 : wr.cell? ⟨by_, offy + p * 3 + 2, none⟩ = some (.string Y.key) := hcy p _ hyp 2 _ rfl
            clear hcl hcy hqk hyp hnext
            go_wp2_with (at_builtin; refine wpList_append_one _ (by rfl) _ _ _ (by rfl) Ent.enc Ent.enc_len Ent.enc_one T22 w5.heap.size _ _ (by rfl) (hown.below (by ((repeat (first | exact Below.refl _ _ | assumption | refine Below.alloc ?_ (by first | omega | (simp; done) | (simp; omega)) _ | refine Below.setCell ?_ (by first | omega | (simp; done) | (simp; omega)) _ | refine Below.drew ?_ | refine below_drewN ?_ _)); done))) Y _ #[.int .i64 Y.at_, .bool Y.has, .string Y.key] (by rfl) (by rfl) (heap_alloc_new _ _) (by omega) (by simp; omega) ?_; intro v6 w6 hown6 hb6 hO6 hloc6)
            have hb6' : Below w5.heap.size wr w6 := Below.trans (by ((repeat (first | exact Below.refl _ _ | assumption | refine Below.alloc ?_ (by first | omega | (simp; done) | (simp; omega)) _ | refine Below.setCell ?_ (by first | omega | (simp; done) | (simp; omega)) _ | refine Below.drew ?_ | refine below_drewN ?_ _)); done)) hb6
            go_roundw
            case rel => exact ⟨k + 1, by omega, by go_num, by rw [HN.out]; exact hown6, hbel.trans hb6'⟩
            case measure => simp [intOf]; omega
          · rw [take_len_le (by omega)] at hown
            have hrest := hown.rd Ent.enc_len (by rw [restL_len]; simp [maxLen]; omega)
            have hkr : ∀ x ∈ restL ys (leftL (TT xs ys) ys.length), x.key.size ≤ maxLen := by
              intro x hx1
              obtain ⟨p, hp, rfl⟩ := List.mem_map.1 hx1
              obtain ⟨⟨i, hi, rfl⟩, _⟩ := (mem_leftL _ _ _).1 hp
              obtain ⟨y, hy1⟩ := get_lt hi
              rw [show (i : Int).toNat = i from by omega, getD_of _ hy1]
              exact hky y (List.mem_of_getElem? hy1)
            have hrl : (restL ys (leftL (TT xs ys) ys.length)).length ≤ 20 := by rw [restL_len]; omega
            (replace d0 := Below.cell_some hbel d0 hlt0; replace d1 := Below.cell_some hbel d1 hlt0; replace hlt0 := Nat.lt_of_lt_of_le hlt0 (Below.size hbel))
            (replace hw := Below.trans hw (Below.mono hbel (Below.size hw)); replace hz' := Rd.next hz' hbel; replace hr3' := Rd.next hr3' hbel; replace hr4' := Rd.next hr4' hbel; replace hr5' := Rd.next hr5' hbel)
            go_wp2_with fail
            refine (align_any _ hz' hrest (Nat.le_refl _) (by omega) (by omega) hkz hkr).mono ?_
            rintro e w6 ⟨v6, rfl, hr6, hb6⟩
            (replace d0 := Below.cell_some hb6 d0 hlt0; replace d1 := Below.cell_some hb6 d1 hlt0; replace hlt0 := Nat.lt_of_lt_of_le hlt0 (Below.size hb6))
            (replace hw := Below.trans hw (Below.mono hb6 (Below.size hw)); replace hr3' := Rd.next hr3' hb6; replace hr4' := Rd.next hr4' hb6; replace hr5' := Rd.next hr5' hb6)
            change Rd encI 1 w6 w6.heap.size v6 (TT zs (restL ys (leftL (TT xs ys) ys.length))) at hr6
            have hl6 : Hid ((TT zs (restL ys (leftL (TT xs ys) ys.length))).length = zs.length) := TT_len _ _
            have hr6' := hr6
            obtain ⟨A6, cap6, rfl, h61, h62, -⟩ := hr6
            unfold maxLen at h62
            have hne3 : (((TT zs (restL ys (leftL (TT xs ys) ys.length))).length : Int) != (zs.length : Int)) = false := by rw [hl6.out]; simp
            have hjoin := Lib.hid (TT_join xs zs ys)
            have hle : (TT xs ys).length ≤ (TT (xs ++ zs) ys).length := by rw [hl3.out, hl4.out]; omega
            have hsl3 := slice_to A3 (TT (xs ++ zs) ys).length (TT xs ys).length cap3 (by omega)
            have htake : TT xs ys = (TT (xs ++ zs) ys).take (TT xs ys).length := by rw [hjoin.out, List.take_left]
            have HTK := Lib.hid htake
            clear htake hown hlt
            go_wp2_with fail
            refine (ints_any _ hr4' (hr3'.take hle) (Nat.le_refl _) (Nat.le_refl _)).mono ?_
            rw [decide_eq_true HTK.out]
            rintro e w7 ⟨rfl, hb7⟩
            (replace d0 := Below.cell_some hb7 d0 hlt0; replace d1 := Below.cell_some hb7 d1 hlt0; replace hlt0 := Nat.lt_of_lt_of_le hlt0 (Below.size hb7))
            (replace hw := Below.trans hw (Below.mono hb7 (Below.size hw)); replace hr3' := Rd.next hr3' hb7; replace hr5' := Rd.next hr5' hb7; replace hr6' := Rd.next hr6' hb7)
            have hl3b : (TT (xs ++ zs) ys).length = (TT xs ys).length + (TT zs (restL ys (leftL (TT xs ys) ys.length))).length := by rw [hl3.out, hl4.out, hl6.out]
            have HL3 := Lib.hid hl3b
            have hlr : (restL ys (leftL (TT xs ys) ys.length)).length = (leftL (TT xs ys) ys.length).length := restL_len _ _
            have HLR := Lib.hid hlr
            clear hl3b hlr hr4' hrest hz' hy' hx' hbel
            go_wp2_with fail
            go_loopw [12] (fun i wr => ∃ (k : Nat), k ≤ (TT zs (restL ys (leftL (TT xs ys) ys.length))).length ∧ i = .int .i64 k ∧ wr = w7) (fun i _ => (TT zs (restL ys (leftL (TT xs ys) ys.length))).length - (intOf i).toNat)
            case atStart => exact ⟨0, Nat.zero_le _, rfl, rfl⟩
            case round =>
              obtain ⟨k, hk, rfl, rfl⟩ := hrel
              by_cases hlt : k < (TT zs (restL ys (leftL (TT xs ys) ys.length))).length
              · obtain ⟨q, hqk⟩ := get_lt hlt
                obtain ⟨Z, hzk⟩ := get_lt (show k < zs.length by rw [← hl6.out]; exact hlt)
                have hor := TT_or hzk hqk
                have hall : (TT (xs ++ zs) ys)[(TT xs ys).length + k]? = some (wantJ (leftL (TT xs ys) ys.length) q) := by
                  rw [hjoin.out, List.getElem?_append_right (by omega), Nat.add_sub_cancel_left, List.getElem?_map, hqk]; rfl
                have hlt3 : (TT xs ys).length + k < (TT (xs ++ zs) ys).length := (List.getElem?_eq_some_iff.1 hall).1
                obtain ⟨b3, off3, rfl, hb3, hc3⟩ := hr3'.at_ hall
                have c3 : wr.cell? ⟨b3, off3 + ((TT xs ys).length + k), none⟩ = some (.int .i64 (wantJ (leftL (TT xs ys) ys.length) q)) := by simpa using hc3 _ _ hall 0 _ rfl
                obtain ⟨b6, off6, rfl, hb6, hc6⟩ := hr6'.at_ hqk
                have c6 : wr.cell? ⟨b6, off6 + k, none⟩ = some (.int .i64 q) := by simpa using hc6 _ _ hqk 0 _ rfl
                clear hc3 hc6 hall hqk hzk hr3' hr6'
                rcases hor with rfl | ⟨hq0, hqm, _, j, Y, hyj, _, rfl⟩
                · rw [show wantJ (leftL (TT xs ys) ys.length) (-1) = -1 from rfl] at c3
                  go_wp2_with fail
                  go_roundw
                  case rel => exact ⟨k + 1, by omega, by go_num, trivial⟩
                  case measure => simp [intOf]; omega
                · have hjl : j < (leftL (TT xs ys) ys.length).length := by rw [← HLR.out]; omega
                  obtain ⟨p, hpj⟩ := get_lt hjl
                  have hw3 : wantJ (leftL (TT xs ys) ys.length) (j : Int) = p := by
                    unfold wantJ
                    rw [if_pos hq0, show (j : Int).toNat = j from by omega, getD_of _ hpj]
                  rw [hw3] at c3
                  obtain ⟨b5, off5, rfl, hb5, hc5⟩ := hr5'.at_ hpj
                  have c5 : wr.cell? ⟨b5, off5 + j, none⟩ = some (.int .i64 p) := by simpa using hc5 _ _ hpj 0 _ rfl
                  clear hc5 hpj hw3 hr5' hyj
                  go_wp2_with fail
                  go_roundw
                  case rel => exact ⟨k + 1, by omega, by go_num, trivial⟩
                  case measure => simp [intOf]; omega
              · go_wp2_with fail
                refine (awake_any _).mono ?_
                rintro e w12 ⟨rfl, hb12⟩
                (replace hw := Below.trans hw (Below.mono hb12 (Below.size hw)))
                go_wp2_with fail
                go_ret
                exact ⟨rfl, hw⟩
      · have hd : (20 : Int) < ys.length := by omega
        go_enter Try.func6, Try.ntmps6
        go_wp2_with fail
        refine (awake_any _).mono ?_
        rintro e w12 ⟨rfl, hb12⟩
        go_wp2_with fail
        go_ret
        exact ⟨rfl, Below.trans (by ((repeat (first | exact Below.refl _ _ | assumption | refine Below.alloc ?_ (by first | omega | (simp; done) | (simp; omega)) _ | refine Below.setCell ?_ (by first | omega | (simp; done) | (simp; omega)) _ | refine Below.drew ?_ | refine below_drewN ?_ _)); done)) (hb12.mono (by simp))⟩
    · have hd : (20 : Int) < zs.length := by omega
      go_enter Try.func6, Try.ntmps6
      go_wp2_with fail
      refine (awake_any _).mono ?_
      rintro e w12 ⟨rfl, hb12⟩
      go_wp2_with fail
      go_ret
      exact ⟨rfl, Below.trans (by ((repeat (first | exact Below.refl _ _ | assumption | refine Below.alloc ?_ (by first | omega | (simp; done) | (simp; omega)) _ | refine Below.setCell ?_ (by first | omega | (simp; done) | (simp; omega)) _ | refine Below.drew ?_ | refine below_drewN ?_ _)); done)) (hb12.mono (by simp))⟩
  · have hd : (20 : Int) < xs.length := by omega
    go_enter Try.func6, Try.ntmps6
    go_wp2_with fail
    refine (awake_any _).mono ?_
    rintro e w12 ⟨rfl, hb12⟩
    go_wp2_with fail
    go_ret
    exact ⟨rfl, Below.trans (by ((repeat (first | exact Below.refl _ _ | assumption | refine Below.alloc ?_ (by first | omega | (simp; done) | (simp; omega)) _ | refine Below.setCell ?_ (by first | omega | (simp; done) | (simp; omega)) _ | refine Below.drew ?_ | refine below_drewN ?_ _)); done)) (hb12.mono (by simp))⟩
end Go.Proofs.Ytddnphidmpidcaa
