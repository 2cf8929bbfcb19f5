import Derived.Test.YtddnphidmpidcaaKT1
namespace Go.Proofs.Ytddnphidmpidcaa
open Go Go.RowKit

set_option maxHeartbeats 4000000 in
set_option maxRecDepth 100000 in
theorem turns_walk {va vs : Value} {xs ys : List Ent} {t0 t1 : Int} (w : World) (hx : Rd Ent.enc 3 w w.heap.size va xs) (hy : Rd Ent.enc 3 w w.heap.size vs ys) (hkx : ∀ x ∈ xs, x.key.size ≤ maxLen) (hky : ∀ x ∈ ys, x.key.size ≤ maxLen) :
   Calls Try.prog 3 #[va, vs, .agg #[.int .i64 t0, .int .i64 t1]] w fun e w' => e = .returned (.bool true) ∧ Below w.heap.size w w' := by
  have hx' := hx
  have hy' := hy
  have hx0 := hx
  have hy0 := hy
  obtain ⟨A, cap, rfl, h1, h2, -⟩ := hx
  obtain ⟨A', cap', rfl, h1', h2', -⟩ := hy
  unfold maxLen at h2 h2'
  by_cases hx1 : 1 ≤ xs.length
  · by_cases hy1 : 1 ≤ ys.length
    · by_cases hlx : xs.length ≤ 40
      · by_cases hly : ys.length ≤ 40
        · have hwA : Below w.heap.size w (w.alloc (.cells #[.int .i64 t0, .int .i64 t1] 23)) := by ((repeat (first | exact Below.refl _ _ | assumption | refine Below.alloc ?_ (by first | omega | (simp; done) | (simp; omega)) _ | refine Below.setCell ?_ (by first | omega | (simp; done) | (simp; omega)) _ | refine Below.drew ?_ | refine below_drewN ?_ _)); done)
          have hw := hwA
          replace hx' := Rd.next hx' hwA
          replace hy' := Rd.next hy' hwA
          have d0 : (w.alloc (.cells #[.int .i64 t0, .int .i64 t1] 23)).cell? ⟨w.heap.size, 0, none⟩ = some (.int .i64 t0) := by rw [cell_of_row _ _ 0 _ _ _ (heap_alloc_new _ _)]; rfl
          have d1 : (w.alloc (.cells #[.int .i64 t0, .int .i64 t1] 23)).cell? ⟨w.heap.size, 1, none⟩ = some (.int .i64 t1) := by rw [cell_of_row _ _ 1 _ _ _ (heap_alloc_new _ _)]; rfl
          have hlt0 : w.heap.size < (w.alloc (.cells #[.int .i64 t0, .int .i64 t1] 23)).heap.size := by simp
          have e0 : (((xs.length : Nat) : Int) == 0) = false := by simp; intro e; simp [e] at hx1
          have e1 : (((ys.length : Nat) : Int) == 0) = false := by simp; intro e; simp [e] at hy1
          go_enter Try.func3, Try.ntmps3
          go_wp2_with fail
          refine (apart_any _ hx' (Nat.le_refl _)).mono ?_
          rintro e w1 ⟨rfl, hb1⟩
          (replace d0 := Below.cell_some hb1 d0 hlt0; replace d1 := Below.cell_some hb1 d1 hlt0; replace hlt0 := Nat.lt_of_lt_of_le hlt0 (Below.size hb1))
          (replace hw := Below.trans hw (Below.mono hb1 (Below.size hw)); replace hx' := Rd.next hx' hb1; replace hy' := Rd.next hy' hb1)
          cases hpx : pairB Ent.mat xs
          · go_wp2_with fail
            refine (awake_any _).mono ?_
            rintro e w12 ⟨rfl, hb12⟩
            go_wp2_with fail
            go_ret
            exact ⟨rfl, hw.trans (hb12.mono hw.size)⟩
          · have hdx := Lib.hid (dist_of_pair (pairB_true.1 hpx))
            clear hpx
            go_wp2_with fail
            refine (apart_any _ hy' (Nat.le_refl _)).mono ?_
            rintro e w2 ⟨rfl, hb2⟩
            (replace d0 := Below.cell_some hb2 d0 hlt0; replace d1 := Below.cell_some hb2 d1 hlt0; replace hlt0 := Nat.lt_of_lt_of_le hlt0 (Below.size hb2))
            (replace hw := Below.trans hw (Below.mono hb2 (Below.size hw)); replace hx' := Rd.next hx' hb2; replace hy' := Rd.next hy' hb2)
            cases hpy : pairB Ent.mat ys
            · go_wp2_with fail
              refine (awake_any _).mono ?_
              rintro e w12 ⟨rfl, hb12⟩
              go_wp2_with fail
              go_ret
              exact ⟨rfl, hw.trans (hb12.mono hw.size)⟩
            · have hdy := Lib.hid (dist_of_pair (pairB_true.1 hpy))
              clear hpy
              have r0 : -40 ≤ t0.tmod (xs.length : Int) ∧ t0.tmod (xs.length : Int) ≤ 40 ∧ 0 ≤ t0.tmod (xs.length : Int) + (xs.length : Int) := by
                have := Int.lt_tmod_of_pos t0 (show (0 : Int) < (xs.length : Int) by omega)
                have := Int.tmod_lt_of_pos t0 (show (0 : Int) < (xs.length : Int) by omega)
                omega
              have r1 : -40 ≤ t1.tmod (ys.length : Int) ∧ t1.tmod (ys.length : Int) ≤ 40 ∧ 0 ≤ t1.tmod (ys.length : Int) + (ys.length : Int) := by
                have := Int.lt_tmod_of_pos t1 (show (0 : Int) < (ys.length : Int) by omega)
                have := Int.tmod_lt_of_pos t1 (show (0 : Int) < (ys.length : Int) by omega)
                omega
              obtain ⟨r01, r02, r03⟩ := r0
              obtain ⟨r11, r12, r13⟩ := r1
              have hxs := hx'
              have hys := hy'
              have hdxs := hdx
              have hdys := hdy
              clear hdx hdy
              obtain ⟨ai, hai⟩ : ∃ ai, ai = (t0.tmod (xs.length : Int) + (xs.length : Int)) % (xs.length : Int) := ⟨_, rfl⟩
              obtain ⟨bi, hbi⟩ : ∃ bi, bi = (t1.tmod (ys.length : Int) + (ys.length : Int)) % (ys.length : Int) := ⟨_, rfl⟩
              have ha0 : 0 ≤ ai := by rw [hai]; exact Int.emod_nonneg _ (by omega)
              have ha1 : ai < (xs.length : Int) := by rw [hai]; exact Int.emod_lt_of_pos _ (by omega)
              have hb0 : 0 ≤ bi := by rw [hbi]; exact Int.emod_nonneg _ (by omega)
              have hb1' : bi < (ys.length : Int) := by rw [hbi]; exact Int.emod_lt_of_pos _ (by omega)
              have HA := Lib.hid hai
              have HB := Lib.hid hbi
              clear hai hbi
              go_wp2_with fail
              rw [← HA.out, ← HB.out]
              clear HA HB r01 r02 r03 r11 r12 r13 d0 d1
              obtain ⟨a, rfl⟩ : ∃ a : Nat, ai = (a : Int) := ⟨ai.toNat, by omega⟩
              obtain ⟨b, rfl⟩ : ∃ b : Nat, bi = (b : Int) := ⟨bi.toNat, by omega⟩
              have ha : a < xs.length := by omega
              have hb : b < ys.length := by omega
              go_loopw [11, 13] (fun rs i wr => ∃ (k : Nat), k ≤ xs.length ∧ i = .int .i64 k ∧ Own Ent.enc 3 27 wr w2.heap.size rs ((rotL xs a).take k) ∧ Below w2.heap.size w2 wr) (fun _ i _ => xs.length - (intOf i).toNat)
              case atStart => exact ⟨0, Nat.zero_le _, rfl, by rw [List.take_zero]; exact Own.nil _ _ _ _ _, Below.refl _ _⟩
              case round =>
                obtain ⟨k, hk, rfl, hown, hbel⟩ := hrel
                have hsz := hbel.size
                have hrl : ((rotL xs a).take k).length = k := by rw [List.length_take, rotL_len]; omega
                by_cases hlt : k < xs.length
                · have hq : (a + k) % xs.length < xs.length := Nat.mod_lt _ (by omega)
                  obtain ⟨X, hX⟩ := get_lt hq
                  have hnext := take_snoc (rotL_mk hlt hX)
                  obtain ⟨bl, offl, rfl, hbl, hcl⟩ := (hx'.below hbel (Nat.le_refl _)).at_ hX
                  have HN := Lib.hid hnext
                  have c4 : wr.cell? ⟨bl, offl + (a + k) % xs.length * 3, none⟩ = some (.int .i64 X.at_) := hcl _ _ hX 0 _ rfl
                  have c5 : wr.cell? ⟨bl, offl + (a + k) % xs.length * 3 + 1, none⟩ = some (.bool X.has) := hcl _ _ hX 1 _ rfl
                  have c6 : wr.cell? ⟨bl, offl + (a + k) % xs.length * 3 + 2, none⟩ = some (.string X.key) := hcl _ _ hX 2 _ rfl
                  clear hcl hX hnext
                  have z0 : 0 ≤ ((a : Int) + (k : Int)) % (xs.length : Int) := Int.emod_nonneg _ (by omega)
                  have z1 : ((a : Int) + (k : Int)) % (xs.length : Int) < (xs.length : Int) := Int.emod_lt_of_pos _ (by omega)
                  have z2 : (((a : Int) + (k : Int)) % (xs.length : Int)).toNat = (a + k) % xs.length := by rw [← Int.natCast_add, ← Int.natCast_emod, Int.toNat_natCast]
                  go_wp2_with (at_builtin; refine wpList_append_one _ (by rfl) _ _ _ (by rfl) Ent.enc Ent.enc_len Ent.enc_one T22 w2.heap.size _ _ (by rfl) (hown.below (by ((repeat (first | exact Below.refl _ _ | assumption | refine Below.alloc ?_ (by first | omega | (simp; done) | (simp; omega)) _ | refine Below.setCell ?_ (by first | omega | (simp; done) | (simp; omega)) _ | refine Below.drew ?_ | refine below_drewN ?_ _)); done))) X _ #[.int .i64 X.at_, .bool X.has, .string X.key] (by rfl) (by rfl) (heap_alloc_new _ _) (by omega) (by simp; omega) ?_; intro v6 w6 hown6 hb6 hO6 hloc6)
                  have hb6' : Below w2.heap.size wr w6 := Below.trans (by ((repeat (first | exact Below.refl _ _ | assumption | refine Below.alloc ?_ (by first | omega | (simp; done) | (simp; omega)) _ | refine Below.setCell ?_ (by first | omega | (simp; done) | (simp; omega)) _ | refine Below.drew ?_ | refine below_drewN ?_ _)); done)) hb6
                  go_roundw
                  case rel => exact ⟨k + 1, by omega, by go_num, by rw [HN.out]; exact hown6, hbel.trans hb6'⟩
                  case measure => simp [intOf]; omega
                · obtain rfl : k = xs.length := by omega
                  rw [take_len_le (by rw [rotL_len]; omega)] at hown
                  have hrotx := hown.rd Ent.enc_len (by rw [rotL_len]; simp [maxLen]; omega)
                  replace hw := hw.trans (hbel.mono hw.size)
                  replace hx' := Rd.next hx' hbel
                  replace hy' := Rd.next hy' hbel
                  go_wp2_with fail
                  obtain ⟨wo, hwo⟩ : ∃ wo : World, wo = wr := ⟨_, rfl⟩
                  rw [← hwo] at hrotx hw hx' hy' ⊢
                  clear hbel hsz hwo hown hrl hk hlt
                  go_loopw [12, 14] (fun rs i wr => ∃ (k : Nat), k ≤ ys.length ∧ i = .int .i64 k ∧ Own Ent.enc 3 27 wr wo.heap.size rs ((rotL ys b).take k) ∧ Below wo.heap.size wo wr) (fun _ i _ => ys.length - (intOf i).toNat)
                  case atStart => exact ⟨0, Nat.zero_le _, rfl, by rw [List.take_zero]; exact Own.nil _ _ _ _ _, Below.refl _ _⟩
                  case round =>
                    obtain ⟨k, hk, rfl, hown, hbel⟩ := hrel
                    have hsz := hbel.size
                    have hrl : ((rotL ys b).take k).length = k := by rw [List.length_take, rotL_len]; omega
                    by_cases hlt : k < ys.length
                    · have hq : (b + k) % ys.length < ys.length := Nat.mod_lt _ (by omega)
                      obtain ⟨Y, hY⟩ := get_lt hq
                      have hnext := take_snoc (rotL_mk hlt hY)
                      obtain ⟨bl, offl, rfl, hbl, hcl⟩ := (hy'.below hbel (Nat.le_refl _)).at_ hY
                      have HN := Lib.hid hnext
                      have c4 : wr.cell? ⟨bl, offl + (b + k) % ys.length * 3, none⟩ = some (.int .i64 Y.at_) := hcl _ _ hY 0 _ rfl
                      have c5 : wr.cell? ⟨bl, offl + (b + k) % ys.length * 3 + 1, none⟩ = some (.bool Y.has) := hcl _ _ hY 1 _ rfl
                      have c6 : wr.cell? ⟨bl, offl + (b + k) % ys.length * 3 + 2, none⟩ = some (.string Y.key) := hcl _ _ hY 2 _ rfl
                      clear hcl hY hnext
                      have z0 : 0 ≤ ((b : Int) + (k : Int)) % (ys.length : Int) := Int.emod_nonneg _ (by omega)
                      have z1 : ((b : Int) + (k : Int)) % (ys.length : Int) < (ys.length : Int) := Int.emod_lt_of_pos _ (by omega)
                      have z2 : (((b : Int) + (k : Int)) % (ys.length : Int)).toNat = (b + k) % ys.length := by rw [← Int.natCast_add, ← Int.natCast_emod, Int.toNat_natCast]
                      go_wp2_with (at_builtin; refine wpList_append_one _ (by rfl) _ _ _ (by rfl) Ent.enc Ent.enc_len Ent.enc_one T22 wo.heap.size _ _ (by rfl) (hown.below (by ((repeat (first | exact Below.refl _ _ | assumption | refine Below.alloc ?_ (by first | omega | (simp; done) | (simp; omega)) _ | refine Below.setCell ?_ (by first | omega | (simp; done) | (simp; omega)) _ | refine Below.drew ?_ | refine below_drewN ?_ _)); done))) Y _ #[.int .i64 Y.at_, .bool Y.has, .string Y.key] (by rfl) (by rfl) (heap_alloc_new _ _) (by omega) (by simp; omega) ?_; intro v6 w6 hown6 hb6 hO6 hloc6)
                      have hb6' : Below wo.heap.size wr w6 := Below.trans (by ((repeat (first | exact Below.refl _ _ | assumption | refine Below.alloc ?_ (by first | omega | (simp; done) | (simp; omega)) _ | refine Below.setCell ?_ (by first | omega | (simp; done) | (simp; omega)) _ | refine Below.drew ?_ | refine below_drewN ?_ _)); done)) hb6
                      go_roundw
                      case rel => exact ⟨k + 1, by omega, by go_num, by rw [HN.out]; exact hown6, hbel.trans hb6'⟩
                      case measure => simp [intOf]; omega
                    · obtain rfl : k = ys.length := by omega
                      rw [take_len_le (by rw [rotL_len]; omega)] at hown
                      have hroty := hown.rd Ent.enc_len (by rw [rotL_len]; simp [maxLen]; omega)
                      replace hw := hw.trans (hbel.mono hw.size)
                      replace hrotx := Rd.next hrotx hbel
                      replace hx' := Rd.next hx' hbel
                      replace hy' := Rd.next hy' hbel
                      clear hbel hsz hown hrl hk hlt
                      have hkrx : ∀ x ∈ rotL xs a, x.key.size ≤ maxLen := by
                        intro x hx1
                        obtain ⟨i, hi⟩ := List.mem_iff_getElem?.1 hx1
                        exact hkx x (List.mem_of_getElem? (rotL_get hi).2)
                      have hkry : ∀ x ∈ rotL ys b, x.key.size ≤ maxLen := by
                        intro x hx1
                        obtain ⟨i, hi⟩ := List.mem_iff_getElem?.1 hx1
                        exact hky x (List.mem_of_getElem? (rotL_get hi).2)
                      go_wp2_with fail
                      refine (align_any _ hx' hy' (Nat.le_refl _) (by omega) (by omega) hkx hky).mono ?_
                      rintro e w4 ⟨v4, rfl, hr4, hb4⟩
                      (replace hw := Below.trans hw (Below.mono hb4 (Below.size hw)); replace hx' := Rd.next hx' hb4; replace hy' := Rd.next hy' hb4; replace hrotx := Rd.next hrotx hb4; replace hroty := Rd.next hroty hb4)
                      change Rd encI 1 w4 w4.heap.size v4 (TT xs ys) at hr4
                      go_wp2_with fail
                      refine (align_any _ hrotx hroty (Nat.le_refl _) (by rw [rotL_len]; omega) (by rw [rotL_len]; omega) hkrx hkry).mono ?_
                      rintro e w5 ⟨v5, rfl, hr5, hb5⟩
                      (replace hw := Below.trans hw (Below.mono hb5 (Below.size hw)); replace hr4 := Rd.next hr4 hb5)
                      change Rd encI 1 w5 w5.heap.size v5 (TT (rotL xs a) (rotL ys b)) at hr5
                      have hl4 : Hid ((TT xs ys).length = xs.length) := TT_len _ _
                      have hl5 : Hid ((TT (rotL xs a) (rotL ys b)).length = xs.length) := by unfold Hid; rw [TT_len, rotL_len]
                      have hr4' := hr4
                      have hr5' := hr5
                      obtain ⟨A4, cap4, rfl, h41, h42, -⟩ := hr4
                      obtain ⟨A5, cap5, rfl, h51, h52, -⟩ := hr5
                      unfold maxLen at h42 h52
                      have hne1 : (((TT xs ys).length : Int) != (xs.length : Int)) = false := by rw [hl4.out]; simp
                      have hne2 : (((TT (rotL xs a) (rotL ys b)).length : Int) != (xs.length : Int)) = false := by rw [hl5.out]; simp
                      go_wp2_with fail
                      go_loopw [17, 18, 19] (fun i _ _ wr => ∃ (k : Nat), k ≤ xs.length ∧ i = .int .i64 k ∧ wr = w5) (fun i _ _ _ => xs.length - (intOf i).toNat)
                      case atStart => exact ⟨0, Nat.zero_le _, rfl, rfl⟩
                      case round =>
                        obtain ⟨k, hk, rfl, rfl⟩ := hrel
                        by_cases hlt : k < xs.length
                        · have hq : (a + k) % xs.length < xs.length := Nat.mod_lt _ (by omega)
                          obtain ⟨p, hp⟩ := get_lt (show (a + k) % xs.length < (TT xs ys).length by rw [hl4.out]; exact hq)
                          obtain ⟨q, hqk⟩ := get_lt (show k < (TT (rotL xs a) (rotL ys b)).length by rw [hl5.out]; exact hlt)
                          have hok := turn_ok hdxs.out hdys.out hlt hp hqk
                          obtain ⟨bl, offl, rfl, hbl, hcl⟩ := hr4'.at_ hp
                          obtain ⟨bm, offm, rfl, hbm, hcm⟩ := hr5'.at_ hqk
                          have c4 : wr.cell? ⟨bl, offl + (a + k) % xs.length, none⟩ = some (.int .i64 p) := by simpa using hcl _ _ hp 0 _ rfl
                          have c5 : wr.cell? ⟨bm, offm + k, none⟩ = some (.int .i64 q) := by simpa using hcm _ _ hqk 0 _ rfl
                          clear hcl hcm hp hqk
                          have z0 : 0 ≤ ((a : Int) + (k : Int)) % (xs.length : Int) := Int.emod_nonneg _ (by omega)
                          have z1 : ((a : Int) + (k : Int)) % (xs.length : Int) < (xs.length : Int) := Int.emod_lt_of_pos _ (by omega)
                          have z2 : (((a : Int) + (k : Int)) % (xs.length : Int)).toNat = (a + k) % xs.length := by rw [← Int.natCast_add, ← Int.natCast_emod, Int.toNat_natCast]
                          have z3 : ((a : Int) + (k : Int)) % (xs.length : Int) < ((TT xs ys).length : Int) := by rw [hl4.out]; exact z1
                          have z4 : (k : Int) < ((TT (rotL xs a) (rotL ys b)).length : Int) := by rw [hl5.out]; omega
                          rcases hok with ⟨rfl, rfl⟩ | ⟨j, hj, rfl, rfl⟩
                          · go_wp2_with fail
                            go_roundw
                            case rel => exact ⟨k + 1, by omega, by go_num, trivial⟩
                            case measure => simp [intOf]; omega
                          · obtain ⟨r, hr⟩ : ∃ r : Nat, r = (b + j) % ys.length := ⟨_, rfl⟩
                            have e5 : (((r : Nat) : Int) != ((b : Int) + (j : Int)) % (ys.length : Int)) = false := by rw [hr]; simp
                            rw [← hr] at c4
                            clear hr
                            go_wp2_with fail
                            go_roundw
                            case rel => exact ⟨k + 1, by omega, by go_num, trivial⟩
                            case measure => simp [intOf]; omega
                        · go_wp2_with fail
                          refine (awake_any _).mono ?_
                          rintro e w12 ⟨rfl, hb12⟩
                          go_wp2_with fail
                          go_ret
                          exact ⟨rfl, hw.trans (hb12.mono hw.size)⟩
        · have hd : (40 : Int) < ys.length := by omega
          have e0 : (((xs.length : Nat) : Int) == 0) = false := by simp; intro e; simp [e] at hx1
          have e1 : (((ys.length : Nat) : Int) == 0) = false := by simp; intro e; simp [e] at hy1
          have hwA : Below w.heap.size w (w.alloc (.cells #[.int .i64 t0, .int .i64 t1] 23)) := by ((repeat (first | exact Below.refl _ _ | assumption | refine Below.alloc ?_ (by first | omega | (simp; done) | (simp; omega)) _ | refine Below.setCell ?_ (by first | omega | (simp; done) | (simp; omega)) _ | refine Below.drew ?_ | refine below_drewN ?_ _)); done)
          go_enter Try.func3, Try.ntmps3
          go_wp2_with fail
          refine (awake_any _).mono ?_
          rintro e w12 ⟨rfl, hb12⟩
          go_wp2_with fail
          go_ret
          exact ⟨rfl, hwA.trans (hb12.mono hwA.size)⟩
      · have hd : (40 : Int) < xs.length := by omega
        have e0 : (((xs.length : Nat) : Int) == 0) = false := by simp; intro e; simp [e] at hx1
        have e1 : (((ys.length : Nat) : Int) == 0) = false := by simp; intro e; simp [e] at hy1
        have hwA : Below w.heap.size w (w.alloc (.cells #[.int .i64 t0, .int .i64 t1] 23)) := by ((repeat (first | exact Below.refl _ _ | assumption | refine Below.alloc ?_ (by first | omega | (simp; done) | (simp; omega)) _ | refine Below.setCell ?_ (by first | omega | (simp; done) | (simp; omega)) _ | refine Below.drew ?_ | refine below_drewN ?_ _)); done)
        go_enter Try.func3, Try.ntmps3
        go_wp2_with fail
        refine (awake_any _).mono ?_
        rintro e w12 ⟨rfl, hb12⟩
        go_wp2_with fail
        go_ret
        exact ⟨rfl, hwA.trans (hb12.mono hwA.size)⟩
    · have e0 : (((xs.length : Nat) : Int) == 0) = false := by simp; intro e; simp [e] at hx1
      have e1 : (((ys.length : Nat) : Int) == 0) = true := by rw [show ys.length = 0 by omega]; rfl
      have hwA : Below w.heap.size w (w.alloc (.cells #[.int .i64 t0, .int .i64 t1] 23)) := by ((repeat (first | exact Below.refl _ _ | assumption | refine Below.alloc ?_ (by first | omega | (simp; done) | (simp; omega)) _ | refine Below.setCell ?_ (by first | omega | (simp; done) | (simp; omega)) _ | refine Below.drew ?_ | refine below_drewN ?_ _)); done)
      go_enter Try.func3, Try.ntmps3
      go_wp2_with fail
      refine (awake_any _).mono ?_
      rintro e w12 ⟨rfl, hb12⟩
      go_wp2_with fail
      go_ret
      exact ⟨rfl, hwA.trans (hb12.mono hwA.size)⟩
  · have e0 : (((xs.length : Nat) : Int) == 0) = true := by rw [show xs.length = 0 by omega]; rfl
    have hwA : Below w.heap.size w (w.alloc (.cells #[.int .i64 t0, .int .i64 t1] 23)) := by ((repeat (first | exact Below.refl _ _ | assumption | refine Below.alloc ?_ (by first | omega | (simp; done) | (simp; omega)) _ | refine Below.setCell ?_ (by first | omega | (simp; done) | (simp; omega)) _ | refine Below.drew ?_ | refine below_drewN ?_ _)); done)
    go_enter Try.func3, Try.ntmps3
    go_wp2_with fail
    refine (awake_any _).mono ?_
    rintro e w12 ⟨rfl, hb12⟩
    go_wp2_with fail
    go_ret
    exact ⟨rfl, hwA.trans (hb12.mono hwA.size)⟩
end Go.Proofs.Ytddnphidmpidcaa
