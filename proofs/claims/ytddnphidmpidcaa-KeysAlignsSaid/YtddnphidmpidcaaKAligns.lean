import Derived.Test.YtddnphidmpidcaaKP
namespace Go.Proofs.Ytddnphidmpidcaa
open Go Go.RowKit

set_option maxHeartbeats 4000000 in
set_option maxRecDepth 100000 in
theorem aligns_walk {v v' : Value} {xs ys : List Ent} (w : World) (hx : Rd Ent.enc 3 w w.heap.size v xs) (hy : Rd Ent.enc 3 w w.heap.size v' ys) (hkx : ∀ x ∈ xs, x.key.size ≤ maxLen) (hky : ∀ x ∈ ys, x.key.size ≤ maxLen) :
   Calls Try.prog 7 #[v, v'] w fun e w' => e = .returned (.bool true) ∧ Below w.heap.size w w' := by
  have hx' := hx
  have hy' := hy
  obtain ⟨A, cap, rfl, h1, h2, -⟩ := hx
  obtain ⟨A', cap', rfl, h1', h2', -⟩ := hy
  unfold maxLen at h2 h2'
  by_cases hlx : xs.length ≤ 40
  · by_cases hly : ys.length ≤ 40
    · go_enter Try.func7, Try.ntmps7
      go_wp2_with fail
      refine (plain_any _ hx' (Nat.le_refl _) (by omega)).mono ?_
      rintro e w1 ⟨va, rfl, hra, hb1⟩
      have hz1 := hb1.size
      go_wp2_with fail
      refine (plain_any _ (hy'.below hb1 (Nat.le_refl _)) hz1 (by omega)).mono ?_
      rintro e w2 ⟨vb, rfl, hrb, hb2⟩
      have hz2 := hb2.size
      have hb12 := hb1.trans (hb2.mono hz1)
      go_wp2_with fail
      refine (refAlign_any _ ((hra.below hb2 (Nat.le_refl _)).more hz2) hrb (Nat.le_refl _) (by simp; omega)).mono ?_
      rintro e w3 ⟨vc, rfl, hrc, hb3⟩
      rw [align_is_ref] at hrc
      have hz3 := hb3.size
      have hb13 := hb12.trans (hb3.mono (by omega))
      have hT : (alignL (xs.map Ent.nrm) (plc ys)).length ≤ 40 := by rw [alignL_len]; simp; omega
      have hTd : Hid ((alignL (xs.map Ent.nrm) (plc ys)) = (alignL (xs.map Ent.nrm) (plc ys))) := rfl
      generalize hTT : (alignL (xs.map Ent.nrm) (plc ys)) = T at hrc hT hTd
      have HT := Lib.hid hTT
      clear hTT hTd
      have hrc' := hrc
      obtain ⟨At, capt, rfl, ht1, ht2, -⟩ := hrc
      unfold maxLen at ht2
      go_wp2_with fail
      go_loopw [6, 7] (fun out i wr => ∃ (k : Nat), k ≤ ys.length ∧ i = .int .i64 k ∧ Own encI 1 3 wr w3.heap.size out (leftL T k) ∧ Below w3.heap.size w3 wr) (fun _ i _ => ys.length - (intOf i).toNat)
      case atStart => exact ⟨0, Nat.zero_le _, rfl, Own.nil _ _ _ _ _, Below.refl _ _⟩
      case round =>
        obtain ⟨k, hk, rfl, hown, hbel⟩ := hrel
        have hll := leftL_len T k
        have hsz := hbel.size
        by_cases hlt : k < ys.length
        · go_wp2_with fail
          obtain ⟨wo, rfl⟩ : ∃ wo : World, wo = wr := ⟨_, rfl⟩
          go_loopw [8, 9] (fun fr j wr => ∃ (n : Nat), n ≤ T.length ∧ j = .int .i64 n ∧ fr = .bool (decide ((k : Int) ∉ T.take n)) ∧ wr = wo) (fun _ j _ => T.length - (intOf j).toNat)
          case atStart => exact ⟨0, Nat.zero_le _, rfl, by simp, rfl⟩
          case round =>
            obtain ⟨n, hn, rfl, rfl, rfl⟩ := hrel
            by_cases hln : n < T.length
            · obtain ⟨O, hon⟩ := get_lt hln
              have HO := Lib.hid hon
              obtain ⟨bo, offo, hAo, hbo, hco⟩ := (hrc'.below hbel (Nat.le_refl _)).at_ hon
              subst hAo
              have c1 : wr.cell? ⟨bo, offo + n, none⟩ = some (.int .i64 O) := by simpa using hco n _ hon 0 _ rfl
              clear hco hon
              by_cases hfr : (k : Int) ∈ T.take n
              · have hd : decide ((k : Int) ∉ T.take n) = false := by simp [hfr]
                have hd2 : decide ((k : Int) ∉ T.take (n + 1)) = false := by rw [take_snoc HO.out]; simp [hfr]
                rw [hd]
                have HD2 := Lib.hid hd2
                clear hd hd2 hfr
                go_wp2_with fail
                go_roundw
                case rel => exact ⟨n + 1, by omega, by go_num, by rw [HD2.out], trivial⟩
                case measure => simp [intOf]; omega
              · have hd : decide ((k : Int) ∉ T.take n) = true := by simp [hfr]
                rw [hd]
                by_cases hO : O = (k : Int)
                · have hd2 : decide ((k : Int) ∉ T.take (n + 1)) = false := by rw [take_snoc HO.out]; simp [hO]
                  have hb : (O != (k : Int)) = false := by simp [hO]
                  have HD2 := Lib.hid hd2
                  clear hd hd2 hfr hO
                  go_wp2_with fail
                  go_roundw
                  case rel => exact ⟨n + 1, by omega, by go_num, by rw [HD2.out], trivial⟩
                  case measure => simp [intOf]; omega
                · have hd2 : decide ((k : Int) ∉ T.take (n + 1)) = true := by rw [take_snoc HO.out]; simp [hfr]; exact fun e => hO e.symm
                  have hb : (O != (k : Int)) = true := by simp [hO]
                  have HD2 := Lib.hid hd2
                  clear hd hd2 hfr hO
                  go_wp2_with fail
                  go_roundw
                  case rel => exact ⟨n + 1, by omega, by go_num, by rw [HD2.out], trivial⟩
                  case measure => simp [intOf]; omega
            · have hno : T.take n = T := take_len_le (by omega)
              rw [hno]
              by_cases hin : (k : Int) ∈ T
              · have hd : decide ((k : Int) ∉ T) = false := by simp [hin]
                have hls : leftL T (k + 1) = leftL T k := by rw [leftL_succ, if_pos hin, List.append_nil]
                rw [hd]
                have HL := Lib.hid hls
                clear hd hls hin hno
                go_wp2_with fail
                go_roundw
                case rel => exact ⟨k + 1, by omega, by go_num, by rw [HL.out]; exact hown, hbel⟩
                case measure => simp [intOf]; omega
              · have hd : decide ((k : Int) ∉ T) = true := by simp [hin]
                have hls : leftL T (k + 1) = leftL T k ++ [(k : Int)] := by rw [leftL_succ, if_neg hin]
                rw [hd]
                have HL := Lib.hid hls
                clear hd hls hin hno
                go_wp2_with (at_builtin; refine wpList_append_one _ (by rfl) _ _ _ (by rfl) encI encI_len encI_one T28 w3.heap.size _ _ (by rfl) (hown.below (by ((repeat (first | exact Below.refl _ _ | assumption | refine Below.alloc ?_ (by first | omega | (simp; done) | (simp; omega)) _ | refine Below.setCell ?_ (by first | omega | (simp; done) | (simp; omega)) _ | refine Below.drew ?_ | refine below_drewN ?_ _)); done))) (k : Int) _ #[.int .i64 k] (by rfl) (by rfl) (heap_alloc_new _ _) (by omega) (by simp; omega) ?_; intro v1 w4 hown4 hb4 hO4 hloc4)
                have hb4' : Below w3.heap.size wr w4 := Below.trans (by ((repeat (first | exact Below.refl _ _ | assumption | refine Below.alloc ?_ (by first | omega | (simp; done) | (simp; omega)) _ | refine Below.setCell ?_ (by first | omega | (simp; done) | (simp; omega)) _ | refine Below.drew ?_ | refine below_drewN ?_ _)); done)) hb4
                go_roundw
                case rel => exact ⟨k + 1, by omega, by go_num, by rw [HL.out]; exact hown4, hbel.trans hb4'⟩
                case measure => simp [intOf]; omega
        · obtain rfl : k = ys.length := by omega
          have hrl := hown.rd encI_len (by simp [maxLen]; omega)
          have hw := hb13.trans (hbel.mono (by omega))
          have hwz := hw.size
          replace hx' := (hx'.below hw (Nat.le_refl _)).more hwz
          replace hy' := (hy'.below hw (Nat.le_refl _)).more hwz
          replace hrc' := Rd.next hrc' hbel
          have hU : (uniqueE xs = 0 ∧ pairB Ent.bad xs = true) ∨ (uniqueE xs = 23 ∧ pairB Ent.bad xs = false) := by
            cases hp : pairB Ent.bad xs
            · exact Or.inr ⟨by simp [uniqueE, hp], rfl⟩
            · exact Or.inl ⟨by simp [uniqueE, hp], rfl⟩
          rcases hU with ⟨hU1, hU2⟩ | ⟨hU1, hU2⟩
          all_goals
            have HU1 := Lib.hid hU1
            have HU2 := Lib.hid hU2
            clear hU1 hU2
            go_wp2_with fail
            refine (unique_any _ hx' (Nat.le_refl _) hkx).mono ?_
            rw [HU1.out]
            rintro e w5 ⟨rfl, hb5⟩
            (replace hw := Below.trans hw (Below.mono hb5 (Below.size hw)); replace hx' := Rd.next hx' hb5; replace hy' := Rd.next hy' hb5; replace hrc' := Rd.next hrc' hb5; replace hrl := Rd.next hrl hb5)
            go_wp2_with fail
            refine (align_any _ hx' hy' (Nat.le_refl _) (by omega) (by omega) hkx hky).mono ?_
            rw [HT.out]
            rintro e w6 ⟨v6, rfl, hr6, hb6⟩
            (replace hw := Below.trans hw (Below.mono hb6 (Below.size hw)); replace hx' := Rd.next hx' hb6; replace hy' := Rd.next hy' hb6; replace hrc' := Rd.next hrc' hb6; replace hrl := Rd.next hrl hb6)
            go_wp2_with fail
            refine (ints_any _ hr6 hrc' (Nat.le_refl _) (Nat.le_refl _)).mono ?_
            rw [decide_eq_true (rfl : T = T)]
            rintro e w7 ⟨rfl, hb7⟩
            (replace hw := Below.trans hw (Below.mono hb7 (Below.size hw)); replace hx' := Rd.next hx' hb7; replace hy' := Rd.next hy' hb7; replace hrl := Rd.next hrl hb7)
            go_wp2_with fail
            refine (left_any _ hx' hy' (Nat.le_refl _) (by omega) (by omega) hkx hky).mono ?_
            rw [HT.out]
            rintro e w8 ⟨v8, rfl, hr8, hb8⟩
            (replace hw := Below.trans hw (Below.mono hb8 (Below.size hw)); replace hx' := Rd.next hx' hb8; replace hrl := Rd.next hrl hb8)
            go_wp2_with fail
            refine (ints_any _ hr8 hrl (Nat.le_refl _) (Nat.le_refl _)).mono ?_
            rw [decide_eq_true (rfl : leftL T ys.length = leftL T ys.length)]
            rintro e w9 ⟨rfl, hb9⟩
            (replace hw := Below.trans hw (Below.mono hb9 (Below.size hw)); replace hx' := Rd.next hx' hb9)
            go_wp2_with fail
            refine (plain_any _ hx' (Nat.le_refl _) (by omega)).mono ?_
            rintro e w10 ⟨v10, rfl, hr10, hb10⟩
            (replace hw := Below.trans hw (Below.mono hb10 (Below.size hw)); replace hx' := Rd.next hx' hb10)
            go_wp2_with fail
            refine (uniqueRef_any _ hr10 (Nat.le_refl _)).mono ?_
            rw [pair_plain, HU2.out]
            rintro e w11 ⟨rfl, hb11⟩
            (replace hw := Below.trans hw (Below.mono hb11 (Below.size hw)); replace hx' := Rd.next hx' hb11)
            go_wp2_with fail
            refine (awake_any _).mono ?_
            rintro e w12 ⟨rfl, hb12⟩
            (replace hw := Below.trans hw (Below.mono hb12 (Below.size hw)); replace hx' := Rd.next hx' hb12)
            go_wp2_with fail
            go_ret
            exact ⟨rfl, hw⟩
    · have hd : (40 : Int) < ys.length := by omega
      go_enter Try.func7, Try.ntmps7
      go_wp2_with fail
      refine (awake_any _).mono ?_
      rintro e w12 ⟨rfl, hb12⟩
      go_wp2_with fail
      go_ret
      exact ⟨rfl, hb12⟩
  · have hd : (40 : Int) < xs.length := by omega
    go_enter Try.func7, Try.ntmps7
    go_wp2_with fail
    refine (awake_any _).mono ?_
    rintro e w12 ⟨rfl, hb12⟩
    go_wp2_with fail
    go_ret
    exact ⟨rfl, hb12⟩
end Go.Proofs.Ytddnphidmpidcaa
