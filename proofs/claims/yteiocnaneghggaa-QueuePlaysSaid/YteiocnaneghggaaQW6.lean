import Derived.Test.YteiocnaneghggaaQW5
namespace Go.Proofs.Yteiocnaneghggaa
open Go Go.RowKit

set_option maxHeartbeats 4000000 in
set_option maxRecDepth 100000 in
theorem down_any (kk : Bool) (T : TO (ahead (cmpO kk))) {w : World} {h : Nat} {v : Value} {L : List It} (H : HI w h (ovT kk) v L) (hl : L.length ≤ 1000) {n : Nat} (hn : n < L.length) (hD : DownI (ahead (cmpO kk)) L n 0) : Calls Try.prog 43 #[ifT h, .int .i64 0, .int .i64 n] w fun e w' => (∃ u, e = .returned u) ∧ ∃ L', HI w' h (ovT kk) v L' ∧ L'.Perm L ∧ (∀ k, n ≤ k → L'[k]? = L[k]?) ∧ HeapI (ahead (cmpO kk)) L' n ∧ Only (fun k => v.ownBlock = some k) w w' := by
  unfold ifT
  have ml := m_less (some ⟨h, 0, none⟩)
  have ms := m_swap (some ⟨h, 0, none⟩)
  go_enter Try.func43, Try.ntmps43
  go_wp2_with fail
  go_loopw [7, 8, 9, 10] (fun iv _ _ _ wr => ∃ (m : Nat) (L' : List It), iv = .int .i64 m ∧ m < L'.length ∧ HI wr h (ovT kk) v L' ∧ L'.Perm L ∧ (m = 0 ∨ m < n) ∧ Hid (∀ k, n ≤ k → L'[k]? = L[k]?) ∧ DownI (ahead (cmpO kk)) L' n m ∧ Only (fun k => v.ownBlock = some k) w wr) (fun iv _ _ _ _ => L.length - (intOf iv).toNat)
  case atStart => exact ⟨0, L, rfl, by omega, H, List.Perm.refl _, Or.inl rfl, fun _ _ => rfl, hD, Only.refl _ _⟩
  case round =>
    obtain ⟨m, L', rfl, hm, H', hperm, hmn, htail, hD', hO⟩ := hrel
    have HD := Lib.hid hD'
    have HP := Lib.hid hperm
    clear hD' hperm
    have hll : L'.length = L.length := HP.out.length_eq
    obtain ⟨x, hx⟩ := get_lt hm
    have HX := Lib.hid hx
    clear hx
    by_cases h1 : n ≤ 2 * m + 1
    · have hfin := Lib.hid (down_leaf HD.out h1)
      go_wp2_with fail
      go_ret
      exact ⟨⟨_, rfl⟩, L', H', HP.out, htail.out, hfin.out, hO⟩
    · obtain ⟨c1, hc1⟩ : ∃ c1 : Nat, c1 = 2 * m + 1 := ⟨_, rfl⟩
      have z1 : Hid (2 * (m : Int) + 1 = (c1 : Int)) := by unfold Hid; omega
      obtain ⟨a, ha⟩ := get_lt (show c1 < L'.length by omega)
      have HA := Lib.hid ha
      clear ha
      have hmn' : m < n := by omega
      have hc1n : c1 < n := by omega
      have hc1m : m < c1 := by omega
      have hc1e := Lib.hid hc1
      by_cases h2 : n ≤ 2 * m + 2
      · have HB : Hid (BestOf (ahead (cmpO kk)) L' n m c1)  := by rw [hc1]; exact best_one (L := L') T (show 2 * m + 1 < n by omega) h2
        clear hc1
        go_wp2_with fail
        rw [z1.out]
        refine (less_any kk H' HA.out HX.out).mono ?_
        rintro e w1 ⟨rfl, hbw1⟩
        have Hw1 := H'.below hbw1
        have hOw1 := hO.trans (Only.of_below hbw1 (fun k => v.ownBlock = some k))
        cases hah : ahead (cmpO kk) a x
        · have hfin := Lib.hid (down_done T HD.out HB.out HA.out HX.out hah)
          go_wp2_with fail
          go_ret
          exact ⟨⟨_, rfl⟩, L', Hw1, HP.out, htail.out, hfin.out, hOw1⟩
        · have hnext := Lib.hid (down_step T HD.out HB.out HA.out HX.out hah)
          have hpm := Lib.hid ((swap_perm HX.out HA.out).trans HP.out)
          have htl := Lib.hid (show ∀ k, n ≤ k → ((L'.set m a).set c1 x)[k]? = L[k]? from fun k hk => by rw [swap_get HX.out HA.out, if_neg (by omega), if_neg (by omega)]; exact htail.out k hk)
          have hlen : ((L'.set m a).set c1 x).length = L'.length := by simp
          go_wp2_with fail
          refine (swap_any Hw1 HX.out HA.out).mono ?_
          rintro e w9 ⟨⟨u, rfl⟩, H9, hO9⟩
          have hO10 := hOw1.trans hO9
          go_wp2_with fail
          go_roundw
          case rel => exact ⟨c1, _, by go_num, by rw [hlen]; omega, H9, hpm.out, Or.inr (by omega), htl, hnext.out, hO10⟩
          case measure => simp [intOf]; omega
      · obtain ⟨c2, hc2⟩ : ∃ c2 : Nat, c2 = 2 * m + 2 := ⟨_, rfl⟩
        have z2 : Hid ((c1 : Int) + 1 = (c2 : Int)) := by unfold Hid; omega
        obtain ⟨b, hb⟩ := get_lt (show c2 < L'.length by omega)
        have HBB := Lib.hid hb
        clear hb
        have hc2n : c2 < n := by omega
        have hc2m : m < c2 := by omega
        have hc2e := Lib.hid hc2
        clear hc1 hc2
        go_wp2_with fail
        rw [z1.out]
        rw [z2.out]
        refine (less_any kk H' HBB.out HA.out).mono ?_
        rintro e w1 ⟨rfl, hbw1⟩
        have Hw1 := H'.below hbw1
        have hOw1 := hO.trans (Only.of_below hbw1 (fun k => v.ownBlock = some k))
        cases hab : ahead (cmpO kk) b a
        · have HB : Hid (BestOf (ahead (cmpO kk)) L' n m c1) := by rw [hc1e.out]; exact best_left (L := L') T (show 2 * m + 2 < n by omega) (by rw [← hc1e.out]; exact HA.out) (by rw [← hc2e.out]; exact HBB.out) hab
          go_wp2_with fail
          refine (less_any kk Hw1 HA.out HX.out).mono ?_
          rintro e w2 ⟨rfl, hbw2⟩
          have Hw2 := Hw1.below hbw2
          have hOw2 := hOw1.trans (Only.of_below hbw2 (fun k => v.ownBlock = some k))
          cases hah : ahead (cmpO kk) a x
          · have hfin := Lib.hid (down_done T HD.out HB.out HA.out HX.out hah)
            go_wp2_with fail
            go_ret
            exact ⟨⟨_, rfl⟩, L', Hw2, HP.out, htail.out, hfin.out, hOw2⟩
          · have hnext := Lib.hid (down_step T HD.out HB.out HA.out HX.out hah)
            have hpm := Lib.hid ((swap_perm HX.out HA.out).trans HP.out)
            have htl := Lib.hid (show ∀ k, n ≤ k → ((L'.set m a).set c1 x)[k]? = L[k]? from fun k hk => by rw [swap_get HX.out HA.out, if_neg (by omega), if_neg (by omega)]; exact htail.out k hk)
            have hlen : ((L'.set m a).set c1 x).length = L'.length := by simp
            go_wp2_with fail
            refine (swap_any Hw2 HX.out HA.out).mono ?_
            rintro e w9 ⟨⟨u, rfl⟩, H9, hO9⟩
            have hO10 := hOw2.trans hO9
            go_wp2_with fail
            go_roundw
            case rel => exact ⟨c1, _, by go_num, by rw [hlen]; omega, H9, hpm.out, Or.inr (by omega), htl, hnext.out, hO10⟩
            case measure => simp [intOf]; omega
        · have HB : Hid (BestOf (ahead (cmpO kk)) L' n m c2) := by rw [hc2e.out]; exact best_right (L := L') T (show 2 * m + 2 < n by omega) (by rw [← hc1e.out]; exact HA.out) (by rw [← hc2e.out]; exact HBB.out) hab
          go_wp2_with fail
          refine (less_any kk Hw1 HBB.out HX.out).mono ?_
          rintro e w2 ⟨rfl, hbw2⟩
          have Hw2 := Hw1.below hbw2
          have hOw2 := hOw1.trans (Only.of_below hbw2 (fun k => v.ownBlock = some k))
          cases hah : ahead (cmpO kk) b x
          · have hfin := Lib.hid (down_done T HD.out HB.out HBB.out HX.out hah)
            go_wp2_with fail
            go_ret
            exact ⟨⟨_, rfl⟩, L', Hw2, HP.out, htail.out, hfin.out, hOw2⟩
          · have hnext := Lib.hid (down_step T HD.out HB.out HBB.out HX.out hah)
            have hpm := Lib.hid ((swap_perm HX.out HBB.out).trans HP.out)
            have htl := Lib.hid (show ∀ k, n ≤ k → ((L'.set m b).set c2 x)[k]? = L[k]? from fun k hk => by rw [swap_get HX.out HBB.out, if_neg (by omega), if_neg (by omega)]; exact htail.out k hk)
            have hlen : ((L'.set m b).set c2 x).length = L'.length := by simp
            go_wp2_with fail
            refine (swap_any Hw2 HX.out HBB.out).mono ?_
            rintro e w9 ⟨⟨u, rfl⟩, H9, hO9⟩
            have hO10 := hOw2.trans hO9
            go_wp2_with fail
            go_roundw
            case rel => exact ⟨c2, _, by go_num, by rw [hlen]; omega, H9, hpm.out, Or.inr (by omega), htl, hnext.out, hO10⟩
            case measure => simp [intOf]; omega
end Go.Proofs.Yteiocnaneghggaa
