import Derived.Test.YtgkmmlffnfpjaaaDoorUR2
namespace Go.Proofs.YtgkmmlffnfpjaaaDoor
open Go Go.RowKit

/-- what the reference's reading gives -/
def ReadIs (bs : List UInt8) (w : World) (e : Ending) (w' : World) : Prop :=
  ((∃ r s : Nat, chr bs = some (r, s) ∧ e = .returned (.tuple #[.int .i64 r, .int .i64 s])) ∨ (chr bs = none ∧ e = .returned (.tuple #[.int .i64 0, .int .i64 0]))) ∧ Below w.heap.size w w'

set_option maxHeartbeats 8000000 in
set_option maxRecDepth 100000 in
theorem read_raw {B : Nat} {v : Value} {bs : List UInt8} (w : World) (hx : Rd encU 1 w B v bs) (hB : B ≤ w.heap.size) (hn : 0 < bs.length) (hl : bs.length ≤ 1000) :
    Calls Tryd.prog 18 #[v] w (ReadIs bs w) := by
  have hx' := hx
  obtain ⟨A, cap, rfl, h1, h2, -⟩ := hx
  unfold maxLen at h2
  obtain ⟨b, off, rfl, hb, hc⟩ := rd_cell hx' hn
  have hbw : b < w.heap.size := by omega
  have hne : bs ≠ [] := fun e => by rw [e] at hn; simp at hn
  have HNE := Lib.hid hne
  have hBY := Lib.hid (byt_lt bs)
  have HC := Lib.hid hc
  clear hne hc
  go_enter Tryd.func18, Tryd.ntmps18
  go_wp2_with fail
  go_loopw [4, 5, 6, 7, 8, 9] (fun sz _ _ _ _ _ wr => ∃ (k : Nat), 1 ≤ k ∧ k ≤ 5 ∧ sz = .int .i64 k ∧ Hid (NoMatch k bs) ∧ Below w.heap.size w wr) (fun sz _ _ _ _ _ _ => 5 - (intOf sz).toNat)
  case atStart => exact ⟨1, Nat.le_refl _, by omega, rfl, fun s h1 h2 => absurd h2 (by omega), Below.refl _ _⟩
  case round =>
    obtain ⟨k, hk1, hk5, rfl, hno, hbel⟩ := hrel
    have hsz := hbel.size
    by_cases hk : k ≤ 4 ∧ k ≤ bs.length
    · obtain ⟨hk4, hkl⟩ := hk
      have c0 : wr.cell? ⟨b, off, none⟩ = some (.int .u8 (byt bs 0 : Int)) := by have := Below.cell_some hbel (HC.out 0 hn) hbw; rwa [Nat.add_zero] at this
      have b0 := hBY.out 0
      have hbwr : b < wr.heap.size := by omega
      obtain ⟨o, ho⟩ : ∃ o, o = offR k := ⟨_, rfl⟩
      obtain ⟨n0, hn0⟩ : ∃ n0, n0 = byt bs 0 := ⟨_, rfl⟩
      rw [← hn0] at c0 b0
      have hcase : (((k : Int) == 2) = true ∧ ((k : Int) == 3) = false ∧ ((k : Int) == 4) = false ∧ o = 192) ∨ (((k : Int) == 2) = false ∧ ((k : Int) == 3) = true ∧ ((k : Int) == 4) = false ∧ o = 224) ∨ (((k : Int) == 2) = false ∧ ((k : Int) == 3) = false ∧ ((k : Int) == 4) = true ∧ o = 240) ∨ (((k : Int) == 2) = false ∧ ((k : Int) == 3) = false ∧ ((k : Int) == 4) = false ∧ o = 0) := by
        have : k = 1 ∨ k = 2 ∨ k = 3 ∨ k = 4 := by omega
        rcases this with rfl | rfl | rfl | rfl
        · exact .inr (.inr (.inr ⟨rfl, rfl, rfl, ho⟩))
        · exact .inl ⟨rfl, rfl, rfl, ho⟩
        · exact .inr (.inl ⟨rfl, rfl, rfl, ho⟩)
        · exact .inr (.inr (.inl ⟨rfl, rfl, rfl, ho⟩))
      have HO := Lib.hid ho
      have HN0 := Lib.hid hn0
      have hk4' : decide ((k : Int) ≤ 4) = true := decide_eq_true (by omega)
      clear ho hn0
      rcases hcase with ⟨e2, e3, e4, rfl⟩ | ⟨e2, e3, e4, rfl⟩ | ⟨e2, e3, e4, rfl⟩ | ⟨e2, e3, e4, rfl⟩
      all_goals
        go_wp2_with fail
        go_loopw [5, 6] (fun n i ws => ∃ (m : Nat) (z : Int), 1 ≤ m ∧ m ≤ k ∧ i = .int .i64 m ∧ n = .int .i64 z ∧ Hid (z = accR (offR k) bs (m - 1)) ∧ Below wr.heap.size wr ws) (fun _ i _ => k - (intOf i).toNat)
        case atStart => exact ⟨1, _, Nat.le_refl _, hk1, rfl, rfl, by unfold Hid; rw [← HO.out]; show _ = (byt bs 0 : Int) - _; rw [← HN0.out]; try omega, Below.refl _ _⟩
        case round =>
          obtain ⟨m, z, hm1, hmk, rfl, rfl, hz, hbm⟩ := hrel
          have hszm := hbm.size
          have hoff : 0 ≤ offR k ∧ offR k ≤ 240 := by rw [← HO.out]; omega
          by_cases hlt : m < k
          · have hbd := (accR_bound hoff.1 hoff.2 bs (m - 1) (by omega)).2.2 (by omega)
            rw [← hz.out] at hbd
            obtain ⟨z1, z2⟩ := hbd
            have c1 : wr.cell? ⟨b, off + m, none⟩ = some (.int .u8 (byt bs m : Int)) := Below.cell_some hbm (Below.cell_some hbel (HC.out m (by omega)) hbw) hbwr
            have b1 := hBY.out m
            obtain ⟨n1, hn1⟩ : ∃ n1, n1 = byt bs m := ⟨_, rfl⟩
            rw [← hn1] at c1 b1
            have hz2 : Hid (64 * z + (n1 : Int) - 128 = accR (offR k) bs (m + 1 - 1)) := by
              unfold Hid
              obtain ⟨j, rfl⟩ : ∃ j, m = j + 1 := ⟨m - 1, by omega⟩
              show _ = 64 * accR (offR k) bs j + (byt bs (j + 1) : Int) - 128
              rw [hn1, hz.out]
              rfl
            have hml : m < bs.length := by omega
            clear hn1 hoff
            go_wp2_with fail
            go_roundw
            case rel => exact ⟨m + 1, _, by omega, by omega, by go_num, rfl, hz2, hbm⟩
            case measure => simp [intOf]; omega
          · obtain rfl : m = k := by omega
            have hzn : Hid (z = numR m bs) := hz.out
            have his := refis_any z wr
            have hNext : ¬ Match m bs → Hid (NoMatch (m + 1) bs) := by
              intro h s i1 i2 i3
              rcases Nat.lt_or_ge s m with h1 | h1
              · exact hno.out s i1 h1 i3
              · have : s = m := by omega
                rw [this]; exact h
            cases hi : isB z
            · rw [hi] at his
              have hN := hNext (fun h => by have i1 := h.1; rw [← hzn.out, hi] at i1; cases i1)
              clear hi hNext
              go_wp2_with fail
              refine his.mono ?_
              rintro e w3 ⟨rfl, hb3⟩
              clear his
              have hb03 := hbel.trans ((hbm.trans (hb3.mono hszm)).mono hsz)
              go_wp2_with fail
              go_roundw
              case rel => exact ⟨m + 1, by omega, by omega, by go_num, hN, hb03⟩
              case measure => simp [intOf]; omega
            · rw [hi] at his
              obtain ⟨p, rfl⟩ := isB_toNat hi
              have hI := Lib.hid hi
              clear hi
              go_wp2_with fail
              refine his.mono ?_
              rintro e w3 ⟨rfl, hb3⟩
              clear his
              have hby := refbytes_any w3 hI.out
              go_wp2_with fail
              refine hby.mono ?_
              rintro e w4 ⟨u, rfl, hr4, hb4⟩
              clear hby
              have hb34 := hb3.trans (hb4.mono hb3.size)
              have hb04 := hbm.trans (hb34.mono hszm)
              have hb00 := hbel.trans (hb04.mono hsz)
              obtain ⟨xs, hxs⟩ : ∃ xs, xs = bytesOf p := ⟨_, rfl⟩
              rw [← hxs] at hr4
              have HXS := Lib.hid hxs
              have hr4' := hr4
              obtain ⟨Au, cu, rfl, hu1, hu2, -⟩ := hr4
              unfold maxLen at hu2
              have hpos : 0 < xs.length := by rw [hxs, bytesOf_len]; exact (bytesN_len p).1
              clear hxs
              have hMt : xs.length = m ∧ xs.take xs.length = bs.take xs.length → Match m bs := by
                rintro ⟨i1, i2⟩
                refine ⟨by rw [← hzn.out]; exact hI.out, ?_⟩
                rw [← hzn.out, Int.toNat_natCast, ← HXS.out, ← i1, ← i2, List.take_length]
              have hMf : ∀ j, j ≤ xs.length → Match m bs → xs.length = m ∧ xs.take j = bs.take j := by
                intro j hj h
                have i2 := h.2
                rw [← hzn.out, Int.toNat_natCast, ← HXS.out] at i2
                have i1 : xs.length = m := by rw [i2, List.length_take, Nat.min_eq_left hkl]
                refine ⟨i1, ?_⟩
                rw [i2, List.take_take, Nat.min_eq_left (by omega)]
              have HMT := Lib.hid hMt
              have HMF := Lib.hid hMf
              have HNX := Lib.hid hNext
              clear hMt hMf hNext
              have hz4 := hb4.size
              go_wp2_with fail
              go_loopw [8, 9] (fun sm i ws => ∃ (j : Nat) (s : Bool), j ≤ xs.length ∧ i = .int .i64 j ∧ sm = .bool s ∧ Hid (s = true ↔ (xs.length = m ∧ xs.take j = bs.take j)) ∧ Below w4.heap.size w4 ws) (fun _ i _ => xs.length - (intOf i).toNat)
              case atStart => exact ⟨0, _, Nat.zero_le _, rfl, rfl, by unfold Hid; simp; omega, Below.refl _ _⟩
              case round =>
                obtain ⟨j, s, hj, rfl, rfl, hs, hbj⟩ := hrel
                have hbr := hb00.trans (hbj.mono (by have := hb00.size; omega))
                cases s
                · have hN := HNX.out (fun h => by have := hs.out.2 (HMF.out j hj h); cases this)
                  clear hs
                  by_cases hjl : j < xs.length
                  all_goals
                    go_wp2_with fail
                    go_roundw
                    case rel => exact ⟨m + 1, by omega, by omega, by go_num, hN, hbr⟩
                    case measure => simp [intOf]; omega
                · obtain ⟨hlm, htk⟩ := hs.out.1 rfl
                  by_cases hjl : j < xs.length
                  · obtain ⟨X, hX⟩ := get_lt hjl
                    obtain ⟨Y, hY⟩ := get_lt (show j < bs.length by omega)
                    obtain ⟨b2, off2, rfl, hb2, hc2⟩ := (hr4'.below hbj (Nat.le_refl _)).at_ hX
                    have cx : wr.cell? ⟨b2, off2 + j, none⟩ = some (.int .u8 X.toNat) := by simpa using hc2 j _ hX 0 _ rfl
                    have cy : wr.cell? ⟨b, off + j, none⟩ = some (.int .u8 (Y.toNat : Int)) := by
                      have := Below.cell_some hbr (HC.out j (by omega)) hbw
                      rw [byt_get hY] at this
                      exact this
                    have hs2 : Hid (((X.toNat : Int) == (Y.toNat : Int)) = true ↔ (xs.length = m ∧ xs.take (j + 1) = bs.take (j + 1))) := by
                      unfold Hid
                      rw [beq_iff_eq]
                      constructor
                      · intro e
                        exact ⟨hlm, take_same_snoc htk hX hY (UInt8.toNat_inj.1 (by omega))⟩
                      · rintro ⟨-, e⟩
                        rw [take_snoc hX, take_snoc hY, htk] at e
                        have := List.append_cancel_left e
                        simp at this
                        rw [this]
                    have hjb : j < bs.length := by omega
                    clear hc2 hX hY hs htk hlm
                    generalize X.toNat = p1 at cx hs2
                    generalize Y.toNat = p2 at cy hs2
                    go_wp2_with fail
                    go_region
                    go_wp2_with fail
                    go_roundw
                    case rel => exact ⟨j + 1, _, by omega, by go_num, rfl, hs2, below_drewN hbj 1⟩
                    case measure => simp [intOf]; omega
                  · obtain rfl : j = xs.length := by omega
                    have hch := match_chr hkl (HMT.out ⟨hlm, htk⟩)
                    rw [← hzn.out, Int.toNat_natCast] at hch
                    have HCH := Lib.hid hch
                    clear hch hs htk
                    have hlm' := Lib.hid hlm
                    clear hlm
                    go_wp2_with fail
                    go_ret2
                    exact ⟨Or.inl ⟨p, m, HCH.out, rfl⟩, hbr⟩
    · have hch : chr bs = none := by
        refine noMatch_chr HNE.out ?_
        by_cases h5 : k = 5
        · subst h5; exact Or.inl hno.out
        · exact Or.inr ⟨k, hno.out, by omega⟩
      have HCH := Lib.hid hch
      clear hch
      by_cases h5 : k ≤ 4
      · have hlt : ¬ k ≤ bs.length := by omega
        have hk4' : decide ((k : Int) ≤ 4) = true := decide_eq_true (by omega)
        have hkb : decide (k ≤ bs.length) = false := decide_eq_false hlt
        go_wp2_with fail
        go_ret2
        exact ⟨Or.inr ⟨HCH.out, rfl⟩, hbel⟩
      · have hk4' : decide ((k : Int) ≤ 4) = false := decide_eq_false (by omega)
        go_wp2_with fail
        go_ret2
        exact ⟨Or.inr ⟨HCH.out, rfl⟩, hbel⟩
end Go.Proofs.YtgkmmlffnfpjaaaDoor
