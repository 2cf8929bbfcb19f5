import Derived.Test.YtgkmmlffnfpjaaaDoorUW5
namespace Go.Proofs.YtgkmmlffnfpjaaaDoor
open Go Go.RowKit

theorem u8_ne {x y : UInt8} (h : x ≠ y) : ((x.toNat : Int) == (y.toNat : Int)) = false := by
  have : x.toNat ≠ y.toNat := fun e => h (UInt8.toNat_inj.1 e)
  simp; omega

set_option maxHeartbeats 4000000 in
theorem bytes_any {B : Nat} {v v' : Value} {xs ys : List UInt8} (w : World) (hx : Rd encU 1 w B v xs) (hy : Rd encU 1 w B v' ys) (hB : B ≤ w.heap.size) :
   Calls Tryd.prog 11 #[v, v'] w fun e w' => e = .returned (.bool (decide (xs = ys))) ∧ Below w.heap.size w w' := by
  have hx' := hx
  have hy' := hy
  obtain ⟨A, cap, rfl, h1, h2, -⟩ := hx
  obtain ⟨A', cap', rfl, h1', h2', -⟩ := hy
  unfold maxLen at h2 h2'
  by_cases hl : xs.length = ys.length
  · have e0 : ((xs.length : Int) != (ys.length : Int)) = false := by simp [hl]
    go_enter Tryd.func11, Tryd.ntmps11
    go_wp2_with fail
    go_loopw [5] (fun i wr => ∃ k : Nat, k ≤ xs.length ∧ i = .int .i64 k ∧ Hid (xs.take k = ys.take k) ∧ Below w.heap.size w wr) (fun i _ => xs.length - (intOf i).toNat)
    case atStart => exact ⟨0, Nat.zero_le _, rfl, by simp [Hid], Below.refl _ _⟩
    case round =>
      obtain ⟨k, hk, rfl, hno, hbel⟩ := hrel
      by_cases hlt : k < xs.length
      · obtain ⟨X, hX⟩ := get_lt hlt
        obtain ⟨Y, hY⟩ := get_lt (show k < ys.length by omega)
        obtain ⟨b, off, rfl, hb, hc⟩ := (hx'.below hbel hB).at_ hX
        obtain ⟨b', off', rfl, hb', hc'⟩ := (hy'.below hbel hB).at_ hY
        have c1 : wr.cell? ⟨b, off + k, none⟩ = some (.int .u8 X.toNat) := by simpa using hc k _ hX 0 _ rfl
        have c3 : wr.cell? ⟨b', off' + k, none⟩ = some (.int .u8 Y.toNat) := by simpa using hc' k _ hY 0 _ rfl
        have HX := Lib.hid hX
        have HY := Lib.hid hY
        clear hc hc' hX hY
        by_cases hxy : X = Y
        · have hn := take_same_snoc hno.out HX.out HY.out hxy
          have HN := Lib.hid hn
          subst hxy
          clear hn
          go_wp2_with fail
          go_region
          go_wp2_with fail
          go_roundw
          case rel => exact ⟨k + 1, by omega, by go_num, HN, below_drewN hbel 1⟩
          case measure => simp [intOf]; omega
        · have hne : decide (xs = ys) = false := decide_eq_false (fun e => by have := HX.out; rw [e, HY.out] at this; cases this; exact hxy rfl)
          have hi : ¬ (X.toNat : Int) = (Y.toNat : Int) := fun e => hxy (UInt8.toNat_inj.1 (by omega))
          have HN := Lib.hid hne
          generalize X.toNat = p at c1 hi
          generalize Y.toNat = q at c3 hi
          clear hne hxy
          have hi2 : ¬ p = q := by omega
          go_wp2_with fail
          go_region
          go_wp2_with fail
          go_ret
          exact ⟨ret_bool HN.out.symm, below_drewN hbel 1⟩
      · have hd : decide (xs = ys) = true := decide_eq_true (by have := hno.out; rwa [take_len_le (by omega), take_len_le (by omega)] at this)
        have HD := Lib.hid hd
        clear hd
        go_wp2_with fail
        go_ret
        exact ⟨ret_bool HD.out.symm, hbel⟩
  · have e0 : ((xs.length : Int) != (ys.length : Int)) = true := by simp; omega
    have hd : decide (xs = ys) = false := decide_eq_false (fun e => hl (by rw [e]))
    go_enter Tryd.func11, Tryd.ntmps11
    go_wp2_with fail
    go_ret
    exact ⟨ret_bool hd.symm, Below.refl _ _⟩
end Go.Proofs.YtgkmmlffnfpjaaaDoor
