import Derived.Test.YteiocnaneghggaaQA
namespace Go.Proofs.Yteiocnaneghggaa
open Go Go.RowKit

theorem Th.enc_one (t : Th) : ∀ u ∈ Th.enc t, u.oneCell' = true := by simp [Th.enc, Value.oneCell']
theorem T41 : SliceT Try.prog 41 24 2 16 := SliceT.mk_ (z := .agg #[.int .i64 0, .int .i64 0]) Try.underlying41 (by kernel_rfl) rfl (by omega) (by omega)
def encI (i : Int) : List Value := [.int .i64 i]
theorem encI_len (i : Int) : (encI i).length = 1 := rfl
theorem encI_one (i : Int) : ∀ u ∈ encI i, u.oneCell' = true := by simp [encI, Value.oneCell']

set_option maxHeartbeats 4000000 in
theorem things_any {B : Nat} {v v' : Value} {xs ys : List Th} (w : World) (hx : Rd Th.enc 2 w B v xs) (hy : Rd Th.enc 2 w B v' ys) (hB : B ≤ w.heap.size) :
   Calls Try.prog 24 #[v, v'] w fun e w' => e = .returned (.bool (decide (xs = ys))) ∧ Below w.heap.size w w' := by
  have hx' := hx
  have hy' := hy
  obtain ⟨A, cap, rfl, h1, h2, -⟩ := hx
  obtain ⟨A', cap', rfl, h1', h2', -⟩ := hy
  unfold maxLen at h2 h2'
  by_cases hl : xs.length = ys.length
  · have e0 : ((xs.length : Int) != (ys.length : Int)) = false := by simp [hl]
    go_enter Try.func24, Try.ntmps24
    go_wp2_with fail
    go_loopw [5] (fun i wr => ∃ k : Nat, k ≤ xs.length ∧ i = .int .i64 k ∧ Hid (xs.take k = ys.take k) ∧ Below w.heap.size w wr) (fun i _ => xs.length - (intOf i).toNat)
    case atStart => exact ⟨0, Nat.zero_le _, rfl, by simp [Hid], Below.refl _ _⟩
    case round =>
      obtain ⟨k, hk, rfl, hno, hbel⟩ := hrel
      by_cases hlt : k < xs.length
      · obtain ⟨X, hX⟩ := get_lt hlt
        obtain ⟨Y, hY⟩ := get_lt (show k < ys.length by omega)
        obtain ⟨b, off, rfl, hb, hc⟩ := (hx'.below hbel hB).at_ hX
        obtain ⟨b', off', rfl, hb', hc'⟩ := (hy'.below hbel hB).at_ hY
        have c1 : wr.cell? ⟨b, off + k * 2, none⟩ = some (.int .i64 X.rank) := hc k _ hX 0 _ rfl
        have c2 : wr.cell? ⟨b, off + k * 2 + 1, none⟩ = some (.int .i64 X.id) := hc k _ hX 1 _ rfl
        have c3 : wr.cell? ⟨b', off' + k * 2, none⟩ = some (.int .i64 Y.rank) := hc' k _ hY 0 _ rfl
        have c4 : wr.cell? ⟨b', off' + k * 2 + 1, none⟩ = some (.int .i64 Y.id) := hc' k _ hY 1 _ rfl
        have HX := Lib.hid hX
        have HY := Lib.hid hY
        clear hc hc' hX hY
        by_cases hxy : X = Y
        · have hn := take_same_snoc hno.out HX.out HY.out hxy
          have HN := Lib.hid hn
          subst hxy
          clear hn
          go_wp2_with fail
          go_region
          go_wp2_with fail
          go_roundw
          case rel => exact ⟨k + 1, by omega, by go_num, HN, below_drewN hbel 1⟩
          case measure => simp [intOf]; omega
        · by_cases hr : X.rank = Y.rank
          · have hi : ¬ X.id = Y.id := fun e => hxy (by cases X; cases Y; simp at hr e; simp [hr, e])
            have hne : decide (xs = ys) = false := decide_eq_false (fun e => by have := HX.out; rw [e, HY.out] at this; cases this; exact hxy rfl)
            have HN := Lib.hid hne
            clear hne
            go_wp2_with fail
            go_region
            go_wp2_with fail
            go_ret
            exact ⟨ret_bool HN.out.symm, below_drewN hbel 1⟩
          · have hne : decide (xs = ys) = false := decide_eq_false (fun e => by have := HX.out; rw [e, HY.out] at this; cases this; exact hxy rfl)
            have HN := Lib.hid hne
            clear hne
            go_wp2_with fail
            go_region
            go_wp2_with fail
            go_ret
            exact ⟨ret_bool HN.out.symm, below_drewN hbel 1⟩
      · have hd : decide (xs = ys) = true := decide_eq_true (by have := hno.out; rwa [take_len_le (by omega), take_len_le (by omega)] at this)
        have HD := Lib.hid hd
        clear hd
        go_wp2_with fail
        go_ret
        exact ⟨ret_bool HD.out.symm, hbel⟩
  · have e0 : ((xs.length : Int) != (ys.length : Int)) = true := by simp; omega
    have hd : decide (xs = ys) = false := decide_eq_false (fun e => hl (by rw [e]))
    go_enter Try.func24, Try.ntmps24
    go_wp2_with fail
    go_ret
    exact ⟨ret_bool hd.symm, Below.refl _ _⟩
end Go.Proofs.Yteiocnaneghggaa
