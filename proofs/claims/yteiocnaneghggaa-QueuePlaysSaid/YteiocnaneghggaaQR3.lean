import Derived.Test.YteiocnaneghggaaQR2
import Derived.IntWalk
namespace Go.Proofs.Yteiocnaneghggaa
open Go Go.RowKit

set_option maxHeartbeats 4000000 in
theorem out_any {B : Nat} {v : Value} {xs : List Th} (w : World) (hx : Rd Th.enc 2 w B v xs) (hB : B ≤ w.heap.size) (hl : xs.length ≤ 100000) {k : Nat} (hk : k < xs.length) :
   Calls Try.prog 20 #[v, .int .i64 k] w fun e w' => ∃ u, e = .returned u ∧ Rd Th.enc 2 w' w'.heap.size u (xs.eraseIdx k) ∧ Below w.heap.size w w' := by
  have hx' := hx
  obtain ⟨X, hX⟩ := get_lt hk
  obtain ⟨A, cap, rfl, h1, h2, -⟩ := hx
  obtain ⟨b, off, rfl, hb, -⟩ := hx'.at_ hX
  have ht := hx'.take (k := k) (by omega)
  have hd := hx'.drop (k := k + 1) (by omega) h1
  have s1 := slice_to (some ⟨b, off, none⟩) xs.length k cap (by omega)
  have s2 := slice_from b off xs.length (k + 1) cap (by omega) h1
  have he : Hid (xs.take k ++ xs.drop (k + 1) = xs.eraseIdx k) := by unfold Hid; rw [List.eraseIdx_eq_take_drop_succ]
  have hlt : (xs.take k).length ≤ 100000 := by rw [List.length_take]; omega
  have hld : (xs.drop (k + 1)).length ≤ 100000 := by rw [List.length_drop]; omega
  have hle : (xs.take k ++ xs.drop (k + 1)).length ≤ 200000 := by rw [List.length_append]; omega
  unfold maxLen at h2
  have S1 := s1 w
  clear s1
  rw [show ((k + 1 : Nat) : Int) = (k : Int) + 1 by omega] at s2
  generalize hsv : (if cap = k + 1 then some (⟨b, off, none⟩ : Addr) else some ⟨b, off + (k + 1) * 2, none⟩) = sA at s2 hd
  clear hsv
  go_enter Try.func20, Try.ntmps20
  go_wp2_with (first | (at_builtin; refine wpList_append_rd _ (by rfl) _ _ _ (by rfl) Th.enc Th.enc_len Th.enc_one T41 w.heap.size _ [] (xs.take k) (by rfl) (Own.nil _ _ _ _ _) _ (by rfl) ht (by simp; omega) (Nat.le_refl _) ?_; intro v1 w1 hown1 hb1 hO1 hloc1; have S2 := s2 w1) | (at_builtin; refine wpList_append_rd _ (by rfl) _ _ _ (by rfl) Th.enc Th.enc_len Th.enc_one T41 w.heap.size _ (xs.take k) (xs.drop (k + 1)) (by rfl) hown1 _ (by rfl) (hd.below hb1 hB) (by omega) (Nat.le_trans (Nat.le_refl _) hb1.size) ?_; intro v2 w2 hown2 hb2 hO2 hloc2))
  go_ret
  exact ⟨_, rfl, by rw [← he.out]; exact hown2.rd Th.enc_len (by simp only [maxLen]; omega), hb1.trans hb2⟩

set_option maxHeartbeats 4000000 in
theorem sorted_any {B : Nat} {v : Value} {xs : List Th} (w : World) (hx : Rd Th.enc 2 w B v xs) (hB : B ≤ w.heap.size) (hl : xs.length ≤ 100000) :
   Calls Try.prog 38 #[v, .func (.func 17) #[] #[]] w fun e w' => e = .returned (.bool (risesB xs)) ∧ Below w.heap.size w w' := by
  have hx' := hx
  obtain ⟨A, cap, rfl, h1, h2, -⟩ := hx
  unfold maxLen at h2
  go_enter Try.func38, Try.ntmps38
  go_wp2_with fail
  go_loopw [5] (fun i wr => ∃ k : Nat, k ≤ xs.length ∧ i = .int .i64 ((k : Int) - 1) ∧ Hid (∀ (i : Nat) (x y : Th), k ≤ i + 1 → xs[i]? = some x → xs[i + 1]? = some y → x.rank ≤ y.rank) ∧ Below w.heap.size w wr) (fun i _ => (intOf i).toNat)
  case atStart => exact ⟨xs.length, Nat.le_refl _, by go_num, fun i x y h hx hy => by have := (List.getElem?_eq_some_iff.1 hy).1; omega, Below.refl _ _⟩
  case round =>
    obtain ⟨k, hk, rfl, hno, hbel⟩ := hrel
    by_cases hlt : 2 ≤ k
    · obtain ⟨j, hj⟩ : ∃ j, j = k - 2 := ⟨_, rfl⟩
      obtain ⟨m, hm⟩ : ∃ m, m = k - 1 := ⟨_, rfl⟩
      obtain ⟨X, hX⟩ := get_lt (show m < xs.length by omega)
      obtain ⟨Y, hY⟩ := get_lt (show j < xs.length by omega)
      obtain ⟨b, off, rfl, hb, hc⟩ := (hx'.below hbel hB).at_ hX
      have c1 : wr.cell? ⟨b, off + m * 2, none⟩ = some (.int .i64 X.rank) := hc _ _ hX 0 _ rfl
      have c1' : wr.cell? ⟨b, off + m * 2 + 1, none⟩ = some (.int .i64 X.id) := hc _ _ hX 1 _ rfl
      have c2 : wr.cell? ⟨b, off + j * 2, none⟩ = some (.int .i64 Y.rank) := hc _ _ hY 0 _ rfl
      have c2' : wr.cell? ⟨b, off + j * 2 + 1, none⟩ = some (.int .i64 Y.id) := hc _ _ hY 1 _ rfl
      have hmj : m = j + 1 := by omega
      have HX := Lib.hid hX
      have HY := Lib.hid hY
      have hnext : ¬ X.rank < Y.rank → Hid (∀ (i : Nat) (x y : Th), m ≤ i + 1 → xs[i]? = some x → xs[i + 1]? = some y → x.rank ≤ y.rank) := by
        intro hr i x y hi hx1 hy1
        by_cases e : i = j
        · subst e
          rw [HY.out] at hx1; rw [← hmj, HX.out] at hy1
          cases hx1; cases hy1; omega
        · exact hno.out i x y (by omega) hx1 hy1
      have hbad : X.rank < Y.rank → Hid (risesB xs = false) := fun hr => risesB_false.2 (fun h => by have := h j Y X HY.out (by rw [← hmj]; exact HX.out); omega)
      clear hc hX hY
      have hbw : b < wr.heap.size := Nat.lt_of_lt_of_le hb (Nat.le_trans hB hbel.size)
      have C1 := Ext.cell c1 hbw
      have C1' := Ext.cell c1' hbw
      have C2 := Ext.cell c2 hbw
      have C2' := Ext.cell c2' hbw
      have z0 : (k : Int) - 1 = (m : Int) := by omega
      rw [z0]
      have hsz := hbel.size
      have hord := order_any X Y
      have hm0 : 0 < (m : Int) := by omega
      have hml : m < xs.length := by omega
      have hjl : j < xs.length := by omega
      have hjn : (0 : Int) ≤ (j : Int) := by omega
      have HK := Lib.hid (show m < k by omega)
      have HKm := Lib.hid (show k = m + 1 by omega)
      have zs : IntKind.i64.wrap ((m : Int) - 1) = (j : Int) := by rw [show (m : Int) - 1 = (j : Int) by omega]; exact IntWalk.i64_in _ (by omega)
      have HZ := Lib.hid zs
      clear hj hm hmj z0 hlt hk zs hno
      by_cases hr : X.rank < Y.rank
      · have hn : cmpT X Y = -1 := by unfold cmpT; rw [if_pos hr]
        have HB := hbad hr
        rw [hn] at hord
        clear hn hnext hbad hr
        go_wp2_with fail
        have zs := HZ.out
        (refine wp_region_ext (wr.heap.size) (by kernel_rfl) (by kernel_rfl) ?_; (repeat (go_big_quiet_step ((go_at_call 17; exact Calls.ext_of (Nat.le_refl _) (hord _))))); refine wpQuiet_nil ?_; intro wq hw1; obtain ⟨u0, hw2⟩ := hw1; have hwq := u0.below; rw [← hw2] at hwq; clear hw2 u0)
        clear zs
        go_wp2_with fail
        go_ret
        exact ⟨ret_bool HB.out.symm, hbel.trans (hwq.mono hsz)⟩
      · have HN := hnext hr
        have hn : cmpT X Y = 0 ∨ cmpT X Y = 1 := by unfold cmpT; rw [if_neg hr]; split <;> simp
        clear hnext hbad hr
        rcases hn with hn | hn
        all_goals
          rw [hn] at hord
          clear hn
          go_wp2_with fail
          have zs := HZ.out
          (refine wp_region_ext (wr.heap.size) (by kernel_rfl) (by kernel_rfl) ?_; (repeat (go_big_quiet_step ((go_at_call 17; exact Calls.ext_of (Nat.le_refl _) (hord _))))); refine wpQuiet_nil ?_; intro wq hw1; obtain ⟨u0, hw2⟩ := hw1; have hwq := u0.below; rw [← hw2] at hwq; clear hw2 u0)
          clear zs
          go_wp2_with fail
          go_roundw
          case rel => exact ⟨m, by omega, by go_num, HN, hbel.trans (hwq.mono hsz)⟩
          case measure => simp [intOf]; omega
    · have hd : Hid (risesB xs = true) := risesB_true.2 (fun i x y hx1 hy1 => hno.out i x y (by omega) hx1 hy1)
      go_wp2_with fail
      go_ret
      exact ⟨ret_bool hd.out.symm, hbel⟩
end Go.Proofs.Yteiocnaneghggaa
