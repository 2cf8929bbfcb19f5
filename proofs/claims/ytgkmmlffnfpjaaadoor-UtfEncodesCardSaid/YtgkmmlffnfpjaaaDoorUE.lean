import Derived.Test.YtgkmmlffnfpjaaaDoorUR1
namespace Go.Proofs.YtgkmmlffnfpjaaaDoor
open Go Go.RowKit

set_option maxHeartbeats 8000000 in
set_option maxRecDepth 100000 in
theorem encodes_walk {v : Value} {l : List Int} (w : World) (T : Tabs w) (hx : Rd encR 1 w w.heap.size v l) (hi32 : ∀ r ∈ l, -2147483648 ≤ r ∧ r ≤ 2147483647) : Calls Tryd.prog 3 #[v] w fun e w' => e = .returned (.bool true) ∧ Below w.heap.size w w' := by
  have hx' := hx
  obtain ⟨A, cap, rfl, h1, h2, -⟩ := hx
  unfold maxLen at h2
  have HI := Lib.hid hi32
  clear hi32
  by_cases hn : l.length ≤ 100
  · have hd : decide ((100 : Int) < l.length) = false := decide_eq_false (by omega)
    have he := encode_any w hx' (Nat.le_refl _) T (by omega)
    go_enter Tryd.func3, Tryd.ntmps3
    go_wp2_with fail
    refine he.mono ?_
    rintro e w1 ⟨hcase, hb1⟩
    have hz1 := hb1.size
    have hx1 := hx'.next hb1
    have T1 := T.below hb1
    clear he
    obtain ⟨ub, xb, ybs, rfl, hrb, hwhich⟩ : ∃ (ub : Value) (xb : Int) (ybs : List UInt8), e = .returned (.tuple #[ub, .int .i64 xb]) ∧ Rd encU 1 w1 w1.heap.size ub ybs ∧ Hid ((AllZ l ∧ xb = 0 ∧ ybs = encZ l) ∨ (¬ AllZ l ∧ xb = 10 ∧ ybs = [])) := by
      rcases hcase with ⟨ha, u, rfl, hown⟩ | ⟨ha, rfl⟩
      · have := encZ_le l
        exact ⟨u, 0, encZ l, rfl, hown.rd encU_len (by unfold maxLen; omega), Or.inl ⟨ha, rfl, rfl⟩⟩
      · exact ⟨_, 10, [], rfl, Rd.nil _ _ _ _, Or.inr ⟨ha, rfl, rfl⟩⟩
    clear hcase
    obtain ⟨Ab, capb, rfl⟩ : ∃ A cap, ub = .slice A ybs.length cap := by obtain ⟨A, cap, h, -⟩ := hrb; exact ⟨A, cap, h⟩
    go_wp2_with fail
    go_loopw [5, 6] (fun want i wr => ∃ (k : Nat), k ≤ l.length ∧ i = .int .i64 k ∧ Hid (AllZ (l.take k)) ∧ Own encU 1 5 wr w1.heap.size want (encZ (l.take k)) ∧ Below w1.heap.size w1 wr) (fun _ i _ => l.length - (intOf i).toNat)
    case atStart => exact ⟨0, Nat.zero_le _, rfl, fun r h => by simp at h, by rw [List.take_zero]; exact Own.nil _ _ _ _ _, Below.refl _ _⟩
    case round =>
      obtain ⟨k, hk, rfl, hall, hown, hbel⟩ := hrel
      have hsz := hbel.size
      have Tr := T1.below hbel
      by_cases hlt : k < l.length
      · obtain ⟨r, hr⟩ := get_lt hlt
        obtain ⟨b, off, rfl, hb, hc⟩ := (hx1.below hbel (Nat.le_refl _)).at_ hr
        have c1 : wr.cell? ⟨b, off + k, none⟩ = some (.int .i32 r) := by simpa using hc k _ hr 0 _ rfl
        have hts := take_snoc hr
        have hmem := List.mem_of_getElem? hr
        obtain ⟨hlo, hhi⟩ := HI.out r hmem
        have his := refis_any r wr
        clear hc hr
        cases hi : isB r
        · rw [hi] at his
          have hbad : ¬ AllZ l := fun h => by rw [h r hmem] at hi; cases hi
          rcases hwhich.out with ⟨h, -, -⟩ | ⟨-, rfl, rfl⟩
          · exact absurd h hbad
          · clear hts hmem hi hown hall hbad hwhich
            go_wp2_with fail
            refine his.mono ?_
            rintro e w3 ⟨rfl, hb3⟩
            have hb03 := (hb1.trans (hbel.mono hz1)).trans (hb3.mono (Nat.le_trans hz1 hsz))
            have T3 := Tr.below hb3
            clear his
            go_wp2_with fail
            refine (awake_any _ T3).mono ?_
            rintro e w4 ⟨rfl, hb4⟩
            go_wp2_with fail
            go_ret
            exact ⟨rfl, hb03.trans (hb4.mono hb03.size)⟩
        · rw [hi] at his
          obtain ⟨n, rfl⟩ := isB_toNat hi
          have hall2 : Hid (AllZ (l.take (k + 1))) := by
            intro x hx
            rw [hts] at hx
            rcases List.mem_append.1 hx with h' | h'
            · exact hall.out x h'
            · rw [List.mem_singleton] at h'; rw [h']; exact hi
          have henc : Hid (encZ (l.take (k + 1)) = encZ (l.take k) ++ bytesOf n) := by unfold Hid; rw [hts, encZ_snoc, Int.toNat_natCast]
          have hle := encZ_le (l.take k)
          have htl : (l.take k).length ≤ k := List.length_take_le _ _
          have hI := Lib.hid hi
          have hbl : (bytesOf n).length ≤ 4 := by rw [bytesOf_len]; exact (bytesN_len n).2
          clear hts hmem hall hi
          go_wp2_with fail
          refine his.mono ?_
          rintro e w3 ⟨rfl, hb3⟩
          clear his
          have hb13 := hbel.trans (hb3.mono hsz)
          have hby := refbytes_any w3 hI.out
          have c1' := Below.cell_some hb3 c1 (show b < wr.heap.size by omega)
          go_wp2_with fail
          refine hby.mono ?_
          rintro e w4 ⟨u4, rfl, hr4, hb4⟩
          clear hby
          have hown4 := (hown.below hb3).below hb4
          have hb14 := hb13.trans (hb4.mono hb13.size)
          clear hown
          go_wp2_with (at_builtin; refine wpList_append_rd _ (by rfl) _ _ _ (by rfl) encU encU_len encU_one T24 w1.heap.size _ _ (bytesOf n) (by rfl) hown4 _ (by rfl) hr4 (by omega) hb14.size ?_; intro v5 w5 hown5 hb5 hO5 hloc5)
          go_roundw
          case rel => exact ⟨k + 1, by omega, by go_num, hall2, by rw [henc.out]; exact hown5, hb14.trans hb5⟩
          case measure => simp [intOf]; omega
      · rw [take_len_le (by omega)] at hown hall
        rcases hwhich.out with ⟨-, rfl, rfl⟩ | ⟨h, -, -⟩
        · have hle := encZ_le l
          have hrw := hown.rd encU_len (by unfold maxLen; omega)
          have hrb' := hrb.next hbel
          have hth := bytes_any wr hrb' hrw (Nat.le_refl _)
          rw [decide_eq_true (rfl : encZ l = encZ l)] at hth
          obtain ⟨A5, cap5, hv5⟩ := hown.len_val
          have hb0r := hb1.trans (hbel.mono hz1)
          subst hv5
          clear hown hle hrw
          go_wp2_with fail
          refine hth.mono ?_
          rintro e w3 ⟨rfl, hb3⟩
          have T3 := Tr.below hb3
          have hb03 := hb0r.trans (hb3.mono hb0r.size)
          clear hth
          go_wp2_with fail
          refine (awake_any _ T3).mono ?_
          rintro e w4 ⟨rfl, hb4⟩
          go_wp2_with fail
          go_ret
          exact ⟨rfl, hb03.trans (hb4.mono hb03.size)⟩
        · exact absurd hall.out h
  · have hd : decide ((100 : Int) < l.length) = true := decide_eq_true (by omega)
    go_enter Tryd.func3, Tryd.ntmps3
    go_wp2_with fail
    refine (awake_any _ T).mono ?_
    rintro e w1 ⟨rfl, hb1⟩
    go_wp2_with fail
    go_ret
    exact ⟨rfl, hb1⟩
end Go.Proofs.YtgkmmlffnfpjaaaDoor
