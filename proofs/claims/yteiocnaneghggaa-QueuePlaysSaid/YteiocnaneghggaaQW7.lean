import Derived.Test.YteiocnaneghggaaQW6
namespace Go.Proofs.Yteiocnaneghggaa
open Go Go.RowKit

theorem Only.trans2 {S T : Nat → Prop} {a b c : World} (h : Only S a b) (k : Only T b c) (hs : ∀ i, i < a.heap.size → T i → S i) : Only S a c :=
  ⟨k.os.trans h.os, k.tape.trans h.tape, k.output.trans h.output, Nat.le_trans h.size k.size, fun i hi hn => (k.block i (Nat.lt_of_lt_of_le hi h.size) (fun ht => hn (hs i hi ht))).trans (h.block i hi hn)⟩

def It.val (x : It) : Value := .agg #[.int .i64 x.x.rank, .int .i64 x.x.id, .int .i64 x.no]

set_option maxHeartbeats 4000000 in
set_option maxRecDepth 100000 in
theorem hpush_any (kk : Bool) (T : TO (ahead (cmpO kk))) {w : World} {h : Nat} {v : Value} {L : List It} (x : It) (H : HI w h (ovT kk) v L) (hl : L.length ≤ 900) (hH : HeapI (ahead (cmpO kk)) L L.length) : Calls Try.prog 35 #[ifT h, .iface 64 x.val] w fun e w' => (∃ u, e = .returned u) ∧ ∃ v' L', HI w' h (ovT kk) v' L' ∧ L'.Perm (L ++ [x]) ∧ HeapI (ahead (cmpO kk)) L' L'.length ∧ (v'.ownBlock = v.ownBlock ∨ ∃ k, v'.ownBlock = some k ∧ w.heap.size ≤ k) ∧ Only (fun k => k = h ∨ v.ownBlock = some k) w w' := by
  unfold ifT It.val
  have ml := m_len (some ⟨h, 0, none⟩)
  have mp := m_push (some ⟨h, 0, none⟩)
  go_enter Try.func35, Try.ntmps35
  go_wp2_with fail
  refine (push_any x H (by omega)).mono ?_
  rintro e w1 ⟨⟨u, rfl⟩, v1, H1, hloc, hO1⟩
  go_wp2_with fail
  refine (len_any H1).mono ?_
  rintro e w2 ⟨rfl, hb2⟩
  have H2 := H1.below hb2
  have hlen : (L ++ [x]).length = L.length + 1 := by simp
  rw [hlen]
  go_wp2_with fail
  have hu := up_any kk T H2 (by omega) (j := L.length) (by omega) (up_start hH)
  unfold ifT at hu
  refine hu.mono ?_
  rintro e w3 ⟨⟨u3, rfl⟩, L', H3, hp3, hh3, hO3⟩
  have hOf : Only (fun k => k = h ∨ v.ownBlock = some k) w w3 := by
    refine (hO1.trans (Only.of_below hb2 _)).trans2 hO3 (fun k hk e => ?_)
    rcases hloc with h1 | ⟨i, h1, h2⟩
    · exact Or.inr (h1 ▸ e)
    · rw [h1] at e; cases e; omega
  go_wp2_with fail
  refine bodyPost_end (v := .tuple #[]) (by simp [results, Try.results35, go_sem]) rfl ?_
  exact ⟨⟨_, rfl⟩, v1, L', H3, hp3, hh3, hloc, hOf⟩

set_option maxHeartbeats 4000000 in
set_option maxRecDepth 100000 in
theorem hpop_any (kk : Bool) (T : TO (ahead (cmpO kk))) {w : World} {h : Nat} {v : Value} {L : List It} {m : It} (H : HI w h (ovT kk) v L) (hl : L.length ≤ 900) (hH : HeapI (ahead (cmpO kk)) L L.length) (hm : L[0]? = some m) : Calls Try.prog 26 #[ifT h] w fun e w' => (∃ u, e = .returned u) ∧ ∃ v' L', HI w' h (ovT kk) v' L' ∧ (L' ++ [m]).Perm L ∧ HeapI (ahead (cmpO kk)) L' L'.length ∧ v'.ownBlock = v.ownBlock ∧ Only (fun k => k = h ∨ v.ownBlock = some k) w w' := by
  unfold ifT
  have ml := m_len (some ⟨h, 0, none⟩)
  have ms := m_swap (some ⟨h, 0, none⟩)
  have mp := m_pop (some ⟨h, 0, none⟩)
  have hpos : 0 < L.length := (List.getElem?_eq_some_iff.1 hm).1
  obtain ⟨n, hn⟩ : ∃ n : Nat, L.length = n + 1 := ⟨L.length - 1, by omega⟩
  obtain ⟨z, hz⟩ := get_lt (show n < L.length by omega)
  have HM := Lib.hid hm
  have HZ := Lib.hid hz
  clear hm hz
  go_enter Try.func26, Try.ntmps26
  go_wp2_with fail
  refine (len_any H).mono ?_
  rintro e w1 ⟨rfl, hb1⟩
  have H1 := H.below hb1
  rw [hn]
  go_wp2_with fail
  refine (swap_any (i := 0) H1 HM.out HZ.out).mono ?_
  rintro e w2 ⟨⟨u2, rfl⟩, H2, hO2⟩
  have hD := down_start (L := L) (n := n) (by rw [← hn]; exact hH) HM.out HZ.out
  go_wp2_with fail
  have hd := down_any kk T H2 (by simp; omega) (n := n) (by simp; omega) hD
  unfold ifT at hd
  refine hd.mono ?_
  rintro e w3 ⟨⟨u3, rfl⟩, L3, H3, hp3, ht3, hh3, hO3⟩
  have hl3 : L3.length = n + 1 := by rw [hp3.length_eq]; simp [hn]
  have hlast : L3[n]? = some m := by rw [ht3 n (Nat.le_refl _), swap_get HM.out HZ.out, if_pos rfl]
  have hsplit : L3 = L3.take n ++ [m] := by
    rw [← take_snoc hlast, take_len_le (by omega)]
  have H3' : HI w3 h (ovT kk) v (L3.take n ++ [m]) := by rw [← hsplit]; exact H3
  have hf1 : Hid ((L3.take n ++ [m]).Perm L) := by
    unfold Hid
    rw [← hsplit]
    exact hp3.trans (swap_perm HM.out HZ.out)
  have hf2 : Hid (HeapI (ahead (cmpO kk)) (L3.take n) (L3.take n).length) := by
    unfold Hid
    have : (L3.take n).length = n := by rw [List.length_take]; omega
    rw [this]
    intro k x p hk hkn hx hp
    rw [List.getElem?_take, if_pos (by omega)] at hx hp
    exact hh3 k x p hk hkn hx hp
  clear hsplit hlast ht3 hh3
  have hO13 := Lib.hid ((Only.of_below hb1 (fun k => v.ownBlock = some k)).trans (hO2.trans hO3))
  go_wp2_with fail
  refine (pop_any H3').mono ?_
  rintro e w4 ⟨rfl, v4, H4, hv4, hO4⟩
  have hOf : Only (fun k => k = h ∨ v.ownBlock = some k) w w4 := (hO13.out.mono (fun k _ hk => Or.inr hk)).trans (hO4.mono (fun k _ hk => Or.inl hk))
  go_wp2_with fail
  go_ret
  exact ⟨⟨_, rfl⟩, v4, _, H4, hf1.out, hf2.out, hv4, hOf⟩
end Go.Proofs.Yteiocnaneghggaa
