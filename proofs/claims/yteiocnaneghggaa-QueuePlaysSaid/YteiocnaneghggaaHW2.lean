import Derived.Test.YteiocnaneghggaaHW1
import Derived.Test.YteiocnaneghggaaQW9
import Derived.BigRegion
namespace Go.Proofs.Yteiocnaneghggaa.Hd
open Go Go.RowKit

/-- block h is a heap's own: its order ov, its slice v, which holds L -/
def HI (w : World) (h : Nat) (ov v : Value) (L : List It) : Prop :=
  w.heap[h]? = some (.cells #[v, ov] 118 (0, 0)) ∧ Own It.enc 5 122 w 0 v L ∧ v.ownBlock ≠ some h

theorem HI.c0 {w : World} {h : Nat} {ov v : Value} {L : List It} (H : HI w h ov v L) : w.cell? ⟨h, 0, none⟩ = some v := by rw [cell_of_row _ _ _ _ _ _ H.1]; rfl
theorem HI.c1 {w : World} {h : Nat} {ov v : Value} {L : List It} (H : HI w h ov v L) : w.cell? ⟨h, 1, none⟩ = some ov := by rw [cell_of_row _ _ _ _ _ _ H.1]; rfl
theorem HI.f0 {w : World} {h : Nat} {ov v : Value} {L : List It} (H : HI w h ov v L) : w.frozen? ⟨h, 0, none⟩ = false := frozen_of_row _ _ _ _ _ H.1
theorem HI.lt {w : World} {h : Nat} {ov v : Value} {L : List It} (H : HI w h ov v L) : h < w.heap.size := (Array.getElem?_eq_some_iff.1 H.1).1
theorem HI.val {w : World} {h : Nat} {ov v : Value} {L : List It} (H : HI w h ov v L) : ∃ A cap, v = .slice A L.length cap ∧ L.length ≤ cap ∧ cap ≤ maxLen := by
  rcases H.2.1.2 with ⟨rfl, hn⟩ | ⟨g, cap, cur, rfl, hb, hg, hnc, hcm, _⟩
  · exact ⟨none, 0, by rw [hn], by omega, by simp [maxLen]⟩
  · exact ⟨_, cap, rfl, hnc, hcm⟩
/-- a row that holds one or more: where it lies, and what its cells are -/
theorem HI.row {w : World} {h : Nat} {ov v : Value} {L : List It} (H : HI w h ov v L) (hL : 0 < L.length) : ∃ g cap, v = .slice (some ⟨g, 0, none⟩) L.length cap ∧ L.length ≤ cap ∧ cap ≤ maxLen ∧ g ≠ h ∧ g < w.heap.size ∧
    (∀ i x, L[i]? = some x → w.cell? ⟨g, i * 5, none⟩ = some (.int .i64 x.x.rank) ∧ w.cell? ⟨g, i * 5 + 1, none⟩ = some (.int .i64 x.x.id) ∧ w.cell? ⟨g, i * 5 + 2, none⟩ = some (.int .i64 x.x.list) ∧ w.cell? ⟨g, i * 5 + 3, none⟩ = some (.slice x.x.ra x.x.rn x.x.rc) ∧ w.cell? ⟨g, i * 5 + 4, none⟩ = some (.int .i64 x.no)) ∧ ∀ j, w.frozen? ⟨g, j, none⟩ = false := by
  have h0 := H.2.1
  rcases h0.2 with ⟨_, hn⟩ | ⟨g, cap, cur, rfl, hb, hg, hnc, hcm, hcs, htake⟩
  · omega
  · have hc : ∀ i x, L[i]? = some x → ∀ j u, (It.enc x)[j]? = some u → w.cell? ⟨g, i * 5 + j, none⟩ = some u := by
      intro i x hx j u hu
      have h1 := flatMap_get It.enc_len L i x hx j u hu
      have h2 := World.ownsRow.cells h0 (g := g) rfl (i * 5 + j) u h1
      simpa [Addr.add_lit] using h2
    refine ⟨g, cap, rfl, hnc, hcm, fun e => H.2.2 (by rw [e]; rfl), (Array.getElem?_eq_some_iff.1 hg).1, fun i x hx => ⟨hc i x hx 0 _ rfl, hc i x hx 1 _ rfl, hc i x hx 2 _ rfl, hc i x hx 3 _ rfl, hc i x hx 4 _ rfl⟩, fun j => frozen_of_row _ _ _ _ _ hg⟩

theorem HI.below {w w' : World} {h : Nat} {ov v : Value} {L : List It} (H : HI w h ov v L) (hb : Below w.heap.size w w') : HI w' h ov v L :=
  ⟨(hb.block h H.lt).trans H.1, H.2.1.below hb, H.2.2⟩

/-- one is ahead of another one -/
def ahead (cmp : Th → Th → Int) (a b : It) : Bool := decide (cmp a.x b.x < 0) || (decide (cmp a.x b.x = 0) && decide (a.no < b.no))

set_option maxHeartbeats 1000000 in
theorem len_any {w : World} {h : Nat} {ov v : Value} {L : List It} (H : HI w h ov v L) : Calls Try.prog 50 #[.pointer (some ⟨h, 0, none⟩)] w fun e w' => e = .returned (.int .i64 L.length) ∧ Below w.heap.size w w' := by
  obtain ⟨A, cap, rfl, h1, h2⟩ := H.val
  have c0 := H.c0
  unfold maxLen at h2
  go_enter Try.func50, Try.ntmps50
  go_wp2
  go_ret
  exact ⟨rfl, by ((repeat (first | exact Below.refl _ _ | assumption | refine Below.alloc ?_ (by first | omega | (simp; done) | (simp; omega)) _ | refine Below.setCell ?_ (by first | omega | (simp; done) | (simp; omega)) _ | refine Below.drew ?_ | refine below_drewN ?_ _)); done)⟩

set_option maxHeartbeats 4000000 in
theorem less_any (kk : Nat) {w : World} (hC : OrdC w kk) {h : Nat} {v : Value} {L : List It} (H : HI w h (ovT kk) v L) {i j : Nat} {a b : It} (hi : L[i]? = some a) (hj : L[j]? = some b) : Calls Try.prog 87 #[.pointer (some ⟨h, 0, none⟩), .int .i64 i, .int .i64 j] w fun e w' => e = .returned (.bool (ahead (cmpO kk) a b)) ∧ Below w.heap.size w w' := by
  have hil := (List.getElem?_eq_some_iff.1 hi).1
  have hjl := (List.getElem?_eq_some_iff.1 hj).1
  obtain ⟨g, cap, rfl, h1, h2, hgh, hgw, hc, -⟩ := H.row (by omega)
  have c0 := H.c0
  have c1 := H.c1
  have hlt := H.lt
  obtain ⟨a0, a1, a2, a3, a4⟩ := hc i a hi
  obtain ⟨b0, b1, b2, b3, b4⟩ := hc j b hj
  unfold maxLen at h2
  clear H hc
  unfold ovT at c1
  have C0 := Ext.cell c0 hlt
  have C1 := Ext.cell c1 hlt
  have A0 := Ext.cell a0 hgw
  have A1 := Ext.cell a1 hgw
  have A2 := Ext.cell a2 hgw
  have A3 := Ext.cell a3 hgw
  have B0 := Ext.cell b0 hgw
  have B1 := Ext.cell b1 hgw
  have B2 := Ext.cell b2 hgw
  have B3 := Ext.cell b3 hgw
  unfold ahead
  obtain ⟨n, hn⟩ : ∃ n, n = cmpO kk a.x b.x := ⟨_, rfl⟩
  rw [← hn]
  have hord := fun (w' : World) (hb : Below w.heap.size w w') => order_any a.x b.x w' (hC.below hb)
  rw [← hn] at hord
  clear hn
  go_enter Try.func87, Try.ntmps87
  go_wp2_with fail
  (refine wp_region_ext (w.heap.size) (by kernel_rfl) (by kernel_rfl) ?_; (repeat (go_big_quiet_step ((go_at_call 40; exact Calls.ext_of (Nat.le_refl _) (hord _ (Ext.below _)))))); refine wpQuiet_nil ?_; intro wq hw1; obtain ⟨u0, hw2⟩ := hw1; have hwq := u0.below; rw [← hw2] at hwq; clear hw2 u0)
  have a0' := Below.cell_some hwq a0 hgw
  have a4' := Below.cell_some hwq a4 hgw
  have b4' := Below.cell_some hwq b4 hgw
  have c0' := Below.cell_some hwq c0 hlt
  go_wp2_with fail
  by_cases h1 : n < 0
  · have hd : decide (n < 0) = true := decide_eq_true h1
    clear C0 C1 A0 A1 A2 A3 B0 B1 B2 B3
    go_quiet (fail)
    go_wp2_with fail
    go_ret
    exact ⟨ret_bool (by first | (simp; done) | (simp; omega) | (simp_all; done) | (simp_all; omega)), below_drewN hwq _⟩
  · by_cases h2 : n = 0
    · subst h2
      clear C0 C1 A0 A1 A2 A3 B0 B1 B2 B3
      by_cases h3 : a.no < b.no
      · have hd : decide (a.no < b.no) = true := decide_eq_true h3
        go_quiet (fail)
        go_wp2_with fail
        go_ret
        exact ⟨ret_bool (by first | (simp; done) | (simp; omega) | (simp_all; done) | (simp_all; omega)), below_drewN hwq _⟩
      · have hd : decide (a.no < b.no) = false := decide_eq_false h3
        go_quiet (fail)
        go_wp2_with fail
        go_ret
        exact ⟨ret_bool (by first | (simp; done) | (simp; omega) | (simp_all; done) | (simp_all; omega)), below_drewN hwq _⟩
    · have hd : decide (n < 0) = false := decide_eq_false h1
      have he : (n == 0) = false := by simp [h2]
      clear C0 C1 A0 A1 A2 A3 B0 B1 B2 B3
      go_quiet (fail)
      go_wp2_with fail
      go_ret
      exact ⟨ret_bool (by first | (simp; done) | (simp; omega) | (simp_all; done) | (simp_all; omega)), below_drewN hwq _⟩


/-- the heap's own block gets another slice -/
theorem HI.re {w : World} {h : Nat} {ov v v' : Value} {L' : List It} (hg : w.heap[h]? = some (.cells #[v, ov] 118 (0, 0))) (ho : Own It.enc 5 122 w 0 v' L') (hn : v'.ownBlock ≠ some h) : HI (w.setCell ⟨h, 0, none⟩ v') h ov v' L' := by
  refine ⟨heap_setCell_same w h 0 #[v, ov] 118 v' hg, ho.kept (only_setCell w h 0 v') (fun k hk e => hn (by rw [hk, e])), hn⟩
/-- the last one of a row is let go -/
theorem own_pop {w : World} {L : List It} {x : It} {A : Option Addr} {cap : Nat} (h : Own It.enc 5 122 w 0 (.slice A (L ++ [x]).length cap) (L ++ [x])) : Own It.enc 5 122 w 0 (.slice A L.length cap) L := by
  have hl : ∀ l : List It, (l.flatMap It.enc).length = l.length * 5 := by
    intro l
    induction l with
    | nil => rfl
    | cons y ys ih => simp [List.flatMap_cons, It.enc_len, ih]; omega
  rcases h.2 with ⟨_, hn⟩ | ⟨g, cap', cur, hv, hb, hg, hnc, hcm, hcs, htake⟩
  · simp at hn
  · simp only [Value.slice.injEq, true_and] at hv
    obtain ⟨rfl, rfl⟩ := hv
    refine ⟨hl L, .inr ⟨g, cap, cur, rfl, hb, hg, by simp at hnc; omega, hcm, hcs, ?_⟩⟩
    have h1 : (cur.toList.take ((L ++ [x]).length * 5)).take (L.length * 5) = ((L ++ [x]).flatMap It.enc).take (L.length * 5) := by rw [htake]
    rw [List.take_take, Nat.min_eq_left (by simp; omega)] at h1
    rw [h1, List.flatMap_append, List.take_append_of_le_length (by rw [hl]; omega), List.take_of_length_le (by rw [hl]; omega)]

set_option maxHeartbeats 4000000 in
theorem pop_any {w : World} {h : Nat} {ov v : Value} {L : List It} {x : It} (H : HI w h ov v (L ++ [x])) : Calls Try.prog 88 #[.pointer (some ⟨h, 0, none⟩)] w fun e w' => e = .returned (.iface 122 (.agg #[.int .i64 x.x.rank, .int .i64 x.x.id, .int .i64 x.x.list, .slice x.x.ra x.x.rn x.x.rc, .int .i64 x.no])) ∧ ∃ v', HI w' h ov v' L ∧ v'.ownBlock = v.ownBlock ∧ Only (fun k => k = h) w w' := by
  have hx : (L ++ [x])[L.length]? = some x := by simp
  obtain ⟨g, cap, rfl, h1, h2, hgh, hgw, hc, -⟩ := H.row (by simp)
  have hlen : (L ++ [x]).length = L.length + 1 := by simp
  have c0 := H.c0
  have f0 := H.f0
  have hlt := H.lt
  obtain ⟨a0, a1, a2, a3, a4⟩ := hc _ x hx
  unfold maxLen at h2
  rw [hlen] at c0 h1
  clear hc
  go_enter Try.func88, Try.ntmps88
  go_wp2_with fail
  go_ret
  have H1 := HI.re H.1 (own_pop H.2.1) (fun e => H.2.2 e)
  exact ⟨rfl, _, H1.below (by ((repeat (first | exact Below.refl _ _ | assumption | refine Below.alloc ?_ (by first | omega | (simp; done) | (simp; omega)) _ | refine Below.setCell ?_ (by first | omega | (simp; done) | (simp; omega)) _ | refine Below.drew ?_ | refine below_drewN ?_ _)); done)), rfl, Only.trans (only_setCell _ _ _ _) (only_alloc _ _ _)⟩

end Go.Proofs.Yteiocnaneghggaa.Hd
