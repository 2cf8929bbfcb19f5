import Derived.Test.YteiocnaneghggaaHW4
namespace Go.Proofs.Yteiocnaneghggaa.Hd
open Go Go.RowKit

/-- the value that container/heap holds -/
def ifT (h : Nat) : Value := .iface 115 (.pointer (some ⟨h, 0, none⟩))

theorem m_less (a : Option Addr) (W : World) : Sem.run Try.prog (method 248 115 (.pointer a) "Less") W = .ok (87, .pointer a) W := by kernel_rfl
theorem m_swap (a : Option Addr) (W : World) : Sem.run Try.prog (method 248 115 (.pointer a) "Swap") W = .ok (90, .pointer a) W := by kernel_rfl
theorem m_len (a : Option Addr) (W : World) : Sem.run Try.prog (method 248 115 (.pointer a) "Len") W = .ok (50, .pointer a) W := by kernel_rfl
theorem m_push (a : Option Addr) (W : World) : Sem.run Try.prog (method 248 115 (.pointer a) "Push") W = .ok (89, .pointer a) W := by kernel_rfl
theorem m_pop (a : Option Addr) (W : World) : Sem.run Try.prog (method 248 115 (.pointer a) "Pop") W = .ok (88, .pointer a) W := by kernel_rfl

set_option maxHeartbeats 4000000 in
set_option maxRecDepth 100000 in
theorem up_any (kk : Nat) (T : TO (ahead (cmpO kk))) {w : World} (hC : OrdC w kk) {h : Nat} {v : Value} (hvc : v.ownBlock ≠ some kk) {L : List It} (H : HI w h (ovT kk) v L) (hl : L.length ≤ 1000) {j : Nat} (hj : j < L.length) (hU : UpI (ahead (cmpO kk)) L j) : Calls Try.prog 46 #[ifT h, .int .i64 j] w fun e w' => (∃ u, e = .returned u) ∧ ∃ L', HI w' h (ovT kk) v L' ∧ L'.Perm L ∧ HeapI (ahead (cmpO kk)) L' L'.length ∧ Only (fun k => v.ownBlock = some k) w w' := by
  unfold ifT
  have ml := m_less (some ⟨h, 0, none⟩)
  have ms := m_swap (some ⟨h, 0, none⟩)
  go_enter Try.func46, Try.ntmps46
  go_wp2_with fail
  go_loopw [1, 4] (fun jv _ wr => ∃ (m : Nat) (L' : List It), jv = .int .i64 m ∧ m < L'.length ∧ HI wr h (ovT kk) v L' ∧ L'.Perm L ∧ UpI (ahead (cmpO kk)) L' m ∧ Only (fun k => v.ownBlock = some k) w wr) (fun jv _ _ => (intOf jv).toNat)
  case atStart => exact ⟨j, L, rfl, hj, H, List.Perm.refl _, hU, Only.refl _ _⟩
  case round =>
    obtain ⟨m, L', rfl, hm, H', hperm, hU', hO⟩ := hrel
    have HU := Lib.hid hU'
    have HP := Lib.hid hperm
    clear hU' hperm
    have hll : L'.length = L.length := HP.out.length_eq
    obtain ⟨x, hx⟩ := get_lt hm
    have HX := Lib.hid hx
    clear hx
    by_cases h0 : m = 0
    · subst h0
      have hfin := Lib.hid (up_done0 HU.out)
      go_wp2_with fail
      refine bodyPost_end (v := .tuple #[]) (by simp [results, Try.results46, go_sem]) rfl ?_
      exact ⟨⟨_, rfl⟩, L', H', HP.out, hfin.out, hO⟩
    · obtain ⟨q, hq⟩ : ∃ q : Nat, q = (m - 1) / 2 := ⟨_, rfl⟩
      have hqm : q < m := by omega
      have z0 : ((m : Int) - 1) / 2 = (q : Int) := by omega
      have z1 : ((q : Int) == (m : Int)) = false := by simp; omega
      obtain ⟨p, hp⟩ := get_lt (show q < L'.length by omega)
      have HQ := Lib.hid hq
      have HPP := Lib.hid hp
      clear hq hp
      go_wp2_with fail
      rw [z0]
      refine (less_any kk (hC.only hO hvc) H' HX.out HPP.out).mono ?_
      rintro e w1 ⟨rfl, hb1⟩
      have H1 := H'.below hb1
      have hO1 := hO.trans (Only.of_below hb1 (fun k => v.ownBlock = some k))
      cases hah : ahead (cmpO kk) x p
      · have hfin := Lib.hid (up_done HU.out HX.out (by rw [← HQ.out]; exact HPP.out) hah)
        go_wp2_with fail
        refine bodyPost_end (v := .tuple #[]) (by simp [results, Try.results46, go_sem]) rfl ?_
        exact ⟨⟨_, rfl⟩, L', H1, HP.out, hfin.out, hO1⟩
      · have hnext := Lib.hid (up_step T HU.out (by omega) HQ.out HX.out HPP.out hah)
        have hpm := Lib.hid ((swap_perm HPP.out HX.out).trans HP.out)
        have hlen : ((L'.set q x).set m p).length = L'.length := by simp
        go_wp2_with fail
        refine (swap_any H1 HPP.out HX.out).mono ?_
        rintro e w2 ⟨⟨u, rfl⟩, H2, hO2⟩
        have hO3 := hO1.trans hO2
        go_wp2_with fail
        go_roundw
        case rel => exact ⟨q, _, by go_num, by rw [hlen]; omega, H2, hpm.out, hnext.out, hO3⟩
        case measure => simp [intOf]; omega
end Go.Proofs.Yteiocnaneghggaa.Hd
