import Derived.Test.YtgkmmlffnfpjaaaDoorUI1
namespace Go.Proofs.YtgkmmlffnfpjaaaDoor
open Go Go.RowKit

attribute [local go_sem] Oper.semAt_some

theorem grown_of_below {w w' : World} (h : Below w.heap.size w w') : w.grownBy w' none := ⟨h.os, h.tape, h.output, h.size, fun k hk _ => h.block k hk⟩

set_option maxRecDepth 100000 in
set_option maxHeartbeats 8000000 in
/-- the closure of utf.All: the characters that stand, with their places, one by one -/
theorem iter_in (m : Nat) (hm : 1 ≤ m) (l Bs n₀ : Nat) {v : Value} {bs : List UInt8} {cs : List Nat} {rest : List UInt8} (hT : Told bs cs rest) (hS : Stuck rest) (J Jx : List Pr → World → Prop) (hbl : bs.length ≤ 100000)
    (W : World) (hJ : AbidesFrom W.heap.size J)
    (hY : ∀ pre x W1, J pre W1 → pre.length < cs.length → YieldAt Fence.wide (m - 1) Tryd.prog l (encPr x) W1 fun e W' =>
      (e = .returned (.bool true) ∧ J (pre ++ [x]) W' ∧ Below n₀ W1 W') ∨ (e = .returned (.bool false) ∧ Jx (pre ++ [x]) W'))
    (hBs : W.cell? ⟨Bs, 0, none⟩ = some v) (hBn : Bs < n₀) (hR : Rd encU 1 W n₀ v bs) (T : Tabs W) (h2 : 2 < n₀) (hn : n₀ ≤ W.heap.size) (h0 : J [] W) :
    CallsIn Fence.wide m Tryd.prog 20 #[.func (.yield l) #[] #[], .pointer (some ⟨Bs, 0, none⟩)] W fun e W' => (∃ v, e = .returned v) ∧
      ((∃ ys, ys = pl 0 cs ∧ J ys W') ∨ (∃ pre, pre <+: pl 0 cs ∧ Jx pre W')) := by
  have hR' := hR
  obtain ⟨A, cap, rfl, q1, q2, -⟩ := hR
  unfold maxLen at q2
  refine callsIn_of_wp Tryd.func20 rfl trivial ?_ rfl
  simp only [Tryd.ntmps20, List.size_toArray, List.length_cons, List.length_nil, Nat.reduceAdd, Nat.reduceSub, Array.replicate_succ, Array.replicate_zero, List.push_toArray, List.append_toArray, List.nil_append, List.cons_append]
  gi_wp2
  gi_loopw [3, 4, 5, 6] (fun at_ _ _ _ wr => ∃ (n : Nat) (ds : List Nat) (p : List UInt8), n = (encB ds).length ∧ at_ = .int .i64 n ∧ Hid (Told bs ds p) ∧ Hid (ds <+: cs) ∧ Hid (J (pl 0 ds) wr) ∧ Below n₀ W wr) (fun at_ _ _ _ _ => bs.length - (intOf at_).toNat)
  case atStart => exact ⟨0, [], bs, rfl, rfl, Told.start bs, ⟨cs, rfl⟩, h0, Below.refl _ _⟩
  case round =>
    obtain ⟨n, ds, p, hnn, rfl, hD, hpre, hJs, hbel⟩ := hrel
    have hlen := hD.out.len
    have hBr : wr.cell? ⟨Bs, 0, none⟩ = some (.slice A bs.length cap) := Below.cell_some hbel hBs hBn
    have hsz := hbel.size
    have Tr := T.keep hbel h2
    have hrx := hR'.below hbel (Nat.le_refl _)
    by_cases hr : p = []
    · subst hr
      have hge : ¬ n < bs.length := by simp at hlen; omega
      have hcs : ds = cs := (Told.one hD.out hT (Or.inl rfl) hS).1
      have HN := Lib.hid hnn
      have HCS := Lib.hid hcs
      clear hnn hlen hcs
      gi_wp2
      go_end0
      exact ⟨⟨_, rfl⟩, .inl ⟨_, rfl, by rw [← HCS.out]; exact hJs.out⟩⟩
    · have hl0 : 0 < p.length := List.length_pos_iff.2 hr
      have hlt : n < bs.length := by omega
      have hdrop := hD.out.rest
      rw [← hnn] at hdrop
      cases hc : chr p with
      | none =>
        have hcs : ds = cs := (Told.one hD.out hT (Or.inr hc) hS).1
        have hdn := decode_none wr hrx (Nat.le_trans hn hsz) Tr hlt (by rw [hdrop]; exact hc)
        have HN := Lib.hid hnn
        have HCS := Lib.hid hcs
        clear hnn hlen hdrop hc hcs
        gi_wp2_with (refine ⟨trivial, ?_⟩; gi_at_call 16; refine (callsIn_wide.2 hdn).mono ?_; rintro e w1 ⟨rfl, hb1⟩)
        refine ⟨fun _ h => (by cases h), ?_⟩
        gi_wp2
        refine bodyPost_ret (results_none rfl _ _ _) rfl ?_
        exact ⟨⟨_, rfl⟩, .inl ⟨_, rfl, by rw [← HCS.out]; exact hJ _ wr w1 none hJs.out (grown_of_below hb1) (fun r e => by cases e)⟩⟩
      | some x =>
        obtain ⟨r, s⟩ := x
        obtain ⟨hD2, hl2, hs0⟩ := hD.out.next hr hc
        have hds := decode_some wr hrx (Nat.le_trans hn hsz) Tr hlt (by rw [hdrop]; exact hc)
        have hle2 := hD2.len
        have HD2 := Lib.hid hD2
        have hsn : n + s ≤ bs.length := by omega
        have HL2 := Lib.hid (show n + s = (encB (ds ++ [r])).length by omega)
        have hpre2 := Lib.hid (hT.step hD.out hS hpre.out hr hc)
        have hpl := Lib.hid (show pl 0 (ds ++ [r]) = pl 0 ds ++ [mkPr n r] by rw [pl_snoc, Nat.zero_add, hnn])
        have hlc : (pl 0 ds).length < cs.length := by
          rw [pl_len]
          have := hpre2.out.length_le
          rw [List.length_append] at this
          simp at this
          omega
        have hrb : r < 2147483648 := by
          have := HD2.out.all r (by simp)
          rw [isB_nat] at this
          omega
        have hen := Lib.hid (encPr_mk (a := n) (b := r) (by omega) hrb)
        clear hnn hlen hdrop hc hD2 hl2 hle2 hpre hrb
        gi_wp2_with (refine ⟨trivial, ?_⟩; gi_at_call 16; refine (callsIn_wide.2 hds).mono ?_; rintro e w1 ⟨rfl, hb1⟩; obtain ⟨fn, tmps, assign, body, hy, hRR⟩ := hY (pl 0 ds) (mkPr n r) w1 (hJ _ wr w1 none hJs.out (grown_of_below hb1) (fun r e => by cases e)) hlc; rw [hen.out] at hy)
        refine hRR.mono ?_
        rintro e W3 (⟨rfl, hJ3, hk3⟩ | ⟨rfl, hJx3⟩)
        · have hb3 := (hbel.trans (hb1.mono (Nat.le_trans hn hsz))).trans hk3
          have HJ3 := Lib.hid hJ3
          rw [← hpl.out] at HJ3
          gi_wp2
          go_roundw
          case rel => exact ⟨n + s, ds ++ [r], p.drop s, HL2.out, by go_num, HD2, hpre2, HJ3, hb3⟩
          case measure => simp [intOf]; omega
        · have HX := Lib.hid hJx3
          rw [← hpl.out] at HX
          gi_wp2
          refine bodyPost_ret (results_none rfl _ _ _) rfl ?_
          refine ⟨⟨_, rfl⟩, .inr ⟨_, ?_, HX.out⟩⟩
          obtain ⟨t, rfl⟩ := hpre2.out
          exact pl_append _ _ _

theorem iter_stops (m : Nat) (hm : 1 ≤ m) (Bs n₀ : Nat) {v : Value} {bs : List UInt8} {cs : List Nat} {rest : List UInt8} (hT : Told bs cs rest) (hS : Stuck rest) (hbl : bs.length ≤ 100000) (w : World) (hBs : w.cell? ⟨Bs, 0, none⟩ = some v) (hBn : Bs < n₀) (hR : Rd encU 1 w n₀ v bs) (T : Tabs w) (h2 : 2 < n₀) (hn : n₀ ≤ w.heap.size) :
    SeqStopsK Fence.wide m Tryd.prog 20 #[.pointer (some ⟨Bs, 0, none⟩)] encPr (Below n₀) (fun ys => ys = pl 0 cs) (fun pre => pre <+: pl 0 cs) cs.length w := fun l J Jx W hW hJ _ hY h0 =>
  iter_in m hm l Bs n₀ hT hS J Jx hbl W hJ hY (Below.cell_some hW hBs (Nat.lt_of_lt_of_le hBn hn)) hBn (hR.below (hW.mono hn) (Nat.le_refl _)) (T.below hW) h2 (Nat.le_trans hn hW.size) h0
end Go.Proofs.YtgkmmlffnfpjaaaDoor
