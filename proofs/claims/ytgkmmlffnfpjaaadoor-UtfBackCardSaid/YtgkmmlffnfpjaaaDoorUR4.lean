import Derived.Test.YtgkmmlffnfpjaaaDoorUR3
namespace Go.Proofs.YtgkmmlffnfpjaaaDoor
open Go Go.RowKit

theorem T34 : SliceT Tryd.prog 34 3 1 8 := SliceT.mk_ (z := .int .i64 0) Tryd.underlying34 (by kernel_rfl) rfl (by omega) (by omega)
def encN (n : Nat) : List Value := [.int .i64 (n : Int)]
theorem encN_len (n : Nat) : (encN n).length = 1 := rfl
theorem encN_one (n : Nat) : ∀ u ∈ encN n, u.oneCell' = true := by simp [encN, Value.oneCell']
theorem encB_ge (cs : List Nat) : cs.length ≤ (encB cs).length := by
  induction cs with
  | nil => simp [encB]
  | cons c cs ih =>
    rw [encB_cons, List.length_append, List.length_cons]
    have := bytesN_len c
    rw [bytesOf_len]
    omega

set_option maxHeartbeats 8000000 in
set_option maxRecDepth 100000 in
theorem refall_any {B : Nat} {v : Value} {bs : List UInt8} (w : World) (hx : Rd encU 1 w B v bs) (hB : B ≤ w.heap.size) (hl : bs.length ≤ 1000) :
    Calls Tryd.prog 13 #[v] w fun e w' => (∃ cs rest u, Told bs cs rest ∧ Stuck rest ∧ e = .returned (.tuple #[u, .int .i64 (encB cs).length]) ∧ Rd encN 1 w' w'.heap.size u cs) ∧ Below w.heap.size w w' := by
  have hx' := hx
  obtain ⟨A, cap, rfl, h1, h2, -⟩ := hx
  unfold maxLen at h2
  go_enter Tryd.func13, Tryd.ntmps13
  go_wp2_with fail
  go_loopw [4, 5, 6, 7] (fun out at_ _ _ wr => ∃ (n : Nat) (cs : List Nat) (rest : List UInt8), n = (encB cs).length ∧ at_ = .int .i64 n ∧ Hid (Told bs cs rest) ∧ Own encN 1 3 wr w.heap.size out cs ∧ Below w.heap.size w wr) (fun _ at_ _ _ _ => bs.length - (intOf at_).toNat)
  case atStart => exact ⟨0, [], bs, rfl, rfl, Told.start bs, Own.nil _ _ _ _ _, Below.refl _ _⟩
  case round =>
    obtain ⟨n, cs, rest, hn, rfl, hT, hown, hbel⟩ := hrel
    have hlen := hT.out.len
    have hsz := hbel.size
    have hrx := hx'.below hbel hB
    have hge := encB_ge cs
    by_cases hr : rest = []
    · subst hr
      have hge : ¬ n < bs.length := by simp at hlen; omega
      have hrd := hown.rd encN_len (by unfold maxLen; omega)
      have HN := Lib.hid hn
      clear hn hlen
      go_wp2_with fail
      go_ret2
      exact ⟨⟨cs, [], _, hT.out, Or.inl rfl, by rw [HN.out]; rfl, hrd⟩, hbel⟩
    · have hl0 : 0 < rest.length := List.length_pos_iff.2 hr
      have hlt : n < bs.length := by omega
      have hdrop := hT.out.rest
      rw [← hn] at hdrop
      obtain ⟨b, off, rfl, hb, -⟩ := rd_cell hrx hlt
      have hd := hrx.drop (k := n) (by omega) h1
      have hs := slice_from b off bs.length n cap (by omega) h1 wr
      rw [hdrop] at hd
      have hrl : bs.length - n = rest.length := by omega
      rw [hrl] at hd hs
      generalize hsv : (if cap = n then some (⟨b, off, none⟩ : Addr) else some ⟨b, off + n * 1, none⟩) = sA at hs hd
      clear hsv
      have hrr := read_raw wr hd (Nat.le_trans hB hsz) hl0 (by omega)
      cases hc : chr rest with
      | none =>
        have hrd := hown.rd encN_len (by unfold maxLen; omega)
        have HN := Lib.hid hn
        have HC := Lib.hid hc
        clear hn hlen hdrop hc hrl hge
        go_wp2_with fail
        refine hrr.mono ?_
        rintro e w1 ⟨⟨r, s, hrs, rfl⟩ | ⟨_, rfl⟩, hb1⟩
        · rw [HC.out] at hrs; cases hrs
        · clear hrr
          have hrd1 := hrd.next hb1
          have hb01 := hbel.trans (hb1.mono hsz)
          go_wp2_with fail
          go_ret2
          exact ⟨⟨cs, rest, _, hT.out, Or.inr HC.out, by rw [HN.out]; rfl, hrd1⟩, hb01⟩
      | some p =>
        obtain ⟨r, s⟩ := p
        obtain ⟨hT2, hl2, hs0⟩ := hT.out.next hr hc
        have hle2 := hT2.len
        have HT2 := Lib.hid hT2
        have hsn : n + s ≤ bs.length := by omega
        have HL2 := Lib.hid (show n + s = (encB (cs ++ [r])).length by omega)
        have hcl : cs.length ≤ 1000 := by omega
        have HC := Lib.hid hc
        have hs0' : ((s : Int) == 0) = false := by simp; omega
        clear hn hlen hdrop hc hT hT2 hl2 hle2 hrl hge
        go_wp2_with fail
        refine hrr.mono ?_
        rintro e w1 ⟨⟨r', s', hrs, rfl⟩ | ⟨hbad, _⟩, hb1⟩
        · have e1 := HC.out.symm.trans hrs
          cases e1
          clear hrr hrs
          have hown1 := hown.below hb1
          have hb01 := hbel.trans (hb1.mono hsz)
          clear hown
          go_wp2_with (at_builtin; refine wpList_append_one _ (by rfl) _ _ _ (by rfl) encN encN_len encN_one T34 w.heap.size _ cs (by rfl) (hown1.below (by ((repeat (first | exact Below.refl _ _ | assumption | refine Below.alloc ?_ (by first | omega | (simp; done) | (simp; omega)) _ | refine Below.setCell ?_ (by first | omega | (simp; done) | (simp; omega)) _ | refine Below.drew ?_ | refine below_drewN ?_ _)); done))) r _ #[.int .i64 (r : Int)] (by rfl) (by rfl) (heap_alloc_new _ _) (by omega) (by have := hb01.size; simp; omega) ?_; intro v3 w3 hown3 hb3 hO3 hloc3)
          have hb03 := hb01.trans (Below.trans (show Below w.heap.size w1 _ by have := hb01.size; ((repeat (first | exact Below.refl _ _ | assumption | refine Below.alloc ?_ (by first | omega | (simp; done) | (simp; omega)) _ | refine Below.setCell ?_ (by first | omega | (simp; done) | (simp; omega)) _ | refine Below.drew ?_ | refine below_drewN ?_ _)); done)) hb3)
          go_roundw
          case rel => exact ⟨n + s, cs ++ [r], rest.drop s, HL2.out, by go_num, HT2, hown3, hb03⟩
          case measure => simp [intOf]; omega
        · rw [HC.out] at hbad; cases hbad
end Go.Proofs.YtgkmmlffnfpjaaaDoor
