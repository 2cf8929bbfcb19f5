import Derived.Test.YtgkmmlffnfpjaaaDoorUP1
import Derived.WalkMore
namespace Go.Proofs.YtgkmmlffnfpjaaaDoor
open Go Go.RowKit

/-- bytes are characters up to a place, at which none stands -/
structure Told (bs : List UInt8) (cs : List Nat) (rest : List UInt8) : Prop where
  eq : bs = encB cs ++ rest
  all : AllIs cs
theorem Told.start (bs : List UInt8) : Told bs [] bs := ⟨rfl, fun r h => absurd h (by simp)⟩
theorem Told.rest {bs : List UInt8} {cs : List Nat} {rest : List UInt8} (h : Told bs cs rest) : bs.drop (encB cs).length = rest := by
  rw [h.eq, List.drop_left]
theorem Told.len {bs : List UInt8} {cs : List Nat} {rest : List UInt8} (h : Told bs cs rest) : bs.length = (encB cs).length + rest.length := by
  rw [h.eq, List.length_append]
theorem Told.next {bs : List UInt8} {cs : List Nat} {rest : List UInt8} (h : Told bs cs rest) (hne : rest ≠ []) {r s : Nat} (hc : chr rest = some (r, s)) : Told bs (cs ++ [r]) (rest.drop s) ∧ (encB (cs ++ [r])).length = (encB cs).length + s ∧ 0 < s := by
  obtain ⟨h1, h2, h3⟩ := chr_bytes hne hc
  have h4 := bytesOf_len r
  have h5 := bytesN_len r
  refine ⟨⟨?_, fun x hx => ?_⟩, by rw [encB_snoc, List.length_append, h2], by omega⟩
  · rw [encB_snoc, List.append_assoc, ← h3]; exact h.eq
  · rcases List.mem_append.1 hx with h' | h'
    · exact h.all x h'
    · rw [List.mem_singleton] at h'; rw [h']; exact h1

set_option maxHeartbeats 4000000 in
theorem check_any {B : Nat} {v : Value} {bs : List UInt8} (w : World) (hx : Rd encU 1 w B v bs) (hB : B ≤ w.heap.size) (T : Tabs w) :
    Calls Tryd.prog 12 #[v] w fun e w' => (∃ cs rest, Told bs cs rest ∧ ((rest = [] ∧ e = .returned (.tuple #[.int .i64 bs.length, .int .i64 0])) ∨ (rest ≠ [] ∧ chr rest = none ∧ e = .returned (.tuple #[.int .i64 (encB cs).length, .int .i64 10])))) ∧ Below w.heap.size w w' := by
  have hx' := hx
  obtain ⟨A, cap, rfl, h1, h2, -⟩ := hx
  unfold maxLen at h2
  go_enter Tryd.func12, Tryd.ntmps12
  go_wp2_with fail
  go_step3
  go_wp2_with fail
  go_step3
  go_wp2_with fail
  go_loopw [4, 5, 6, 7, 8] (fun at_ e _ _ _ wr => ∃ (n : Nat) (cs : List Nat) (rest : List UInt8), n = (encB cs).length ∧ at_ = .int .i64 n ∧ e = .int .i64 0 ∧ Hid (Told bs cs rest) ∧ Below w.heap.size w wr) (fun at_ _ _ _ _ _ => bs.length - (intOf at_).toNat)
  case atStart => exact ⟨0, [], bs, rfl, rfl, rfl, Told.start bs, Below.refl _ _⟩
  case round =>
    obtain ⟨n, cs, rest, hn, rfl, rfl, hT, hbel⟩ := hrel
    have hlen := hT.out.len
    have hsz := hbel.size
    have Tr := T.below hbel
    have hrx := hx'.below hbel hB
    by_cases hr : rest = []
    · subst hr
      have hne : n = bs.length := by simp at hlen; omega
      have hge : ¬ n < bs.length := by omega
      have HN := Lib.hid hne
      clear hn hlen hne
      go_wp2_with fail
      rw [Exit.noGoto_ret]
      go_ret2
      exact ⟨⟨cs, [], hT.out, Or.inl ⟨rfl, by rw [HN.out]; rfl⟩⟩, hbel⟩
    · have hl0 : 0 < rest.length := List.length_pos_iff.2 hr
      have hlt : n < bs.length := by omega
      have hdrop := hT.out.rest
      rw [← hn] at hdrop
      cases hc : chr rest with
      | none =>
        have hdn := decode_none wr hrx (Nat.le_trans hB hsz) Tr hlt (by rw [hdrop]; exact hc)
        have HN := Lib.hid hn
        have HC := Lib.hid hc
        clear hn hlen hdrop hc
        go_wp2_with fail
        refine hdn.mono ?_
        rintro e w1 ⟨rfl, hb1⟩
        clear hdn
        go_wp2_with fail
        rw [Exit.noGoto_ret]
        go_ret2
        exact ⟨⟨cs, rest, hT.out, Or.inr ⟨hr, HC.out, by rw [HN.out]; rfl⟩⟩, hbel.trans (hb1.mono hsz)⟩
      | some p =>
        obtain ⟨r, s⟩ := p
        obtain ⟨hT2, hl2, hs0⟩ := hT.out.next hr hc
        have hds := decode_some wr hrx (Nat.le_trans hB hsz) Tr hlt (by rw [hdrop]; exact hc)
        have hle2 := hT2.len
        have HT2 := Lib.hid hT2
        have hsn : n + s ≤ bs.length := by omega
        have HL2 := Lib.hid (show n + s = (encB (cs ++ [r])).length by omega)
        clear hn hlen hdrop hc hT hT2 hl2 hle2
        go_wp2_with fail
        refine hds.mono ?_
        rintro e w1 ⟨rfl, hb1⟩
        clear hds
        go_wp2_with fail
        go_roundw
        case rel => exact ⟨n + s, cs ++ [r], rest.drop s, HL2.out, by go_num, rfl, HT2, hbel.trans (hb1.mono hsz)⟩
        case measure => simp [intOf]; omega
end Go.Proofs.YtgkmmlffnfpjaaaDoor
