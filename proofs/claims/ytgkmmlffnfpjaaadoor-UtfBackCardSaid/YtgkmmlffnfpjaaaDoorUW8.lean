import Derived.Test.YtgkmmlffnfpjaaaDoorUW7
namespace Go.Proofs.YtgkmmlffnfpjaaaDoor
open Go Go.RowKit

def encR (r : Int) : List Value := [.int .i32 r]
theorem encR_len (r : Int) : (encR r).length = 1 := rfl
theorem encR_one (r : Int) : ∀ u ∈ encR r, u.oneCell' = true := by simp [encR, Value.oneCell']
def AllZ (l : List Int) : Prop := ∀ r ∈ l, isB r = true
def encZ (l : List Int) : List UInt8 := encB (l.map Int.toNat)
theorem encZ_snoc (l : List Int) (r : Int) : encZ (l ++ [r]) = encZ l ++ bytesOf r.toNat := by simp [encZ, encB_snoc]
theorem encB_le (cs : List Nat) : (encB cs).length ≤ 4 * cs.length := by
  induction cs with
  | nil => simp [encB]
  | cons c cs ih =>
    rw [encB_cons, List.length_append, List.length_cons]
    have := bytesN_len c
    rw [bytesOf_len]
    omega
theorem encZ_le (l : List Int) : (encZ l).length ≤ 4 * l.length := by
  have := encB_le (l.map Int.toNat)
  rwa [List.length_map] at this
theorem isB_toNat {r : Int} (h : isB r = true) : ∃ n : Nat, r = n := by
  rw [isB_iff] at h
  exact ⟨r.toNat, by omega⟩

set_option maxHeartbeats 4000000 in
theorem encode_any {B : Nat} {v : Value} {l : List Int} (w : World) (hx : Rd encR 1 w B v l) (hB : B ≤ w.heap.size) (T : Tabs w) (hl : l.length ≤ 20000) :
    Calls Tryd.prog 8 #[v] w fun e w' => ((AllZ l ∧ ∃ u, e = .returned (.tuple #[u, .int .i64 0]) ∧ Own encU 1 5 w' w.heap.size u (encZ l)) ∨ (¬ AllZ l ∧ e = .returned (.tuple #[.slice none 0 0, .int .i64 10]))) ∧ Below w.heap.size w w' := by
  have hx' := hx
  obtain ⟨A, cap, rfl, h1, h2, -⟩ := hx
  unfold maxLen at h2
  go_enter Tryd.func8, Tryd.ntmps8
  go_wp2_with fail
  go_loopw [4, 6, 9] (fun out _ i wr => ∃ (k : Nat), k ≤ l.length ∧ i = .int .i64 k ∧ Hid (AllZ (l.take k)) ∧ Own encU 1 5 wr w.heap.size out (encZ (l.take k)) ∧ Below w.heap.size w wr) (fun _ _ i _ => l.length - (intOf i).toNat)
  case atStart => exact ⟨0, Nat.zero_le _, rfl, fun r h => by simp at h, by rw [List.take_zero]; exact Own.nil _ _ _ _ _, Below.refl _ _⟩
  case round =>
    obtain ⟨k, hk, rfl, hall, hown, hbel⟩ := hrel
    have hsz := hbel.size
    have Tr := T.below hbel
    by_cases hlt : k < l.length
    · obtain ⟨r, hr⟩ := get_lt hlt
      obtain ⟨b, off, rfl, hb, hc⟩ := (hx'.below hbel hB).at_ hr
      have c1 : wr.cell? ⟨b, off + k, none⟩ = some (.int .i32 r) := by simpa using hc k _ hr 0 _ rfl
      have hts := take_snoc hr
      have hmem := List.mem_of_getElem? hr
      have his := is_any r wr Tr
      clear hc hr
      cases hi : isB r
      · rw [hi] at his
        have hbad : Hid (¬ AllZ l) := fun h => by rw [h r hmem] at hi; cases hi
        clear hts hmem hi hown hall
        go_wp2_with fail
        refine his.mono ?_
        rintro e w1 ⟨rfl, hb1⟩
        clear his
        go_wp2_with fail
        go_ret2
        exact ⟨Or.inr ⟨hbad.out, rfl⟩, hbel.trans (hb1.mono hsz)⟩
      · rw [hi] at his
        obtain ⟨n, rfl⟩ := isB_toNat hi
        have hall2 : Hid (AllZ (l.take (k + 1))) := by
          intro x hx
          rw [hts] at hx
          rcases List.mem_append.1 hx with h' | h'
          · exact hall.out x h'
          · rw [List.mem_singleton] at h'; rw [h']; exact hi
        have henc : Hid (encZ (l.take (k + 1)) = encZ (l.take k) ++ bytesOf n) := by unfold Hid; rw [hts, encZ_snoc, Int.toNat_natCast]
        have hle := encZ_le (l.take k)
        have htl : (l.take k).length ≤ k := List.length_take_le _ _
        have hI := Lib.hid hi
        clear hts hmem hall hi
        go_wp2_with fail
        refine his.mono ?_
        rintro e w1 ⟨rfl, hb1⟩
        clear his
        have hap := append_any w1 (hown.below hb1) (Nat.le_trans hsz hb1.size) (by omega) hI.out
        have hb01 := hbel.trans (hb1.mono hsz)
        rw [← henc.out] at hap
        clear hle htl
        go_wp2_with fail
        refine hap.mono ?_
        rintro e w2 ⟨u, rfl, a1, a2, -, -⟩
        clear hap
        go_wp2_with fail
        go_roundw
        case rel => exact ⟨k + 1, by omega, by go_num, hall2, a1, hb01.trans a2⟩
        case measure => simp [intOf]; omega
    · rw [take_len_le (by omega)] at hown hall
      go_wp2_with fail
      go_ret2
      exact ⟨Or.inl ⟨hall.out, _, rfl, hown⟩, hbel⟩
end Go.Proofs.YtgkmmlffnfpjaaaDoor
