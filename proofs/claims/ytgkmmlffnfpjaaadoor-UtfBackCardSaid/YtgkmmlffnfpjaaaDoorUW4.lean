import Derived.Test.YtgkmmlffnfpjaaaDoorUW3
namespace Go.Proofs.YtgkmmlffnfpjaaaDoor
open Go Go.RowKit

theorem T24 : SliceT Tryd.prog 24 5 1 1 := SliceT.mk_ (z := .int .u8 0) Tryd.underlying24 (by kernel_rfl) rfl (by omega) (by omega)
theorem und24 : Tryd.prog.underlying 24 = some (.slice (Tryd.prog.elem 24)) := by kernel_rfl
theorem elem24 : Tryd.prog.elem 24 = 5 := by kernel_rfl
theorem Rd.drop {α : Type} {enc : α → List Value} {size B : Nat} {w : World} {b off n cap : Nat} {xs : List α} (h : Rd enc size w B (.slice (some ⟨b, off, none⟩) n cap) xs) {k : Nat} (hk : k ≤ n) (hnc : n ≤ cap) : Rd enc size w B (.slice (if cap = k then some ⟨b, off, none⟩ else some ⟨b, off + k * size, none⟩) (n - k) (cap - k)) (xs.drop k) := by
  obtain ⟨A', cap', h0, h1, h2, h3⟩ := h
  cases h0
  refine ⟨_, cap - k, by rw [List.length_drop], by rw [List.length_drop]; omega, by omega, fun hne => ?_⟩
  have hlt : k < xs.length := by
    rcases Nat.lt_or_ge k xs.length with h | h
    · exact h
    · exact absurd (List.drop_eq_nil_of_le h) hne
  obtain ⟨b', off', hA, hb, hc⟩ := h3 (fun e => by subst e; simp at hlt)
  cases hA
  refine ⟨b, off + k * size, by rw [if_neg (by omega)], hb, fun i x hx j u hu => ?_⟩
  rw [List.getElem?_drop] at hx
  have := hc (k + i) x hx j u hu
  rw [Nat.add_mul, ← Nat.add_assoc] at this
  exact this
theorem Rd.take {α : Type} {enc : α → List Value} {size B : Nat} {w : World} {A : Option Addr} {n cap : Nat} {xs : List α} (h : Rd enc size w B (.slice A n cap) xs) {k : Nat} (hk : k ≤ n) : Rd enc size w B (.slice A k cap) (xs.take k) := by
  obtain ⟨A', cap', h0, h1, h2, h3⟩ := h
  cases h0
  have hl : (xs.take k).length = k := by rw [List.length_take, Nat.min_eq_left hk]
  refine ⟨A, cap, by rw [hl], by rw [hl]; omega, h2, fun hne => ?_⟩
  obtain ⟨b, off, hA, hb, hc⟩ := h3 (fun e => hne (by rw [e]; simp))
  refine ⟨b, off, hA, hb, fun i x hx j u hu => ?_⟩
  rw [List.getElem?_take] at hx
  split at hx
  · exact hc i x hx j u hu
  · cases hx
theorem slice_to (A : Option Addr) (n k cap : Nat) (hk : k ≤ cap) (W : World) : Sem.run Tryd.prog (Instr.sliceAt 24 (.slice A n cap) none (some (.int .i64 (k : Int))) none) W = .ok (.slice A k cap) W := by
  obtain ⟨-, i0, z, hi, hz, hsize, -⟩ := T24
  rw [run_sliceAt_slice _ _ _ _ _ _ und24, run_slice_h _ _ _ _ _ und24 _ _ (by omega) (by omega), elem24]
  simp [go_sem, sliced, sizeOf, typeInfo, hi, Result.andThen, Addr.add]
  try (cases A <;> simp)
theorem slice_from (b off n k cap : Nat) (hk : k ≤ n) (hn : n ≤ cap) (W : World) : Sem.run Tryd.prog (Instr.sliceAt 24 (.slice (some ⟨b, off, none⟩) n cap) (some (.int .i64 (k : Int))) none none) W = .ok (.slice (if cap = k then some ⟨b, off, none⟩ else some ⟨b, off + k * 1, none⟩) (n - k) (cap - k)) W := by
  obtain ⟨-, i0, z, hi, hz, hsize, -⟩ := T24
  rw [run_sliceAt_slice _ _ _ _ _ _ und24, run_slice_l _ _ _ _ _ und24 _ _ (by omega) (by omega), elem24]
  by_cases h : cap = k
  · subst h
    obtain rfl : n = cap := by omega
    simp [go_sem, sliced, sizeOf, typeInfo, hi, Result.andThen]
  · have h' : ¬ cap - k = 0 := by omega
    simp [go_sem, sliced, h, h', sizeOf, typeInfo, hi, Result.andThen, hsize, Addr.add]

/-- the character at the beginning of bytes, and how many bytes it has; none: there is none -/
def chr (bs : List UInt8) : Option (Nat × Nat) := if ((decL bs).1 = 65533 ∧ (decL bs).2 = 1) ∨ isB ((decL bs).1 : Int) = false then none else some (decL bs)
theorem chr_none {bs : List UInt8} (h : chr bs = none) : ((decL bs).1 = 65533 ∧ (decL bs).2 = 1) ∨ isB ((decL bs).1 : Int) = false := by
  unfold chr at h
  split at h
  · assumption
  · cases h
theorem chr_some {bs : List UInt8} {r s : Nat} (h : chr bs = some (r, s)) : decL bs = (r, s) ∧ ¬ (r = 65533 ∧ s = 1) ∧ isB (r : Int) = true := by
  unfold chr at h
  split at h
  · cases h
  · rename_i hn
    simp only [Option.some.injEq] at h
    rw [h] at hn
    simp only at hn
    refine ⟨h, fun e => hn (Or.inl e), ?_⟩
    cases hb : isB (r : Int)
    · exact absurd (Or.inr hb) hn
    · rfl

set_option maxHeartbeats 4000000 in
theorem decode_raw {B : Nat} {v : Value} {bs : List UInt8} {k : Nat} (w : World) (hx : Rd encU 1 w B v bs) (hB : B ≤ w.heap.size) (T : Tabs w) (hk : k < bs.length) :
    Calls Tryd.prog 16 #[v, .int .i64 k] w fun e w' => (∀ r s, chr (bs.drop k) = some (r, s) → e = .returned (.tuple #[.int .i32 (r : Nat), .int .i64 (s : Nat), .int .i64 0])) ∧ (chr (bs.drop k) = none → e = .returned (.tuple #[.int .i32 0, .int .i64 0, .int .i64 10])) ∧ Below w.heap.size w w' := by
  have hx' := hx
  obtain ⟨A, cap, rfl, h1, h2, -⟩ := hx
  obtain ⟨b, off, rfl, hb, -⟩ := rd_cell hx' hk
  have hd := hx'.drop (k := k) (by omega) h1
  have hs := slice_from b off bs.length k cap (by omega) h1 w
  unfold maxLen at h2
  generalize hsv : (if cap = k then some (⟨b, off, none⟩ : Addr) else some ⟨b, off + k * 1, none⟩) = sA at hs hd
  clear hsv
  have hdr := decrune_any w hd hB T (by rw [List.length_drop]; omega)
  obtain ⟨ds, hds⟩ : ∃ ds, ds = bs.drop k := ⟨_, rfl⟩
  rw [← hds] at hdr ⊢
  clear hd hds
  cases hc : chr ds with
  | some p =>
    obtain ⟨r, s⟩ := p
    obtain ⟨e1, e2, e3⟩ := chr_some hc
    rw [e1] at hdr
    have E3 := Lib.hid e3
    simp only at hdr
    suffices h : Calls Tryd.prog 16 #[.slice (some ⟨b, off, none⟩) bs.length cap, .int .i64 k] w fun e w' => e = .returned (.tuple #[.int .i32 (r : Nat), .int .i64 (s : Nat), .int .i64 0]) ∧ Below w.heap.size w w' by
      refine h.mono (fun e w' ⟨h1, h2⟩ => ⟨fun r' s' h => ?_, fun h => (by cases h), h2⟩)
      cases h
      exact h1
    clear hc e1 e3
    by_cases hr : r = 65533
    · have hs1 : ((s : Int) == 1) = false := by simp; omega
      have hr1 : ((r : Int) == 65533) = true := by simp; omega
      clear e2 hr
      go_enter Tryd.func16, Tryd.ntmps16
      go_wp2_with fail
      refine hdr.mono ?_
      rintro e w1 ⟨rfl, hb1⟩
      have hi := is_any (r : Int) w1 (T.below hb1)
      rw [E3.out] at hi
      clear hdr hs
      go_wp2_with fail
      refine hi.mono ?_
      rintro e w2 ⟨rfl, hb2⟩
      have hb02 := hb1.trans (hb2.mono hb1.size)
      clear hi
      go_wp2_with fail
      refine bodyPost_ret (v := .tuple #[.int .i32 (r : Nat), .int .i64 (s : Nat), .int .i64 0]) (by simp [results, Tryd.results16, go_sem]) rfl ?_
      exact ⟨rfl, hb02⟩
    · have hr1 : ((r : Int) == 65533) = false := by simp; omega
      clear e2 hr
      go_enter Tryd.func16, Tryd.ntmps16
      go_wp2_with fail
      refine hdr.mono ?_
      rintro e w1 ⟨rfl, hb1⟩
      have hi := is_any (r : Int) w1 (T.below hb1)
      rw [E3.out] at hi
      clear hdr hs
      go_wp2_with fail
      refine hi.mono ?_
      rintro e w2 ⟨rfl, hb2⟩
      have hb02 := hb1.trans (hb2.mono hb1.size)
      clear hi
      go_wp2_with fail
      refine bodyPost_ret (v := .tuple #[.int .i32 (r : Nat), .int .i64 (s : Nat), .int .i64 0]) (by simp [results, Tryd.results16, go_sem]) rfl ?_
      exact ⟨rfl, hb02⟩
  | none =>
    have hn := chr_none hc
    suffices h : Calls Tryd.prog 16 #[.slice (some ⟨b, off, none⟩) bs.length cap, .int .i64 k] w fun e w' => e = .returned (.tuple #[.int .i32 0, .int .i64 0, .int .i64 10]) ∧ Below w.heap.size w w' by
      refine h.mono (fun e w' ⟨h1, h2⟩ => ⟨fun r' s' h => (by cases h), fun h => h1, h2⟩)
    clear hc
    obtain ⟨r, s, hrs⟩ : ∃ r s, decL ds = (r, s) := ⟨_, _, rfl⟩
    rw [hrs] at hdr hn
    simp only at hdr hn
    clear hrs
    by_cases hw : r = 65533 ∧ s = 1
    · obtain ⟨rfl, rfl⟩ := hw
      clear hn
      go_enter Tryd.func16, Tryd.ntmps16
      go_wp2_with fail
      refine hdr.mono ?_
      rintro e w1 ⟨rfl, hb1⟩
      clear hdr hs
      go_wp2_with fail
      refine bodyPost_ret (v := .tuple #[.int .i32 0, .int .i64 0, .int .i64 10]) (by simp [results, Tryd.results16, go_sem]) rfl ?_
      exact ⟨rfl, hb1⟩
    · have E3 : Hid (isB (r : Int) = false) := by
        rcases hn with h | h
        · exact absurd h hw
        · exact h
      clear hn
      by_cases hr : r = 65533
      · have hs1 : ((s : Int) == 1) = false := by simp; omega
        have hr1 : ((r : Int) == 65533) = true := by simp; omega
        clear hw hr
        go_enter Tryd.func16, Tryd.ntmps16
        go_wp2_with fail
        refine hdr.mono ?_
        rintro e w1 ⟨rfl, hb1⟩
        have hi := is_any (r : Int) w1 (T.below hb1)
        rw [E3.out] at hi
        clear hdr hs
        go_wp2_with fail
        refine hi.mono ?_
        rintro e w2 ⟨rfl, hb2⟩
        have hb02 := hb1.trans (hb2.mono hb1.size)
        clear hi
        go_wp2_with fail
        refine bodyPost_ret (v := .tuple #[.int .i32 0, .int .i64 0, .int .i64 10]) (by simp [results, Tryd.results16, go_sem]) rfl ?_
        exact ⟨rfl, hb02⟩
      · have hr1 : ((r : Int) == 65533) = false := by simp; omega
        clear hw hr
        go_enter Tryd.func16, Tryd.ntmps16
        go_wp2_with fail
        refine hdr.mono ?_
        rintro e w1 ⟨rfl, hb1⟩
        have hi := is_any (r : Int) w1 (T.below hb1)
        rw [E3.out] at hi
        clear hdr hs
        go_wp2_with fail
        refine hi.mono ?_
        rintro e w2 ⟨rfl, hb2⟩
        have hb02 := hb1.trans (hb2.mono hb1.size)
        clear hi
        go_wp2_with fail
        refine bodyPost_ret (v := .tuple #[.int .i32 0, .int .i64 0, .int .i64 10]) (by simp [results, Tryd.results16, go_sem]) rfl ?_
        exact ⟨rfl, hb02⟩

theorem decode_some {B : Nat} {v : Value} {bs : List UInt8} {k r s : Nat} (w : World) (hx : Rd encU 1 w B v bs) (hB : B ≤ w.heap.size) (T : Tabs w) (hk : k < bs.length) (h : chr (bs.drop k) = some (r, s)) :
    Calls Tryd.prog 16 #[v, .int .i64 k] w fun e w' => e = .returned (.tuple #[.int .i32 (r : Nat), .int .i64 (s : Nat), .int .i64 0]) ∧ Below w.heap.size w w' :=
  (decode_raw w hx hB T hk).mono (fun _ _ ⟨h1, _, h3⟩ => ⟨h1 r s h, h3⟩)
theorem decode_none {B : Nat} {v : Value} {bs : List UInt8} {k : Nat} (w : World) (hx : Rd encU 1 w B v bs) (hB : B ≤ w.heap.size) (T : Tabs w) (hk : k < bs.length) (h : chr (bs.drop k) = none) :
    Calls Tryd.prog 16 #[v, .int .i64 k] w fun e w' => e = .returned (.tuple #[.int .i32 0, .int .i64 0, .int .i64 10]) ∧ Below w.heap.size w w' :=
  (decode_raw w hx hB T hk).mono (fun _ _ ⟨_, h2, h3⟩ => ⟨h2 h, h3⟩)
end Go.Proofs.YtgkmmlffnfpjaaaDoor
