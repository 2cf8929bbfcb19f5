import Derived.Test.YtgkmmlffnfpjaaaDoorUW8
namespace Go.Proofs.YtgkmmlffnfpjaaaDoor
open Go Go.RowKit

theorem Told.one {bs : List UInt8} {cs ds : List Nat} {p q : List UInt8} (h : Told bs cs p) (k : Told bs ds q) (hp : Stuck p) (hq : Stuck q) : cs = ds ∧ p = q :=
  rows_one cs ds p q h.all k.all hp hq (h.eq.symm.trans k.eq)
theorem aw1 : encZ [233] = [195, 169] := by decide
theorem aw2 : AllZ [233] := by intro r h; simp at h; subst h; decide
theorem aw3 : chr ([195, 169] : List UInt8) = some (233, 2) := by decide
theorem aw4 : chr ([192, 128] : List UInt8) = none := by decide

set_option maxHeartbeats 4000000 in
set_option maxRecDepth 100000 in
theorem awake_any (w : World) (T : Tabs w) : Calls Tryd.prog 7 #[] w fun e w' => e = .returned (.bool true) ∧ Below w.heap.size w w' := by
  have hb0 : Below w.heap.size w (w.alloc (.cells #[.int .i32 233] 21)) := by ((repeat (first | exact Below.refl _ _ | assumption | refine Below.alloc ?_ (by first | omega | (simp; done) | (simp; omega)) _ | refine Below.setCell ?_ (by first | omega | (simp; done) | (simp; omega)) _ | refine Below.drew ?_ | refine below_drewN ?_ _)); done)
  have he := encode_any _ (Rd.lit encR 1 [233] (heap_alloc_new w (.cells #[.int .i32 233] 21)) rfl encR_len 1 rfl (by simp [maxLen])) (Nat.le_refl _) (T.below hb0) (by simp)
  go_enter Tryd.func7, Tryd.ntmps7
  go_wp2_with fail
  refine he.mono ?_
  rintro e w1 ⟨⟨-, u, rfl, hown⟩ | ⟨hbad, -⟩, hb1⟩
  · have hb01 := hb0.trans (hb1.mono (by simp))
    have hz1 := hb01.size
    rw [aw1] at hown
    have hrd := hown.rd encU_len (by simp [maxLen])
    obtain ⟨A, cap, rfl⟩ := hown.len_val
    have T1 := T.below hb01
    have hb2 : Below w1.heap.size w1 (w1.alloc (.cells #[.int .u8 195, .int .u8 169] 5)) := by ((repeat (first | exact Below.refl _ _ | assumption | refine Below.alloc ?_ (by first | omega | (simp; done) | (simp; omega)) _ | refine Below.setCell ?_ (by first | omega | (simp; done) | (simp; omega)) _ | refine Below.drew ?_ | refine below_drewN ?_ _)); done)
    have hd := decode_some (k := 0) _ (Rd.lit encU 1 [195, 169] (heap_alloc_new w1 (.cells #[.int .u8 195, .int .u8 169] 5)) rfl encU_len 2 rfl (by simp [maxLen])) (Nat.le_refl _) (T1.below hb2) (by simp) aw3
    clear he hown
    go_wp2_with fail
    refine hd.mono ?_
    rintro e w3 ⟨rfl, hb3⟩
    have hb13 := hb2.trans (hb3.mono hb2.size)
    have hrd3 := hrd.next hb13
    have T3 := T1.below hb13
    have hb03 := hb01.trans (hb13.mono hz1)
    have hz3 := hb03.size
    clear hd hb2 hb3 hb13 hrd
    have hb4 : Below w3.heap.size w3 (w3.alloc (.cells #[.int .u8 192, .int .u8 128] 5)) := by ((repeat (first | exact Below.refl _ _ | assumption | refine Below.alloc ?_ (by first | omega | (simp; done) | (simp; omega)) _ | refine Below.setCell ?_ (by first | omega | (simp; done) | (simp; omega)) _ | refine Below.drew ?_ | refine below_drewN ?_ _)); done)
    have hc := check_any _ (Rd.lit encU 1 [192, 128] (heap_alloc_new w3 (.cells #[.int .u8 192, .int .u8 128] 5)) rfl encU_len 2 rfl (by simp [maxLen])) (Nat.le_refl _) (T3.below hb4)
    go_wp2_with fail
    refine hc.mono ?_
    rintro e w5 ⟨⟨cs, rest, hT, hcase⟩, hb5⟩
    have hb35 := hb4.trans (hb5.mono hb4.size)
    have hrd5 := hrd3.next hb35
    have hb05 := hb03.trans (hb35.mono hz3)
    have hz5 := hb05.size
    clear hc hb4 hb5 hb35 hrd3
    have hst : Stuck rest := by
      rcases hcase with ⟨h, _⟩ | ⟨_, h, _⟩
      · exact Or.inl h
      · exact Or.inr h
    obtain ⟨rfl, rfl⟩ := Told.one hT (Told.start _) hst (Or.inr aw4)
    rcases hcase with ⟨h, _⟩ | ⟨_, _, rfl⟩
    · cases h
    · have hb6 : Below w5.heap.size w5 (w5.alloc (.cells #[.int .u8 195, .int .u8 169] 5)) := by ((repeat (first | exact Below.refl _ _ | assumption | refine Below.alloc ?_ (by first | omega | (simp; done) | (simp; omega)) _ | refine Below.setCell ?_ (by first | omega | (simp; done) | (simp; omega)) _ | refine Below.drew ?_ | refine below_drewN ?_ _)); done)
      have hth := bytes_any _ (hrd5.next hb6) (Rd.lit encU 1 [195, 169] (heap_alloc_new w5 (.cells #[.int .u8 195, .int .u8 169] 5)) rfl encU_len 2 rfl (by simp [maxLen])) (Nat.le_refl _)
      rw [decide_eq_true (rfl : ([195, 169] : List UInt8) = [195, 169])] at hth
      clear hT hst
      go_wp2_with fail
      refine hth.mono ?_
      rintro e w7 ⟨rfl, hb7⟩
      go_wp2_with fail
      go_ret
      exact ⟨rfl, hb05.trans ((hb6.trans (hb7.mono hb6.size)).mono hz5)⟩
  · exact absurd aw2 hbad
end Go.Proofs.YtgkmmlffnfpjaaaDoor
