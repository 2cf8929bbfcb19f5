import Derived.Test.YtddnphidmpidcaaKW1
namespace Go.Proofs.Ytddnphidmpidcaa
open Go Go.RowKit

/-- no later one and earlier one are in M -/
def PairN {α : Type} (M : α → α → Bool) (xs : List α) : Prop := ∀ (i k : Nat) (x y : α), k < i → xs[i]? = some x → xs[k]? = some y → M x y = false
theorem PairN.zero {α : Type} (M : α → α → Bool) (xs : List α) : PairN M (xs.take 0) := by intro i k x y _ hx; simp at hx
theorem PairN.snoc {α : Type} {M : α → α → Bool} {xs : List α} {n : Nat} {z : α} (h : PairN M (xs.take n)) (hz : xs[n]? = some z) (hm : ∀ (j : Nat) (y : α), j < n → xs[j]? = some y → M z y = false) : PairN M (xs.take (n + 1)) := by
  intro i k x y hk hx hy
  rw [List.getElem?_take] at hx hy
  split at hx <;> try (simp at hx; done)
  split at hy <;> try (simp at hy; done)
  by_cases hi : i = n
  · subst hi
    rw [hz] at hx; cases hx
    exact hm k y hk hy
  · exact h i k x y hk (by rw [List.getElem?_take, if_pos (by omega)]; exact hx) (by rw [List.getElem?_take, if_pos (by omega)]; exact hy)
theorem PairN.bad {α : Type} {M : α → α → Bool} {xs : List α} {i k : Nat} {x y : α} (hk : k < i) (hx : xs[i]? = some x) (hy : xs[k]? = some y) (h : M x y = true) : ¬ PairN M xs := by
  intro hp; rw [hp i k x y hk hx hy] at h; cases h
noncomputable def pairB {α : Type} (M : α → α → Bool) (xs : List α) : Bool := @decide (PairN M xs) (Classical.propDecidable _)
theorem pairB_true {α : Type} {M : α → α → Bool} {xs : List α} : pairB M xs = true ↔ PairN M xs := by unfold pairB; exact @decide_eq_true_iff _ (Classical.propDecidable _)
theorem pairB_false {α : Type} {M : α → α → Bool} {xs : List α} : pairB M xs = false ↔ ¬ PairN M xs := by unfold pairB; exact @decide_eq_false_iff_not _ (Classical.propDecidable _)

def Ent.mat (x y : Ent) : Bool := matchB x.has y.has x.key y.key
def REnt.mat (x y : REnt) : Bool := matchB x.has y.has x.key y.key

set_option maxHeartbeats 1000000 in
theorem apart_any {B : Nat} {v : Value} {xs : List Ent} (w : World) (hx : Rd Ent.enc 3 w B v xs) (hB : B ≤ w.heap.size) :
   Calls Try.prog 8 #[v] w fun e w' => e = .returned (.bool (pairB Ent.mat xs)) ∧ Below w.heap.size w w' := by
  have hx' := hx
  obtain ⟨A, cap, rfl, h1, h2, -⟩ := hx
  unfold maxLen at h2
  go_enter Try.func8, Try.ntmps8
  go_wp2
  go_loopw [3] (fun i wr => ∃ k : Nat, k ≤ xs.length ∧ i = .int .i64 k ∧ Hid (PairN Ent.mat (xs.take k)) ∧ Below w.heap.size w wr) (fun i _ => xs.length - (intOf i).toNat)
  case atStart => exact ⟨0, Nat.zero_le _, rfl, PairN.zero _ _, Below.refl _ _⟩
  case round =>
    obtain ⟨k, hk, rfl, hno, hbel⟩ := hrel
    by_cases hlt : k < xs.length
    · obtain ⟨X, hxk⟩ := get_lt hlt
      have HX := Lib.hid hxk
      clear hxk
      go_wp2
      rename_i wo _ _
      go_loopw [4] (fun i wr => ∃ j : Nat, j ≤ k ∧ i = .int .i64 j ∧ Hid (∀ (j' : Nat) (y : Ent), j' < j → xs[j']? = some y → Ent.mat X y = false) ∧ Below w.heap.size w wr) (fun i _ => k - (intOf i).toNat)
      case atStart => exact ⟨0, Nat.zero_le _, rfl, fun _ _ h => absurd h (Nat.not_lt_zero _), hbel⟩
      case round =>
        obtain ⟨j, hj, rfl, hno2, hbel2⟩ := hrel
        by_cases hlt2 : j < k
        · have hlt3 : j < xs.length := by omega
          obtain ⟨Y, hyk⟩ := get_lt hlt3
          obtain ⟨b, off, rfl, hb, hc⟩ := (hx'.below hbel2 hB).at_ hyk
          have HY := Lib.hid hyk
          obtain ⟨ax, bx, sx⟩ := X
          obtain ⟨ay, bY, sy⟩ := Y
          have c1 : wr.cell? ⟨b, off + k * 3 + 1, none⟩ = some (.bool bx) := hc k _ HX.out 1 _ rfl
          have c2 : wr.cell? ⟨b, off + k * 3 + 2, none⟩ = some (.string sx) := hc k _ HX.out 2 _ rfl
          have c3 : wr.cell? ⟨b, off + j * 3 + 1, none⟩ = some (.bool bY) := hc j _ HY.out 1 _ rfl
          have c4 : wr.cell? ⟨b, off + j * 3 + 2, none⟩ = some (.string sy) := hc j _ HY.out 2 _ rfl
          clear hc hyk hx'
          cases hm : Ent.mat ⟨ax, bx, sx⟩ ⟨ay, bY, sy⟩
          · have HM := Lib.hid hm
            have hss : bx = true → bY = true → (sx.toList == sy.toList) = false := by
              rintro rfl rfl; simpa [Ent.mat, matchB, beq_toListBytes] using hm
            have hff : ¬ (bx = false ∧ bY = false) := by
              rintro ⟨rfl, rfl⟩; simp [Ent.mat, matchB] at hm
            clear hm
            cases bx <;> cases bY
            · exact absurd ⟨rfl, rfl⟩ hff
            all_goals
              have hs' := hss
              clear hss hff
              try (have hs'' := hs' rfl rfl)
              clear hs'
              go_wp2
              go_quiet (fail)
              go_wp2
              go_roundw
              case rel => exact ⟨j + 1, by omega, by go_num, fun j' y hj' hy => by
                rcases Nat.lt_succ_iff_lt_or_eq.1 hj' with h | h
                · exact hno2.out j' y h hy
                · subst h; have := HY.out.symm.trans hy; cases this; exact HM.out, below_drewN hbel2 _⟩
              case measure => simp [intOf]; omega
          · have hbad := pairB_false.2 (PairN.bad hlt2 HX.out HY.out hm)
            have HD := Lib.hid hbad
            have hss : bx = true → bY = true → (sx.toList == sy.toList) = true := by
              rintro rfl rfl; simpa [Ent.mat, matchB, beq_toListBytes] using hm
            have hff : bx = bY := by
              simp [Ent.mat, matchB] at hm; exact hm.1
            clear hm hbad
            subst hff
            cases bx
            all_goals
              have hs' := hss
              clear hss
              try (have hs'' := hs' rfl rfl)
              clear hs'
              go_wp2
              go_quiet (fail)
              go_wp2
              go_ret
              exact ⟨ret_bool HD.out.symm, below_drewN hbel2 _⟩
        · have hjk : j = k := by omega
          go_wp2
          go_roundw
          case rel => exact ⟨k + 1, by omega, by go_num, hno.out.snoc HX.out (fun j' y h hy => hno2.out j' y (by omega) hy), hbel2⟩
          case measure => simp [intOf]; omega
    · have hd := pairB_true.2 (by have := hno.out; rwa [take_len_le (by omega)] at this)
      have HD := Lib.hid hd
      clear hd
      go_wp2
      go_ret
      exact ⟨ret_bool HD.out.symm, hbel⟩
end Go.Proofs.Ytddnphidmpidcaa
