import Derived.Test.YtddnphidmpidcaaKW2
import Derived.Deep.RegionHeld3
namespace Go.Proofs.Ytddnphidmpidcaa
open Go Go.RowKit

def REnt.bad (x y : REnt) : Bool := x.has && matchB x.has y.has x.key y.key

set_option maxHeartbeats 1000000 in
theorem uniqueRef_any {B : Nat} {v : Value} {xs : List REnt} (w : World) (hx : Rd REnt.enc 2 w B v xs) (hB : B ≤ w.heap.size) :
   Calls Try.prog 19 #[v] w fun e w' => e = .returned (.bool (pairB REnt.bad xs)) ∧ Below w.heap.size w w' := by
  have hx' := hx
  obtain ⟨A, cap, rfl, h1, h2, -⟩ := hx
  unfold maxLen at h2
  go_enter Try.func19, Try.ntmps19
  go_wp2
  go_loopw [3] (fun i wr => ∃ k : Nat, k ≤ xs.length ∧ i = .int .i64 k ∧ Hid (PairN REnt.bad (xs.take k)) ∧ Below w.heap.size w wr) (fun i _ => xs.length - (intOf i).toNat)
  case atStart => exact ⟨0, Nat.zero_le _, rfl, PairN.zero _ _, Below.refl _ _⟩
  case round =>
    obtain ⟨k, hk, rfl, hno, hbel⟩ := hrel
    by_cases hlt : k < xs.length
    · obtain ⟨X, hxk⟩ := get_lt hlt
      have HX := Lib.hid hxk
      clear hxk
      go_wp2
      rename_i wo _ _
      go_loopw [4] (fun i wr => ∃ j : Nat, j ≤ k ∧ i = .int .i64 j ∧ Hid (∀ (j' : Nat) (y : REnt), j' < j → xs[j']? = some y → REnt.bad X y = false) ∧ Below w.heap.size w wr) (fun i _ => k - (intOf i).toNat)
      case atStart => exact ⟨0, Nat.zero_le _, rfl, fun _ _ h => absurd h (Nat.not_lt_zero _), hbel⟩
      case round =>
        obtain ⟨j, hj, rfl, hno2, hbel2⟩ := hrel
        by_cases hlt2 : j < k
        · have hlt3 : j < xs.length := by omega
          obtain ⟨Y, hyk⟩ := get_lt hlt3
          obtain ⟨b, off, rfl, hb, hc⟩ := (hx'.below hbel2 hB).at_ hyk
          have HY := Lib.hid hyk
          obtain ⟨bx, sx⟩ := X
          obtain ⟨bY, sy⟩ := Y
          have hbs : b < wr.heap.size := by have := hbel2.size; omega
          have c1 := Ext.cell (B := wr.heap.size) (hc k _ HX.out 0 _ rfl) hbs
          have c2 := Ext.cell (B := wr.heap.size) (hc k _ HX.out 1 _ rfl) hbs
          have c3 := Ext.cell (B := wr.heap.size) (hc j _ HY.out 0 _ rfl) hbs
          have c4 := Ext.cell (B := wr.heap.size) (hc j _ HY.out 1 _ rfl) hbs
          simp only [Nat.add_zero] at c1 c3
          clear hc hyk hx'
          cases hm : REnt.bad ⟨bx, sx⟩ ⟨bY, sy⟩
          · have HM := Lib.hid hm
            cases bx
            all_goals
              try (have hm1 : matchB true bY sx sy = false := by simpa [REnt.bad] using hm)
              clear hm
              go_wp2
              (refine wp_region_ext (wr.heap.size) (by kernel_rfl) (by kernel_rfl) ?_; (repeat (go_big_quiet_step ((go_at_call 21; exact Calls.ext_of (Nat.le_refl _) (match_any _ _ _ _ _))))); refine wpQuiet_nil ?_; intro wq hw1; obtain ⟨u0, hw2⟩ := hw1; have hwq := u0.below; rw [← hw2] at hwq; clear hw2 u0)
              go_wp2
              go_roundw
              case rel => exact ⟨j + 1, by omega, by go_num, fun j' y hj' hy => by
                rcases Nat.lt_succ_iff_lt_or_eq.1 hj' with h | h
                · exact hno2.out j' y h hy
                · subst h; have := HY.out.symm.trans hy; cases this; exact HM.out, hbel2.trans (hwq.mono hbel2.size)⟩
              case measure => simp [intOf]; omega
          · have hbad := pairB_false.2 (PairN.bad hlt2 HX.out HY.out hm)
            have HD := Lib.hid hbad
            have hb1 : bx = true := by simp [REnt.bad] at hm; exact hm.1
            subst hb1
            have hm1 : matchB true bY sx sy = true := by simpa [REnt.bad] using hm
            clear hm hbad
            go_wp2
            (refine wp_region_ext (wr.heap.size) (by kernel_rfl) (by kernel_rfl) ?_; (repeat (go_big_quiet_step ((go_at_call 21; exact Calls.ext_of (Nat.le_refl _) (match_any _ _ _ _ _))))); refine wpQuiet_nil ?_; intro wq hw1; obtain ⟨u0, hw2⟩ := hw1; have hwq := u0.below; rw [← hw2] at hwq; clear hw2 u0)
            go_wp2
            go_ret
            exact ⟨ret_bool HD.out.symm, hbel2.trans (hwq.mono hbel2.size)⟩
        · have hjk : j = k := by omega
          go_wp2
          go_roundw
          case rel => exact ⟨k + 1, by omega, by go_num, hno.out.snoc HX.out (fun j' y h hy => hno2.out j' y (by omega) hy), hbel2⟩
          case measure => simp [intOf]; omega
    · have hd := pairB_true.2 (by have := hno.out; rwa [take_len_le (by omega)] at this)
      have HD := Lib.hid hd
      clear hd
      go_wp2
      go_ret
      exact ⟨ret_bool HD.out.symm, hbel⟩

theorem T37 : SliceT Try.prog 37 53 2 24 := SliceT.mk_ (z := .agg #[.bool false, .string ⟨#[]⟩]) Try.underlying37 (by kernel_rfl) rfl (by omega) (by omega)
theorem T28 : SliceT Try.prog 28 3 1 8 := SliceT.mk_ (z := .int .i64 0) Try.underlying28 (by kernel_rfl) rfl (by omega) (by omega)
theorem T22 : SliceT Try.prog 22 27 3 32 := SliceT.mk_ (z := .agg #[.int .i64 0, .bool false, .string ⟨#[]⟩]) Try.underlying22 (by kernel_rfl) rfl (by omega) (by omega)
theorem REnt.enc_len (x : REnt) : (REnt.enc x).length = 2 := rfl
theorem Ent.enc_len (x : Ent) : (Ent.enc x).length = 3 := rfl
theorem encI_len (x : Int) : (encI x).length = 1 := rfl
theorem REnt.enc_one (x : REnt) : ∀ u ∈ REnt.enc x, u.oneCell' = true := by simp [REnt.enc, Value.oneCell']
theorem Ent.enc_one (x : Ent) : ∀ u ∈ Ent.enc x, u.oneCell' = true := by simp [Ent.enc, Value.oneCell']
theorem encI_one (x : Int) : ∀ u ∈ encI x, u.oneCell' = true := by simp [encI, Value.oneCell']

def Ent.plain (x : Ent) : REnt := ⟨x.has, x.key⟩

/-- a slice comes back that reads as xs -/
def RetRd {α : Type} (enc : α → List Value) (size : Nat) (w : World) (xs : List α) (e : Ending) (w' : World) : Prop :=
  ∃ v, e = .returned v ∧ Rd enc size w' w'.heap.size v xs ∧ Below w.heap.size w w'

set_option maxHeartbeats 1000000 in
theorem plain_any {B : Nat} {v : Value} {xs : List Ent} (w : World) (hx : Rd Ent.enc 3 w B v xs) (hB : B ≤ w.heap.size) (hl : xs.length ≤ 100) :
   Calls Try.prog 15 #[v] w (RetRd REnt.enc 2 w (xs.map Ent.plain)) := by
  have hx' := hx
  obtain ⟨A, cap, rfl, h1, h2, -⟩ := hx
  unfold maxLen at h2
  go_enter Try.func15, Try.ntmps15
  go_wp2
  go_loopw [3, 4] (fun out i wr => ∃ k : Nat, k ≤ xs.length ∧ i = .int .i64 k ∧ Own REnt.enc 2 53 wr w.heap.size out ((xs.take k).map Ent.plain) ∧ Below w.heap.size w wr) (fun _ i _ => xs.length - (intOf i).toNat)
  case atStart => exact ⟨0, Nat.zero_le _, rfl, Own.nil _ _ _ _ _, Below.refl _ _⟩
  case round =>
    obtain ⟨k, hk, rfl, hown, hbel⟩ := hrel
    by_cases hlt : k < xs.length
    · obtain ⟨X, hxk⟩ := get_lt hlt
      obtain ⟨b, off, rfl, hb, hc⟩ := (hx'.below hbel hB).at_ hxk
      have HX := Lib.hid hxk
      obtain ⟨ax, bx, sx⟩ := X
      have c1 : wr.cell? ⟨b, off + k * 3 + 1, none⟩ = some (.bool bx) := hc k _ HX.out 1 _ rfl
      have c2 : wr.cell? ⟨b, off + k * 3 + 2, none⟩ = some (.string sx) := hc k _ HX.out 2 _ rfl
      clear hc hxk hx'
      have hsz := hbel.size
      go_wp2
      go_region_held3 (fun w' => w'.cell? ⟨b, off + k * 3 + 1, none⟩ = some (.bool bx) ∧ w'.cell? ⟨b, off + k * 3 + 2, none⟩ = some (.string sx))
        (first | go_keep | (go_split_ands; refine ⟨?_, ?_⟩ <;> (rw [hb1.cell (by simp only []; omega)]; assumption)))
        ((refine step_append_one _ (by rfl) _ _ _ (by rfl) REnt.enc REnt.enc_len REnt.enc_one T37 w.heap.size _ _ (by rfl) (hown.alloc _).drew ⟨bx, sx⟩ _ #[.bool bx, .string sx] (by rfl) (by rfl) (heap_alloc_new _ _) (by simp; omega) (by simp; omega) ?_; intro v1 w1 hown1 hb1 hO1 hloc1))
      go_wp2
      go_roundw
      case rel =>
        refine ⟨k + 1, by omega, by go_num, ?_, ?_⟩
        · rw [take_snoc HX.out, List.map_append]; exact hown1
        · refine Below.trans ?_ hb1
          ((repeat (first | exact Below.refl _ _ | assumption | refine Below.alloc ?_ (by first | omega | (simp; done) | (simp; omega)) _ | refine Below.setCell ?_ (by first | omega | (simp; done) | (simp; omega)) _ | refine Below.drew ?_ | refine below_drewN ?_ _)); done)
      case measure => simp [intOf]; omega
    · go_wp2
      go_ret
      rw [take_len_le (by omega)] at hown
      exact ⟨_, rfl, hown.rd REnt.enc_len (by simp [maxLen]; omega), hbel⟩

set_option maxHeartbeats 400000 in
theorem len_nil (w : World) : Calls Try.prog 13 #[.pointer none] w fun e w' => e = .returned (.int .i64 0) ∧ w' = w := by
  go_enter Try.func13, Try.ntmps13
  go_wp2
  go_ret
  exact ⟨rfl, rfl⟩
theorem len_any (D : Nat) (n : Int) (w : World) (hc : w.cell? ⟨D, 1, none⟩ = some (.int .i64 n)) : Calls Try.prog 13 #[.pointer (some ⟨D, 0, none⟩)] w fun e w' => e = .returned (.int .i64 n) ∧ w' = w := by
  go_enter Try.func13, Try.ntmps13
  go_wp2
  go_ret
  exact ⟨rfl, rfl⟩
end Go.Proofs.Ytddnphidmpidcaa
