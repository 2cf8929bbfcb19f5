import Derived.Test.YtddnphidmpidcaaKW9
namespace Go.Proofs.Ytddnphidmpidcaa
open Go Go.RowKit
open Go.Maps (Keyed)

theorem ba_beq (a b : ByteArray) : (a == b) = true ↔ a = b := by
  rw [beq_toListBytes, ByteArray.toList_eq, ByteArray.toList_eq]
  obtain ⟨x⟩ := a; obtain ⟨y⟩ := b
  simp

def Ent.bad (x y : Ent) : Bool := x.has && matchB x.has y.has x.key y.key
/-- an entry before k that has this key -/
def HasKey (xs : List Ent) (k : Nat) (s : ByteArray) : Prop := ∃ (j : Nat) (y : Ent), j < k ∧ xs[j]? = some y ∧ y.has = true ∧ y.key = s
noncomputable def cntK (xs : List Ent) (k : Nat) (s : ByteArray) : Int := @ite _ (HasKey xs k s) (Classical.propDecidable _) 1 0
theorem cntK_yes {xs : List Ent} {k : Nat} {s : ByteArray} (h : HasKey xs k s) : cntK xs k s = 1 := by simp [cntK, h]
theorem cntK_no {xs : List Ent} {k : Nat} {s : ByteArray} (h : ¬ HasKey xs k s) : cntK xs k s = 0 := by simp [cntK, h]
theorem cntK_congr {xs ys : List Ent} {k j : Nat} {s t : ByteArray} (h : HasKey xs k s ↔ HasKey ys j t) : cntK xs k s = cntK ys j t := by
  by_cases h1 : HasKey xs k s
  · rw [cntK_yes h1, cntK_yes (h.1 h1)]
  · rw [cntK_no h1, cntK_no (fun h2 => h1 (h.2 h2))]
theorem hasKey_snoc {xs : List Ent} {k : Nat} {X : Ent} (hX : xs[k]? = some X) (s : ByteArray) : HasKey xs (k + 1) s ↔ HasKey xs k s ∨ (X.has = true ∧ X.key = s) := by
  constructor
  · rintro ⟨j, y, hj, hy, h1, h2⟩
    rcases Nat.lt_succ_iff_lt_or_eq.1 hj with h | h
    · exact Or.inl ⟨j, y, h, hy, h1, h2⟩
    · subst h; rw [hX] at hy; cases hy; exact Or.inr ⟨h1, h2⟩
  · rintro (⟨j, y, hj, hy, h1, h2⟩ | ⟨h1, h2⟩)
    · exact ⟨j, y, by omega, hy, h1, h2⟩
    · exact ⟨k, X, by omega, hX, h1, h2⟩

theorem L9 : Keyed Try.prog 9 := Maps.string_keyed Try.underlying9
theorem zero3 (w : World) : (zeroValue 3).run Try.prog w = .ok (.int .i64 0) w := by kernel_rfl
noncomputable def uniqueE (xs : List Ent) : Int := if pairB Ent.bad xs then 0 else 23

set_option maxHeartbeats 2000000 in
theorem unique_any {B : Nat} {v : Value} {xs : List Ent} (w : World) (hx : Rd Ent.enc 3 w B v xs) (hB : B ≤ w.heap.size) (hkx : ∀ x ∈ xs, x.key.size ≤ maxLen) :
   Calls Try.prog 18 #[v] w fun e w' => e = .returned (.int .i64 (uniqueE xs)) ∧ Below w.heap.size w w' := by
  have hx' := hx
  obtain ⟨A, cap, rfl, h1, h2, -⟩ := hx
  unfold maxLen at h2
  have hmm := @run_makeMap Try.prog
  go_enter Try.func18, Try.ntmps18
  go_wp2
  go_loopw [9] (fun i wr => ∃ (k : Nat) (f : Value → Value), k ≤ xs.length ∧ i = .int .i64 k ∧ MapIs Try.prog 9 wr w.heap.size (.int .i64 0) f ∧ Hid (∀ s, f (.string s) = .int .i64 (cntK xs k s)) ∧ Hid (PairN Ent.bad (xs.take k)) ∧ Below w.heap.size w wr ∧ w.heap.size < wr.heap.size) (fun i _ => xs.length - (intOf i).toNat)
  case atStart =>
    refine ⟨0, fun _ => .int .i64 0, Nat.zero_le _, rfl, MapIs.made _ _ _ _, fun s => ?_, PairN.zero _ _, by ((repeat (first | exact Below.refl _ _ | assumption | refine Below.alloc ?_ (by first | omega | (simp; done) | (simp; omega)) _ | refine Below.setCell ?_ (by first | omega | (simp; done) | (simp; omega)) _ | refine Below.drew ?_ | refine below_drewN ?_ _)); done), by simp⟩
    rw [cntK_no (fun ⟨j, _, hj, _⟩ => absurd hj (Nat.not_lt_zero _))]
  case round =>
    obtain ⟨k, f, hk, rfl, hmap, hf, hno, hbel, hsz⟩ := hrel
    by_cases hlt : k < xs.length
    · obtain ⟨X, hxk⟩ := get_lt hlt
      obtain ⟨b, off, rfl, hb, hc⟩ := (hx'.below hbel hB).at_ hxk
      have HX := Lib.hid hxk
      have hkey := hkx X (List.mem_of_getElem? hxk)
      obtain ⟨ax, bx, sx⟩ := X
      have c0 : wr.cell? ⟨b, off + k * 3, none⟩ = some (.int .i64 ax) := hc k _ HX.out 0 _ rfl
      have c1 : wr.cell? ⟨b, off + k * 3 + 1, none⟩ = some (.bool bx) := hc k _ HX.out 1 _ rfl
      have c2 : wr.cell? ⟨b, off + k * 3 + 2, none⟩ = some (.string sx) := hc k _ HX.out 2 _ rfl
      clear hc hxk hx' hkx
      cases bx
      · go_wp2
        go_roundw
        case rel =>
          refine ⟨k + 1, f, by omega, by go_num, hmap.below (B := wr.heap.size) (by ((repeat (first | exact Below.refl _ _ | assumption | refine Below.alloc ?_ (by first | omega | (simp; done) | (simp; omega)) _ | refine Below.setCell ?_ (by first | omega | (simp; done) | (simp; omega)) _ | refine Below.drew ?_ | refine below_drewN ?_ _)); done)) hsz, fun s => ?_, hno.out.snoc HX.out (fun j y _ _ => rfl), by ((repeat (first | exact Below.refl _ _ | assumption | refine Below.alloc ?_ (by first | omega | (simp; done) | (simp; omega)) _ | refine Below.setCell ?_ (by first | omega | (simp; done) | (simp; omega)) _ | refine Below.drew ?_ | refine below_drewN ?_ _)); done), by simp; omega⟩
          rw [hf.out]
          have : HasKey xs (k + 1) s ↔ HasKey xs k s := by rw [hasKey_snoc HX.out]; simp
          rw [cntK_congr this]
        case measure => simp [intOf]; omega
      · have hkl : keyOf Try.prog 9 (.string sx) = some (.string sx.data.toList) := by simp [keyOf, mapKey, Try.underlying9]; exact hkey
        have hmapR := hmap.below (B := wr.heap.size) (w' := wr.alloc (.cells #[.int .i64 ax, .bool true, .string sx] 27)) (by ((repeat (first | exact Below.refl _ _ | assumption | refine Below.alloc ?_ (by first | omega | (simp; done) | (simp; omega)) _ | refine Below.setCell ?_ (by first | omega | (simp; done) | (simp; omega)) _ | refine Below.drew ?_ | refine below_drewN ?_ _)); done)) hsz
        have hlk := hmapR.lookup L9 Try.underlying55 (zero3 _) hkl
        have hbelR : Below w.heap.size w (wr.alloc (.cells #[.int .i64 ax, .bool true, .string sx] 27)) := by ((repeat (first | exact Below.refl _ _ | assumption | refine Below.alloc ?_ (by first | omega | (simp; done) | (simp; omega)) _ | refine Below.setCell ?_ (by first | omega | (simp; done) | (simp; omega)) _ | refine Below.drew ?_ | refine below_drewN ?_ _)); done)
        have hszR : (wr.alloc (.cells #[.int .i64 ax, .bool true, .string sx] 27)).heap.size = wr.heap.size + 1 := by simp
        have hcx : (wr.alloc (.cells #[.int .i64 ax, .bool true, .string sx] 27)).cell? ⟨wr.heap.size, 2, none⟩ = some (.string sx) := by rw [cell_of_row _ _ 2 _ _ _ (heap_alloc_new _ _)]; rfl
        rw [hf.out] at hlk
        by_cases hh : HasKey xs k sx
        · rw [cntK_yes hh] at hlk
          obtain ⟨w3, hrun3, hm3, hO3, hz3⟩ := hmapR.update L9 Try.underlying55 hkl (.int .i64 2)
          have hlk3 := hm3.lookup L9 Try.underlying55 (zero3 _) hkl
          rw [putAt_same] at hlk3
          have hcx3 := hO3.cell hcx (by simp only []; omega)
          have hbad : pairB Ent.bad xs = false := by
            obtain ⟨j, y, hj, hy, e1, e2⟩ := hh
            refine pairB_false.2 (PairN.bad hj HX.out hy ?_)
            subst e2
            simp [Ent.bad, matchB, e1, ba_beq]
          have hO : Below w.heap.size w w3 := hbelR.trans (hO3.below (by omega) (fun k hk hh => by omega))
          have HU : Hid (uniqueE xs = 23) := by unfold uniqueE Hid; rw [hbad]; rfl
          clear hbad hh hszR hz3
          go_wp2
          go_ret
          exact ⟨ret_int HU.out.symm, hO⟩
        · rw [cntK_no hh] at hlk
          obtain ⟨w3, hrun3, hm3, hO3, hz3⟩ := hmapR.update L9 Try.underlying55 hkl (.int .i64 1)
          have hlk3 := hm3.lookup L9 Try.underlying55 (zero3 _) hkl
          rw [putAt_same] at hlk3
          have hcx3 := hO3.cell hcx (by simp only []; omega)
          have hO : Below w.heap.size w w3 := hbelR.trans (hO3.below (by omega) (fun k hk hh => by omega))
          have HZ := Lib.hid hz3
          have HH := Lib.hid hh
          have hsz3 : w.heap.size < w3.heap.size := by omega
          clear hszR hz3 hh
          go_wp2
          go_roundw
          case rel =>
            refine ⟨k + 1, _, by omega, by go_num, hm3, fun s => ?_, hno.out.snoc HX.out (fun j y hj hy => ?_), hO, hsz3⟩
            · by_cases hs : s = sx
              · subst hs
                rw [putAt_same, cntK_yes ((hasKey_snoc HX.out _).2 (Or.inr ⟨rfl, rfl⟩))]
              · rw [putAt_other _ _ (by simpa using hs), hf.out]
                rw [cntK_congr (s := s) (t := s) (xs := xs) (ys := xs) (k := k + 1) (j := k) (by rw [hasKey_snoc HX.out]; simp; exact fun e => absurd e.symm hs)]
            · cases hb0 : Ent.bad ⟨ax, true, sx⟩ y
              · rfl
              · simp [Ent.bad, matchB, ba_beq] at hb0
                exact absurd ⟨j, y, hj, hy, hb0.1, hb0.2.symm⟩ HH.out
          case measure => simp [intOf]; omega
    · go_wp2
      go_ret
      have h0 := pairB_true.2 (by have := hno.out; rwa [take_len_le (by omega)] at this)
      exact ⟨by simp [uniqueE, h0], hbel⟩
end Go.Proofs.Ytddnphidmpidcaa
