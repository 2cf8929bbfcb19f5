import Derived.Test.YtgkmmlffnfpjaaaDoorWords
import Derived.Test.YtgkmmlffnfpjaaaDoorProg
import Derived.Shelf.Unicode.DecodeSlow
namespace Go.Proofs.YtgkmmlffnfpjaaaDoor
open Go Go.RowKit

def spansL : List (Int × Int) := [(9, 10), (13, 13), (32, 55295), (57344, 65533), (65536, 1114111)]
def encP (p : Int × Int) : List Value := [.int .i32 p.1, .int .i32 p.2]
theorem encP_len (p : Int × Int) : (encP p).length = 2 := rfl
/-- the program's variables hold what their text lays -/
structure Tabs (w : World) : Prop where
  first : ∀ c, c < 256 → w.cell? ⟨1, c, none⟩ = some (.int .u8 (Lib.firstT c))
  acc : ∀ i, i < 16 → w.cell? ⟨2, 2 * i, none⟩ = some (.int .u8 (Lib.accLo i)) ∧ w.cell? ⟨2, 2 * i + 1, none⟩ = some (.int .u8 (Lib.accHi i))
  spans : ∀ (i : Nat) (p : Int × Int), spansL[i]? = some p → ∀ (j : Nat) (u : Value), (encP p)[j]? = some u → w.cell? ⟨0, i * 2 + j, none⟩ = some u
theorem Tabs.lt {w : World} (T : Tabs w) : 2 < w.heap.size := World.block_lt_of_cell? w _ (T.acc 0 (by omega)).1
theorem Tabs.keep {w w' : World} (T : Tabs w) {B : Nat} (hb : Below B w w') (hB : 2 < B) : Tabs w' :=
  ⟨fun c hc => Below.cell_some hb (T.first c hc) (show 1 < B by omega), fun i hi => ⟨Below.cell_some hb (T.acc i hi).1 hB, Below.cell_some hb (T.acc i hi).2 hB⟩, fun i p hp j u hu => Below.cell_some hb (T.spans i p hp j u hu) (show 0 < B by omega)⟩
theorem Tabs.below {w w' : World} (T : Tabs w) (hb : Below w.heap.size w w') : Tabs w' := T.keep hb T.lt
theorem Tabs.rd {w : World} (T : Tabs w) : Rd encP 2 w w.heap.size (.slice (some ⟨0, 0, none⟩) 5 5) spansL :=
  ⟨_, _, rfl, by decide, by simp [maxLen], fun _ => ⟨0, 0, rfl, by have := T.lt; omega, fun i p hp j u hu => by rw [Nat.zero_add]; exact T.spans i p hp j u hu⟩⟩

/-- a character lies in a span -/
def inB (p : Int × Int) (r : Int) : Bool := decide (p.1 ≤ r) && decide (r ≤ p.2)
/-- a number is a character -/
def isB (r : Int) : Bool := spansL.any (fun p => inB p r)
theorem isB_iff (r : Int) : isB r = true ↔ r = 9 ∨ r = 10 ∨ r = 13 ∨ (32 ≤ r ∧ r ≤ 55295) ∨ (57344 ≤ r ∧ r ≤ 65533) ∨ (65536 ≤ r ∧ r ≤ 1114111) := by
  simp [isB, spansL, inB]
  omega

set_option maxHeartbeats 1000000 in
theorem inspan_any (p : Int × Int) (r : Int) (c : Nat) (w : World) (hc : w.cell? ⟨c, 0, none⟩ = some (.int .i32 r)) : Calls Tryd.prog 22 #[.agg #[.int .i32 p.1, .int .i32 p.2], .pointer (some ⟨c, 0, none⟩)] w fun e w' => e = .returned (.bool (inB p r)) ∧ Below w.heap.size w w' := by
  have hlt : c < w.heap.size := World.block_lt_of_cell? w _ hc
  unfold inB
  have hlt' : c < (w.alloc (.cells #[.int .i32 p.1, .int .i32 p.2] 53)).heap.size := by simp; omega
  by_cases h1 : p.1 ≤ r
  · have hd1 : decide (p.1 ≤ r) = true := decide_eq_true h1
    by_cases h2 : r ≤ p.2
    · have hd2 : decide (r ≤ p.2) = true := decide_eq_true h2
      go_enter Tryd.func22, Tryd.ntmps22
      go_wp2_with fail
      go_ret
      exact ⟨ret_bool (by first | (simp; done) | (simp; omega) | (simp_all; done) | (simp_all; omega)), by ((repeat (first | exact Below.refl _ _ | assumption | refine Below.alloc ?_ (by first | omega | (simp; done) | (simp; omega)) _ | refine Below.setCell ?_ (by first | omega | (simp; done) | (simp; omega)) _ | refine Below.drew ?_ | refine below_drewN ?_ _)); done)⟩
    · have hd2 : decide (r ≤ p.2) = false := decide_eq_false h2
      go_enter Tryd.func22, Tryd.ntmps22
      go_wp2_with fail
      go_ret
      exact ⟨ret_bool (by first | (simp; done) | (simp; omega) | (simp_all; done) | (simp_all; omega)), by ((repeat (first | exact Below.refl _ _ | assumption | refine Below.alloc ?_ (by first | omega | (simp; done) | (simp; omega)) _ | refine Below.setCell ?_ (by first | omega | (simp; done) | (simp; omega)) _ | refine Below.drew ?_ | refine below_drewN ?_ _)); done)⟩
  · have hd1 : decide (p.1 ≤ r) = false := decide_eq_false h1
    go_enter Tryd.func22, Tryd.ntmps22
    go_wp2_with fail
    go_ret
    exact ⟨ret_bool (by first | (simp; done) | (simp; omega) | (simp_all; done) | (simp_all; omega)), by ((repeat (first | exact Below.refl _ _ | assumption | refine Below.alloc ?_ (by first | omega | (simp; done) | (simp; omega)) _ | refine Below.setCell ?_ (by first | omega | (simp; done) | (simp; omega)) _ | refine Below.drew ?_ | refine below_drewN ?_ _)); done)⟩

set_option maxHeartbeats 4000000 in
theorem indexsp_any {r : Int} {c : Nat} (w : World) (T : Tabs w) (hc : w.cell? ⟨c, 0, none⟩ = some (.int .i32 r)) :
   Calls Tryd.prog 25 #[.slice (some ⟨0, 0, none⟩) 5 5, .func (.func 22) #[] #[.pointer (some ⟨c, 0, none⟩)]] w fun e w' => (∃ i : Int, e = .returned (.int .i64 i) ∧ decide (0 ≤ i) = isB r ∧ -1 ≤ i) ∧ Below w.heap.size w w' := by
  have hclt : c < w.heap.size := World.block_lt_of_cell? w _ hc
  go_enter Tryd.func25, Tryd.ntmps25
  go_wp2_with fail
  go_loopw [5, 8] (fun _ i wr => ∃ k : Nat, k ≤ 5 ∧ i = .int .i64 k ∧ Hid (∀ (j : Nat) (p : Int × Int), j < k → spansL[j]? = some p → inB p r = false) ∧ Below w.heap.size w wr) (fun _ i _ => 5 - (intOf i).toNat)
  case atStart => exact ⟨0, Nat.zero_le _, rfl, fun j p h => absurd h (by omega), Below.refl _ _⟩
  case round =>
    obtain ⟨k, hk, rfl, hno, hbel⟩ := hrel
    by_cases hlt : k < 5
    · obtain ⟨p, hp⟩ := get_lt (show k < spansL.length from hlt)
      have Tr := T.below hbel
      have c1 : wr.cell? ⟨0, k * 2, none⟩ = some (.int .i32 p.1) := by simpa using Tr.spans k p hp 0 _ rfl
      have c2 : wr.cell? ⟨0, k * 2 + 1, none⟩ = some (.int .i32 p.2) := Tr.spans k p hp 1 _ rfl
      have hcr := Below.cell_some hbel hc hclt
      have HP := Lib.hid hp
      have hin := inspan_any p r c wr hcr
      have hsz := hbel.size
      clear hp Tr hcr
      go_wp2_with fail
      refine hin.mono ?_
      rintro e w1 ⟨rfl, hb1⟩
      clear hin
      have hb01 := hbel.trans (hb1.mono hsz)
      cases hr : inB p r
      · have hn : Hid (∀ (j : Nat) (p : Int × Int), j < k + 1 → spansL[j]? = some p → inB p r = false) := by
          intro j q hj hq
          by_cases e : j = k
          · subst e
            rw [HP.out] at hq; cases hq; exact hr
          · exact hno.out j q (by omega) hq
        clear hr hno
        go_wp2_with fail
        go_roundw
        case rel => exact ⟨k + 1, by omega, by go_num, hn, hb01⟩
        case measure => simp [intOf]; omega
      · have hfin : Hid (isB r = true) := List.any_eq_true.2 ⟨p, List.mem_of_getElem? HP.out, hr⟩
        clear hr hno
        go_wp2_with fail
        go_ret
        exact ⟨⟨(k : Int), rfl, by rw [hfin.out]; exact decide_eq_true (by omega), by omega⟩, hb01⟩
    · obtain rfl : k = 5 := by omega
      have hfin : Hid (isB r = false) := by
        unfold Hid isB
        rw [List.any_eq_false]
        intro p hm
        obtain ⟨j, hj⟩ := List.mem_iff_getElem?.1 hm
        have := hno.out j p (show j < 5 from (List.getElem?_eq_some_iff.1 hj).1) hj
        simp [this]
      clear hno
      go_wp2_with fail
      go_ret
      exact ⟨⟨-1, rfl, by rw [hfin.out]; rfl, by omega⟩, hbel⟩

set_option maxHeartbeats 4000000 in
theorem containssp_any {r : Int} {c : Nat} (w : World) (T : Tabs w) (hc : w.cell? ⟨c, 0, none⟩ = some (.int .i32 r)) :
   Calls Tryd.prog 21 #[.slice (some ⟨0, 0, none⟩) 5 5, .func (.func 22) #[] #[.pointer (some ⟨c, 0, none⟩)]] w fun e w' => e = .returned (.bool (isB r)) ∧ Below w.heap.size w w' := by
  have hidx := indexsp_any w T hc
  go_enter Tryd.func21, Tryd.ntmps21
  go_wp2_with fail
  refine hidx.mono ?_
  rintro e w1 ⟨⟨i, rfl, hi, hlo⟩, hb1⟩
  have HI := Lib.hid hi
  clear hi hidx
  go_wp2_with fail
  go_ret
  exact ⟨ret_bool HI.out, hb1⟩

set_option maxHeartbeats 4000000 in
theorem is_any (r : Int) (w : World) (T : Tabs w) : Calls Tryd.prog 15 #[.int .i32 r] w fun e w' => e = .returned (.bool (isB r)) ∧ Below w.heap.size w w' := by
  have hb0 : Below w.heap.size w (w.alloc (.cells #[.int .i32 r] 21)) := by ((repeat (first | exact Below.refl _ _ | assumption | refine Below.alloc ?_ (by first | omega | (simp; done) | (simp; omega)) _ | refine Below.setCell ?_ (by first | omega | (simp; done) | (simp; omega)) _ | refine Below.drew ?_ | refine below_drewN ?_ _)); done)
  have hc0 : (w.alloc (.cells #[.int .i32 r] 21)).cell? ⟨w.heap.size, 0, none⟩ = some (.int .i32 r) := by rw [cell_of_row _ _ _ _ _ _ (heap_alloc_new _ _)]; rfl
  have hidx := containssp_any (c := w.heap.size) _ (T.below hb0) hc0
  clear hc0
  go_enter Tryd.func15, Tryd.ntmps15
  go_wp2_with fail
  refine hidx.mono ?_
  rintro e w1 ⟨rfl, hb1⟩
  go_wp2_with fail
  go_ret
  exact ⟨rfl, hb0.trans (hb1.mono (by simp))⟩
end Go.Proofs.YtgkmmlffnfpjaaaDoor
