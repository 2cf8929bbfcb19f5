import Derived.Test.YtgkmmlffnfpjaaaDoorUW1
import Derived.Lib.DecodeNEq
import Derived.Laws.BitsLemmas
import Derived.Deep.DeepFit
namespace Go.Proofs.YtgkmmlffnfpjaaaDoor
open Go Go.RowKit

def encU (x : UInt8) : List Value := [.int .u8 (x.toNat : Int)]
theorem encU_len (x : UInt8) : (encU x).length = 1 := rfl
theorem encU_one (x : UInt8) : ∀ u ∈ encU x, u.oneCell' = true := by simp [encU, Value.oneCell']
def byt (bs : List UInt8) (i : Nat) : Nat := (bs.getD i 0).toNat
theorem byt_lt (bs : List UInt8) (i : Nat) : byt bs i < 256 := (bs.getD i 0).toNat_lt
theorem byt_get {bs : List UInt8} {i : Nat} {x : UInt8} (h : bs[i]? = some x) : byt bs i = x.toNat := by
  unfold byt; rw [List.getD_eq_getElem?_getD, h]; rfl
/-- what decoding gives at the beginning of bytes -/
def decL (bs : List UInt8) : Nat × Nat := if bs.length = 0 then (65533, 0) else Lib.decodeN bs.length (byt bs 0) (byt bs 1) (byt bs 2) (byt bs 3)
theorem rd_cell {B : Nat} {A : Option Addr} {n cap : Nat} {bs : List UInt8} {w : World} (h : Rd encU 1 w B (.slice A n cap) bs) {i : Nat} (hi : i < bs.length) : ∃ b off, A = some ⟨b, off, none⟩ ∧ b < B ∧ ∀ j, j < bs.length → w.cell? ⟨b, off + j, none⟩ = some (.int .u8 (byt bs j : Int)) := by
  obtain ⟨x, hx⟩ := get_lt hi
  obtain ⟨b, off, hA, hb, hc⟩ := h.at_ hx
  refine ⟨b, off, hA, hb, fun j hj => ?_⟩
  obtain ⟨y, hy⟩ := get_lt hj
  have := hc j y hy 0 _ rfl
  rw [byt_get hy]
  simpa using this
theorem keep_byte (n : Nat) (h : n < 256) : bits .or .i32 (bits .andNot .i32 ((n : Nat) : Int) 0) (bits .and .i32 65533 0) = ((n : Nat) : Int) := Utf8W.keep_byte ⟨n, h⟩
theorem drop_byte (n : Nat) (h : n < 256) : bits .or .i32 (bits .andNot .i32 ((n : Nat) : Int) (-1)) (bits .and .i32 65533 (-1)) = 65533 := Utf8W.drop_byte ⟨n, h⟩

set_option maxHeartbeats 8000000 in
set_option maxRecDepth 1000000 in
theorem slow_any {B : Nat} {v : Value} {bs : List UInt8} (w : World) (hx : Rd encU 1 w B v bs) (hB : B ≤ w.heap.size) (T : Tabs w) (hn : 0 < bs.length) :
    Calls Tryd.prog 26 #[v] w fun e w' => e = .returned (.tuple #[.int .i32 ((decL bs).1 : Nat), .int .i64 ((decL bs).2 : Nat)]) ∧ Below w.heap.size w w' := by
  have hx' := hx
  obtain ⟨A, cap, rfl, h1, h2, -⟩ := hx
  unfold maxLen at h2
  obtain ⟨b, off, rfl, hb, hc⟩ := rd_cell hx' hn
  have hbw : b < w.heap.size := by omega
  obtain ⟨n, hnn⟩ : ∃ n, n = bs.length := ⟨_, rfl⟩
  obtain ⟨x0, hx0⟩ : ∃ x, x = byt bs 0 := ⟨_, rfl⟩
  obtain ⟨x1, hx1⟩ : ∃ x, x = byt bs 1 := ⟨_, rfl⟩
  obtain ⟨x2, hx2⟩ : ∃ x, x = byt bs 2 := ⟨_, rfl⟩
  obtain ⟨x3, hx3⟩ : ∃ x, x = byt bs 3 := ⟨_, rfl⟩
  have l0 : x0 < 256 := hx0 ▸ byt_lt bs 0
  have l1 : x1 < 256 := hx1 ▸ byt_lt bs 1
  have l2 : x2 < 256 := hx2 ▸ byt_lt bs 2
  have l3 : x3 < 256 := hx3 ▸ byt_lt bs 3
  have hdec : decL bs = Lib.decodeN n x0 x1 x2 x3 := by
    unfold decL
    rw [if_neg (by omega), ← hnn, ← hx0, ← hx1, ← hx2, ← hx3]
  have c0 : w.cell? ⟨b, off, none⟩ = some (.int .u8 (x0 : Int)) := by have := hc 0 hn; rw [Nat.add_zero] at this; rw [hx0]; exact this
  have hc1 : 1 < n → w.cell? ⟨b, off + 1, none⟩ = some (.int .u8 (x1 : Int)) := fun h => by rw [hx1]; exact hc 1 (by omega)
  have hc2 : 2 < n → w.cell? ⟨b, off + 2, none⟩ = some (.int .u8 (x2 : Int)) := fun h => by rw [hx2]; exact hc 2 (by omega)
  have hc3 : 3 < n → w.cell? ⟨b, off + 3, none⟩ = some (.int .u8 (x3 : Int)) := fun h => by rw [hx3]; exact hc 3 (by omega)
  rw [hdec]
  rw [← hnn] at h1 hn ⊢
  clear hdec hc hx' hx0 hx1 hx2 hx3 hnn
  have hfc := T.first x0 l0
  have hacc := T.acc
  have hres : Lib.firstT x0 < 240 → Lib.decodeN n x0 x1 x2 x3 = Lib.slowN n x0 x1 x2 x3 (Lib.firstT x0 % 8) (Lib.accLo (Lib.firstT x0 / 16)) (Lib.accHi (Lib.firstT x0 / 16)) :=
    fun h => (Lib.slow_eq _ _ _ _ _ (by omega) (by omega) (by omega) (by omega) h).symm
  have hz0 : (0 : Int) < (n : Int) := by omega
  have hz0' : ¬ ((n : Int) < 1) := by omega
  rcases Lib.firstT_cases x0 with hX | hX | hX | hX | hX | hX | hX | hX | hX
  · rw [Lib.ascii_eq _ _ _ _ _ hX]
    rw [hX] at hfc
    clear hres hacc hX hc1 hc2 hc3 T
    go_enter Tryd.func26, Tryd.ntmps26
    go_wp2
    rw [Utf8W.mask240, keep_byte x0 l0]
    go_ret2
    exact ⟨rfl, Below.refl _ _⟩
  · rw [Lib.bad_eq _ _ _ _ _ (by omega) hX]
    rw [hX] at hfc
    clear hres hacc hX hc1 hc2 hc3 T
    go_enter Tryd.func26, Tryd.ntmps26
    go_wp2
    rw [Utf8W.mask241, drop_byte x0 l0]
    go_ret2
    exact ⟨rfl, Below.refl _ _⟩
  all_goals replace hres := hres (by omega)
  · rw [hX] at hfc hres
    have ha0 := (hacc 0 (by omega)).1
    have ha1 := (hacc 0 (by omega)).2
    simp only [Lib.accLo, Lib.accHi, Nat.reduceMul, Nat.reduceAdd, Nat.reduceEqDiff, if_true, if_false, Nat.reduceMod, Nat.reduceDiv] at ha0 ha1 hres
    rw [hres]
    clear hres hacc hX T
    by_cases hs : n < 2
    · have hnz : (n : Int) < 2 := by omega
      clear hc1 hc2 hc3
      go_enter Tryd.func26, Tryd.ntmps26
      go_wp2
      all_goals (go_ret2; refine ⟨?_, (Below.refl _ _).alloc (Nat.le_refl _) _⟩; utf8_leaf)
    · have hz1 : (1 : Int) < (n : Int) := by omega
      have e1 := hc1 (by omega)
      clear hc1 hc2 hc3
      go_enter Tryd.func26, Tryd.ntmps26
      go_wp2
      all_goals (go_ret2; refine ⟨?_, (Below.refl _ _).alloc (Nat.le_refl _) _⟩; utf8_leaf)
  · rw [hX] at hfc hres
    have ha0 := (hacc 1 (by omega)).1
    have ha1 := (hacc 1 (by omega)).2
    simp only [Lib.accLo, Lib.accHi, Nat.reduceMul, Nat.reduceAdd, Nat.reduceEqDiff, if_true, if_false, Nat.reduceMod, Nat.reduceDiv] at ha0 ha1 hres
    rw [hres]
    clear hres hacc hX T
    by_cases hs : n < 3
    · have hnz : (n : Int) < 3 := by omega
      clear hc1 hc2 hc3
      go_enter Tryd.func26, Tryd.ntmps26
      go_wp2
      all_goals (go_ret2; refine ⟨?_, (Below.refl _ _).alloc (Nat.le_refl _) _⟩; utf8_leaf)
    · have hz1 : (1 : Int) < (n : Int) := by omega
      have e1 := hc1 (by omega)
      have hz2 : (2 : Int) < (n : Int) := by omega
      have e2 := hc2 (by omega)
      clear hc1 hc2 hc3
      go_enter Tryd.func26, Tryd.ntmps26
      go_wp2
      all_goals (go_ret2; refine ⟨?_, (Below.refl _ _).alloc (Nat.le_refl _) _⟩; utf8_leaf)
  · rw [hX] at hfc hres
    have ha0 := (hacc 0 (by omega)).1
    have ha1 := (hacc 0 (by omega)).2
    simp only [Lib.accLo, Lib.accHi, Nat.reduceMul, Nat.reduceAdd, Nat.reduceEqDiff, if_true, if_false, Nat.reduceMod, Nat.reduceDiv] at ha0 ha1 hres
    rw [hres]
    clear hres hacc hX T
    by_cases hs : n < 3
    · have hnz : (n : Int) < 3 := by omega
      clear hc1 hc2 hc3
      go_enter Tryd.func26, Tryd.ntmps26
      go_wp2
      all_goals (go_ret2; refine ⟨?_, (Below.refl _ _).alloc (Nat.le_refl _) _⟩; utf8_leaf)
    · have hz1 : (1 : Int) < (n : Int) := by omega
      have e1 := hc1 (by omega)
      have hz2 : (2 : Int) < (n : Int) := by omega
      have e2 := hc2 (by omega)
      clear hc1 hc2 hc3
      go_enter Tryd.func26, Tryd.ntmps26
      go_wp2
      all_goals (go_ret2; refine ⟨?_, (Below.refl _ _).alloc (Nat.le_refl _) _⟩; utf8_leaf)
  · rw [hX] at hfc hres
    have ha0 := (hacc 2 (by omega)).1
    have ha1 := (hacc 2 (by omega)).2
    simp only [Lib.accLo, Lib.accHi, Nat.reduceMul, Nat.reduceAdd, Nat.reduceEqDiff, if_true, if_false, Nat.reduceMod, Nat.reduceDiv] at ha0 ha1 hres
    rw [hres]
    clear hres hacc hX T
    by_cases hs : n < 3
    · have hnz : (n : Int) < 3 := by omega
      clear hc1 hc2 hc3
      go_enter Tryd.func26, Tryd.ntmps26
      go_wp2
      all_goals (go_ret2; refine ⟨?_, (Below.refl _ _).alloc (Nat.le_refl _) _⟩; utf8_leaf)
    · have hz1 : (1 : Int) < (n : Int) := by omega
      have e1 := hc1 (by omega)
      have hz2 : (2 : Int) < (n : Int) := by omega
      have e2 := hc2 (by omega)
      clear hc1 hc2 hc3
      go_enter Tryd.func26, Tryd.ntmps26
      go_wp2
      all_goals (go_ret2; refine ⟨?_, (Below.refl _ _).alloc (Nat.le_refl _) _⟩; utf8_leaf)
  · rw [hX] at hfc hres
    have ha0 := (hacc 3 (by omega)).1
    have ha1 := (hacc 3 (by omega)).2
    simp only [Lib.accLo, Lib.accHi, Nat.reduceMul, Nat.reduceAdd, Nat.reduceEqDiff, if_true, if_false, Nat.reduceMod, Nat.reduceDiv] at ha0 ha1 hres
    rw [hres]
    clear hres hacc hX T
    by_cases hs : n < 4
    · have hnz : (n : Int) < 4 := by omega
      clear hc1 hc2 hc3
      go_enter Tryd.func26, Tryd.ntmps26
      go_wp2
      all_goals (go_ret2; refine ⟨?_, (Below.refl _ _).alloc (Nat.le_refl _) _⟩; utf8_leaf)
    · have hz1 : (1 : Int) < (n : Int) := by omega
      have e1 := hc1 (by omega)
      have hz2 : (2 : Int) < (n : Int) := by omega
      have e2 := hc2 (by omega)
      have hz3 : (3 : Int) < (n : Int) := by omega
      have e3 := hc3 (by omega)
      clear hc1 hc2 hc3
      go_enter Tryd.func26, Tryd.ntmps26
      go_wp2
      all_goals (go_ret2; refine ⟨?_, (Below.refl _ _).alloc (Nat.le_refl _) _⟩; utf8_leaf)
  · rw [hX] at hfc hres
    have ha0 := (hacc 0 (by omega)).1
    have ha1 := (hacc 0 (by omega)).2
    simp only [Lib.accLo, Lib.accHi, Nat.reduceMul, Nat.reduceAdd, Nat.reduceEqDiff, if_true, if_false, Nat.reduceMod, Nat.reduceDiv] at ha0 ha1 hres
    rw [hres]
    clear hres hacc hX T
    by_cases hs : n < 4
    · have hnz : (n : Int) < 4 := by omega
      clear hc1 hc2 hc3
      go_enter Tryd.func26, Tryd.ntmps26
      go_wp2
      all_goals (go_ret2; refine ⟨?_, (Below.refl _ _).alloc (Nat.le_refl _) _⟩; utf8_leaf)
    · have hz1 : (1 : Int) < (n : Int) := by omega
      have e1 := hc1 (by omega)
      have hz2 : (2 : Int) < (n : Int) := by omega
      have e2 := hc2 (by omega)
      have hz3 : (3 : Int) < (n : Int) := by omega
      have e3 := hc3 (by omega)
      clear hc1 hc2 hc3
      go_enter Tryd.func26, Tryd.ntmps26
      go_wp2
      all_goals (go_ret2; refine ⟨?_, (Below.refl _ _).alloc (Nat.le_refl _) _⟩; utf8_leaf)
  · rw [hX] at hfc hres
    have ha0 := (hacc 4 (by omega)).1
    have ha1 := (hacc 4 (by omega)).2
    simp only [Lib.accLo, Lib.accHi, Nat.reduceMul, Nat.reduceAdd, Nat.reduceEqDiff, if_true, if_false, Nat.reduceMod, Nat.reduceDiv] at ha0 ha1 hres
    rw [hres]
    clear hres hacc hX T
    by_cases hs : n < 4
    · have hnz : (n : Int) < 4 := by omega
      clear hc1 hc2 hc3
      go_enter Tryd.func26, Tryd.ntmps26
      go_wp2
      all_goals (go_ret2; refine ⟨?_, (Below.refl _ _).alloc (Nat.le_refl _) _⟩; utf8_leaf)
    · have hz1 : (1 : Int) < (n : Int) := by omega
      have e1 := hc1 (by omega)
      have hz2 : (2 : Int) < (n : Int) := by omega
      have e2 := hc2 (by omega)
      have hz3 : (3 : Int) < (n : Int) := by omega
      have e3 := hc3 (by omega)
      clear hc1 hc2 hc3
      go_enter Tryd.func26, Tryd.ntmps26
      go_wp2
      all_goals (go_ret2; refine ⟨?_, (Below.refl _ _).alloc (Nat.le_refl _) _⟩; utf8_leaf)
end Go.Proofs.YtgkmmlffnfpjaaaDoor
