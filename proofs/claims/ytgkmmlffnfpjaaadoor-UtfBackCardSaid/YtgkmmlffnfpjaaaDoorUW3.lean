import Derived.Test.YtgkmmlffnfpjaaaDoorUW2
namespace Go.Proofs.YtgkmmlffnfpjaaaDoor
open Go Go.RowKit

set_option maxHeartbeats 4000000 in
theorem decrune_any {B : Nat} {v : Value} {bs : List UInt8} (w : World) (hx : Rd encU 1 w B v bs) (hB : B ≤ w.heap.size) (T : Tabs w) (hn : 0 < bs.length) :
    Calls Tryd.prog 23 #[v] w fun e w' => e = .returned (.tuple #[.int .i32 ((decL bs).1 : Nat), .int .i64 ((decL bs).2 : Nat)]) ∧ Below w.heap.size w w' := by
  have hx' := hx
  obtain ⟨A, cap, rfl, h1, h2, -⟩ := hx
  have hslow := slow_any w hx' hB T hn
  unfold maxLen at h2
  obtain ⟨b, off, rfl, hb, hc⟩ := rd_cell hx' hn
  have c0 : w.cell? ⟨b, off, none⟩ = some (.int .u8 (byt bs 0 : Int)) := by have := hc 0 hn; rwa [Nat.add_zero] at this
  have l0 := byt_lt bs 0
  have hz0 : (0 : Int) < (bs.length : Int) := by omega
  clear hc
  by_cases ha : byt bs 0 < 128
  · have hd : decL bs = (byt bs 0, 1) := by
      unfold decL Lib.decodeN
      rw [if_neg (by omega), if_pos ha]
    have had : decide ((byt bs 0 : Int) < 128) = true := decide_eq_true (by omega)
    rw [hd]
    clear hslow hd
    generalize byt bs 0 = x0 at c0 l0 ha had ⊢
    go_enter Tryd.func23, Tryd.ntmps23
    go_wp2_with fail
    go_loopw [5, 8] (fun _ i wr => i = .int .i64 (0 : Int) ∧ wr = w) (fun _ _ _ => 0)
    case atStart => exact ⟨rfl, rfl⟩
    case round =>
      obtain ⟨rfl, rfl⟩ := hrel
      go_wp2_with fail
      go_ret2
      exact ⟨rfl, Below.refl _ _⟩
  · have had : decide ((byt bs 0 : Int) < 128) = false := decide_eq_false (by omega)
    obtain ⟨d, hd⟩ : ∃ d, d = decL bs := ⟨_, rfl⟩
    rw [← hd] at hslow ⊢
    clear hd
    generalize byt bs 0 = x0 at c0 l0 ha had
    go_enter Tryd.func23, Tryd.ntmps23
    go_wp2_with fail
    go_loopw [5, 8] (fun _ i wr => i = .int .i64 (0 : Int) ∧ wr = w) (fun _ _ _ => 0)
    case atStart => exact ⟨rfl, rfl⟩
    case round =>
      obtain ⟨rfl, rfl⟩ := hrel
      go_wp2_with fail
      refine hslow.mono ?_
      rintro e w1 ⟨rfl, hb1⟩
      go_wp2_with fail
      go_ret2
      exact ⟨rfl, hb1⟩
end Go.Proofs.YtgkmmlffnfpjaaaDoor
