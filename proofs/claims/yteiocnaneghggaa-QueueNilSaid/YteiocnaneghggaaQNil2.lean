import Derived.Test.YteiocnaneghggaaQNil
namespace Go.Proofs.Yteiocnaneghggaa
open Go Go.RowKit

theorem nil_nil68 (W : World) : Sem.run Try.prog (binOp .eql 68 .nilFunc .nilFunc) W = .ok (.bool true) W := by kernel_rfl

set_option maxHeartbeats 4000000 in
theorem newi_nil (w : World) : Calls Try.prog 11 #[.nilFunc] w fun e w' => e = .returned (.tuple #[.pointer none, .int .i64 2]) ∧ Below w.heap.size w w' := by
  have h0 := nil_nil68 w
  go_enter Try.func11, Try.ntmps11
  go_wp2_with fail
  go_ret2
  exact ⟨rfl, by ((repeat (first | exact Below.refl _ _ | assumption | refine Below.alloc ?_ (by first | omega | (simp; done) | (simp; omega)) _ | refine Below.setCell ?_ (by first | omega | (simp; done) | (simp; omega)) _ | refine Below.drew ?_ | refine below_drewN ?_ _)); done)⟩
set_option maxHeartbeats 4000000 in
theorem mergei_nil (v : Value) (w : World) : Calls Try.prog 12 #[.nilFunc, v] w fun e w' => e = .returned (.tuple #[.slice none 0 0, .int .i64 2]) ∧ Below w.heap.size w w' := by
  have h0 := nil_nil68 (w.alloc (.cells #[.nilFunc] 68))
  go_enter Try.func12, Try.ntmps12
  go_wp2_with fail
  go_step3
  go_wp2_with fail
  rw [Exit.noGoto_ret]
  go_ret2
  exact ⟨rfl, by ((repeat (first | exact Below.refl _ _ | assumption | refine Below.alloc ?_ (by first | omega | (simp; done) | (simp; omega)) _ | refine Below.setCell ?_ (by first | omega | (simp; done) | (simp; omega)) _ | refine Below.drew ?_ | refine below_drewN ?_ _)); done)⟩

set_option maxHeartbeats 8000000 in
set_option maxRecDepth 100000 in
theorem nil_walk (n : Int) (w : World) : Calls Try.prog 3 #[.int .i64 n] w fun e w' => e = .returned (.bool true) ∧ Below w.heap.size w w' := by
  go_enter Try.func3, Try.ntmps3
  go_wp2_with fail
  refine (take_nil _).mono ?_
  rintro e w1 ⟨rfl, hb1⟩
  go_wp2_with fail
  refine (peek_nil _).mono ?_
  rintro e w2 ⟨rfl, hb2⟩
  have hz2 := hb2.size
  simp only [heap_size_alloc'] at hz2
  have g1 := (hb2.block w1.heap.size (by simp)).trans (heap_alloc_new _ _)
  have hbw2 : Below w.heap.size w w2 := hb1.trans (Below.trans (by have := hb1.size; ((repeat (first | exact Below.refl _ _ | assumption | refine Below.alloc ?_ (by first | omega | (simp; done) | (simp; omega)) _ | refine Below.setCell ?_ (by first | omega | (simp; done) | (simp; omega)) _ | refine Below.drew ?_ | refine below_drewN ?_ _)); done)) (hb2.mono (by simp; have := hb1.size; omega)))
  go_wp2_with fail
  refine (newi_nil _).mono ?_
  rintro e w3 ⟨rfl, hb3⟩
  have hz3 := hb3.size
  simp only [heap_size_alloc'] at hz3
  have g2 := (hb3.block w1.heap.size (by simp; omega)).trans ((heap_alloc_old _ _ (by omega)).trans g1)
  have g3 := (hb3.block w2.heap.size (by simp)).trans (heap_alloc_new _ _)
  have hbw3 : Below w.heap.size w w3 := hbw2.trans (Below.trans (by have := hbw2.size; ((repeat (first | exact Below.refl _ _ | assumption | refine Below.alloc ?_ (by first | omega | (simp; done) | (simp; omega)) _ | refine Below.setCell ?_ (by first | omega | (simp; done) | (simp; omega)) _ | refine Below.drew ?_ | refine below_drewN ?_ _)); done)) (hb3.mono (by simp; have := hbw2.size; omega)))
  go_wp2_with fail
  refine (mergei_nil _ _).mono ?_
  rintro e w4 ⟨rfl, hb4⟩
  have hz4 := hb4.size
  simp only [heap_size_alloc'] at hz4
  have g4 := (hb4.block w1.heap.size (by simp; omega)).trans ((heap_alloc_old _ _ (by simp; omega)).trans ((heap_alloc_old _ _ (by omega)).trans g2))
  have g5 := (hb4.block w2.heap.size (by simp; omega)).trans ((heap_alloc_old _ _ (by simp; omega)).trans ((heap_alloc_old _ _ (by omega)).trans g3))
  have hbw4 : Below w.heap.size w w4 := hbw3.trans (Below.trans (by have := hbw3.size; ((repeat (first | exact Below.refl _ _ | assumption | refine Below.alloc ?_ (by first | omega | (simp; done) | (simp; omega)) _ | refine Below.setCell ?_ (by first | omega | (simp; done) | (simp; omega)) _ | refine Below.drew ?_ | refine below_drewN ?_ _)); done)) (hb4.mono (by simp; have := hbw3.size; omega)))
  go_wp2_with fail
  refine (put_nil _ _ _).mono ?_
  rintro e w5 ⟨rfl, hb5⟩
  have g6 := (hb5.block w1.heap.size (by omega)).trans g4
  have g7 := (hb5.block w2.heap.size (by omega)).trans g5
  have hbw5 := hbw4.trans (hb5.mono hbw4.size)
  have k0 : w5.cell? ⟨w1.heap.size, 0, none⟩ = some (.int .i64 0) := by rw [cell_of_row _ _ _ _ _ _ g6]; rfl
  have k1 : w5.cell? ⟨w1.heap.size, 1, none⟩ = some (.int .i64 0) := by rw [cell_of_row _ _ _ _ _ _ g6]; rfl
  have k2 : w5.cell? ⟨w2.heap.size, 0, none⟩ = some (.int .i64 0) := by rw [cell_of_row _ _ _ _ _ _ g7]; rfl
  have k3 : w5.cell? ⟨w2.heap.size, 1, none⟩ = some (.int .i64 0) := by rw [cell_of_row _ _ _ _ _ _ g7]; rfl
  go_wp2_with fail
  refine (len_nil _).mono ?_
  rintro e w6 ⟨rfl, hb6⟩
  have hbw6 := hbw5.trans (hb6.mono hbw5.size)
  go_wp2_with fail
  refine (awake_any _).mono ?_
  rintro e w7 ⟨rfl, hb7⟩
  have hbw7 := hbw6.trans (hb7.mono hbw6.size)
  go_wp2_with fail
  go_ret
  exact ⟨rfl, hbw7⟩
end Go.Proofs.Yteiocnaneghggaa
