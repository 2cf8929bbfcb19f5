import Derived.Test.YteiocnaneghggaaWords
import Derived.Test.YteiocnaneghggaaProg
namespace Go.Proofs.Yteiocnaneghggaa
open Go Go.RowKit

/-- a thing: its rank, and which one it is -/
structure Th where
  rank : Int
  id : Int
deriving DecidableEq

def Th.enc (x : Th) : List Value := [.int .i64 x.rank, .int .i64 x.id]
theorem Th.enc_len (x : Th) : x.enc.length = 2 := rfl
def Th.val (x : Th) : Value := .agg #[.int .i64 x.rank, .int .i64 x.id]
/-- the order of ranks -/
def cmpT (x y : Th) : Int := if x.rank < y.rank then -1 else if y.rank < x.rank then 1 else 0

/-- .. the other way round -/
def cmpB (x y : Th) : Int := cmpT y x

set_option maxHeartbeats 1000000 in
theorem order_any (x y : Th) (w : World) : Calls Try.prog 17 #[x.val, y.val] w fun e w' => e = .returned (.int .i64 (cmpT x y)) ∧ Below w.heap.size w w' := by
  unfold Th.val cmpT
  go_enter Try.func17, Try.ntmps17
  by_cases h1 : x.rank < y.rank
  · rw [if_pos h1]
    go_wp2
    go_ret
    exact ⟨rfl, by ((repeat (first | exact Below.refl _ _ | assumption | refine Below.alloc ?_ (by first | omega | (simp; done) | (simp; omega)) _ | refine Below.setCell ?_ (by first | omega | (simp; done) | (simp; omega)) _ | refine Below.drew ?_ | refine below_drewN ?_ _)); done)⟩
  · rw [if_neg h1]
    by_cases h2 : y.rank < x.rank
    · rw [if_pos h2]
      go_wp2
      go_ret
      exact ⟨rfl, by ((repeat (first | exact Below.refl _ _ | assumption | refine Below.alloc ?_ (by first | omega | (simp; done) | (simp; omega)) _ | refine Below.setCell ?_ (by first | omega | (simp; done) | (simp; omega)) _ | refine Below.drew ?_ | refine below_drewN ?_ _)); done)⟩
    · rw [if_neg h2]
      go_wp2
      go_ret
      exact ⟨rfl, by ((repeat (first | exact Below.refl _ _ | assumption | refine Below.alloc ?_ (by first | omega | (simp; done) | (simp; omega)) _ | refine Below.setCell ?_ (by first | omega | (simp; done) | (simp; omega)) _ | refine Below.drew ?_ | refine below_drewN ?_ _)); done)⟩
set_option maxHeartbeats 1000000 in
theorem behind_any (x y : Th) (w : World) : Calls Try.prog 18 #[x.val, y.val] w fun e w' => e = .returned (.int .i64 (cmpB x y)) ∧ Below w.heap.size w w' := by
  unfold Th.val cmpB
  go_enter Try.func18, Try.ntmps18
  go_wp2_with fail
  refine (order_any y x _).mono ?_
  rintro e w1 ⟨rfl, hb1⟩
  go_wp2_with fail
  go_ret
  exact ⟨rfl, Below.trans (by ((repeat (first | exact Below.refl _ _ | assumption | refine Below.alloc ?_ (by first | omega | (simp; done) | (simp; omega)) _ | refine Below.setCell ?_ (by first | omega | (simp; done) | (simp; omega)) _ | refine Below.drew ?_ | refine below_drewN ?_ _)); done)) (Below.mono hb1 (by simp; omega))⟩

/-! ### a heap's own list -/
/-- a thing, and when it was put -/
structure It where
  x : Th
  no : Int
deriving DecidableEq
def It.enc (t : It) : List Value := [.int .i64 t.x.rank, .int .i64 t.x.id, .int .i64 t.no]
theorem It.enc_len (t : It) : t.enc.length = 3 := rfl
theorem It.enc_one (t : It) : ∀ u ∈ It.enc t, u.oneCell' = true := by simp [It.enc, Value.oneCell']
theorem T65 : SliceT Try.prog 65 64 3 24 := SliceT.mk_ (z := .agg #[.int .i64 0, .int .i64 0, .int .i64 0]) Try.underlying65 (by kernel_rfl) rfl (by omega) (by omega)
end Go.Proofs.Yteiocnaneghggaa
