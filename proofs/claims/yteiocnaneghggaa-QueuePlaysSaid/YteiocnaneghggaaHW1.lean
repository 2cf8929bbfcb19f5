import Derived.Test.YteiocnaneghggaaQW9
namespace Go.Proofs.Yteiocnaneghggaa.Hd
open Go Go.RowKit

/-- the head of a list: its thing, which list it is, what is left of it -/
structure Th where
  rank : Int
  id : Int
  list : Int
  ra : Option Addr
  rn : Nat
  rc : Nat
  lo : 0 ≤ list
  hi : list ≤ 1000

def Th.val (x : Th) : Value := .agg #[.int .i64 x.rank, .int .i64 x.id, .int .i64 x.list, .slice x.ra x.rn x.rc]
def Th.th (x : Th) : Yteiocnaneghggaa.Th := ⟨x.rank, x.id⟩
/-- the order of heads: by their things; of as many by their lists -/
def cmpO (_ : Nat) (x y : Th) : Int := if cmpT x.th y.th ≠ 0 then cmpT x.th y.th else x.list - y.list
/-- the order as a value: a closure over the cell in block c -/
def ovT (c : Nat) : Value := .func (.func 40) #[] #[.pointer (some ⟨c, 0, none⟩)]
/-- block c holds the order of things -/
def OrdC (w : World) (c : Nat) : Prop := w.heap[c]? = some (.cells #[.func (.func 17) #[] #[]] 40 (0, 0))
theorem OrdC.lt {w : World} {c : Nat} (h : OrdC w c) : c < w.heap.size := (Array.getElem?_eq_some_iff.1 h).1
theorem OrdC.below {w w' : World} {c : Nat} (h : OrdC w c) (hb : Below w.heap.size w w') : OrdC w' c := (hb.block c h.lt).trans h
theorem OrdC.only2 {w w' : World} {c : Nat} {S : Nat → Prop} (h : OrdC w c) (hO : Only S w w') (hs : ¬ S c) : OrdC w' c := (hO.block c h.lt hs).trans h
theorem OrdC.only {w w' : World} {c : Nat} {v : Value} (h : OrdC w c) (hO : Only (fun k => v.ownBlock = some k) w w') (hs : v.ownBlock ≠ some c) : OrdC w' c := h.only2 hO hs

set_option maxHeartbeats 1000000 in
theorem order_any {c : Nat} (x y : Th) (w : World) (hC : OrdC w c) : Calls Try.prog 40 #[x.val, y.val, .pointer (some ⟨c, 0, none⟩)] w fun e w' => e = .returned (.int .i64 (cmpO c x y)) ∧ Below w.heap.size w w' := by
  have hlt := hC.lt
  have c0 : w.cell? ⟨c, 0, none⟩ = some (.func (.func 17) #[] #[]) := by rw [cell_of_row _ _ _ _ _ _ hC]; rfl
  have x1 := x.lo
  have x2 := x.hi
  have y1 := y.lo
  have y2 := y.hi
  unfold Th.val cmpO
  go_enter Try.func40, Try.ntmps40
  go_wp2_with fail
  refine (Yteiocnaneghggaa.order_any x.th y.th _).mono ?_
  rintro e w1 ⟨rfl, hb1⟩
  generalize hn : cmpT x.th y.th = n
  have hb2 : Below w.heap.size w w1 := Below.trans (by ((repeat (first | exact Below.refl _ _ | assumption | refine Below.alloc ?_ (by first | omega | (simp; done) | (simp; omega)) _ | refine Below.setCell ?_ (by first | omega | (simp; done) | (simp; omega)) _ | refine Below.drew ?_ | refine below_drewN ?_ _)); done)) (Below.mono hb1 (by simp; omega))
  have gX := (hb1.block w.heap.size (by simp; omega)).trans ((heap_alloc_old _ _ (by simp)).trans (heap_alloc_new _ _))
  have gY := (hb1.block (w.heap.size + 1) (by simp)).trans (heap_alloc_new2 _ _ _)
  have l0 : w1.cell? ⟨w.heap.size, 2, none⟩ = some (.int .i64 x.list) := by rw [cell_of_row _ _ _ _ _ _ gX]; rfl
  have l1 : w1.cell? ⟨w.heap.size + 1, 2, none⟩ = some (.int .i64 y.list) := by rw [cell_of_row _ _ _ _ _ _ gY]; rfl
  clear gX gY
  by_cases h0 : n = 0
  · have e0 : (n != 0) = false := by simp [h0]
    go_wp2_with fail
    go_ret
    exact ⟨ret_int (by first | (rw [hn, if_neg (by simp [h0])]; done) | (rw [if_neg (by simp [h0])]; done) | (simp [hn, h0]; done)), hb2⟩
  · have e0 : (n != 0) = true := by simp [h0]
    go_wp2_with fail
    go_ret
    exact ⟨ret_int (by first | (rw [hn, if_pos h0]; done) | (rw [if_pos h0]; done) | (simp [hn, h0]; done)), hb2⟩

/-- a head, and when it was put -/
structure It where
  x : Th
  no : Int
def It.enc (t : It) : List Value := [.int .i64 t.x.rank, .int .i64 t.x.id, .int .i64 t.x.list, .slice t.x.ra t.x.rn t.x.rc, .int .i64 t.no]
theorem It.enc_len (t : It) : t.enc.length = 5 := rfl
theorem It.enc_one (t : It) : ∀ u ∈ It.enc t, u.oneCell' = true := by simp [It.enc, Value.oneCell']
theorem T116 : SliceT Try.prog 116 122 5 56 := SliceT.mk_ (z := .agg #[.int .i64 0, .int .i64 0, .int .i64 0, .slice none 0 0, .int .i64 0]) Try.underlying116 (by kernel_rfl) rfl (by omega) (by omega)
end Go.Proofs.Yteiocnaneghggaa.Hd
