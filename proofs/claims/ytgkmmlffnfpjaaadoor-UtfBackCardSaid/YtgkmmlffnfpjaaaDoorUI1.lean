import Derived.RangeFuncNested
import Derived.RangeFuncBound
import Derived.RangeFuncCalls
import Derived.RangeFuncLeaves
import Derived.RangeFuncFrom
import Derived.Shelf.Abstract
import Derived.Shelf.RegionOpen
import Derived.WalkKit
import Derived.OwnWalkIn
import Derived.TacticsInMore
import Derived.LoopNIn
import Derived.LoopIn
import Derived.Test.YtgkmmlffnfpjaaaDoorUR4
namespace Go.Proofs.YtgkmmlffnfpjaaaDoor
open Go Go.RowKit

theorem own_none {w : World} {g : Nat} (hg : w.heap[g]? = some (.cells #[] 5 (0, 0))) (base : Nat) (hb : base ≤ g) : Own encU 1 5 w base (.slice (some ⟨g, 0, none⟩) 0 0) [] :=
  ⟨rfl, .inr ⟨g, 0, #[], rfl, hb, hg, Nat.le_refl _, Nat.zero_le _, rfl, rfl⟩⟩

set_option maxHeartbeats 4000000 in
theorem clone_any {B : Nat} {v : Value} {bs : List UInt8} (w : World) (hx : Rd encU 1 w B v bs) (hB : B ≤ w.heap.size) (hl : bs.length ≤ 100000) :
    Calls Tryd.prog 19 #[v] w fun e w' => (∃ u, e = .returned u ∧ Rd encU 1 w' w'.heap.size u bs) ∧ Below w.heap.size w w' := by
  have hx' := hx
  obtain ⟨A, cap, rfl, h1, h2, h3⟩ := hx
  unfold maxLen at h2
  cases A with
  | none =>
    have hn : bs = [] := by
      apply Classical.byContradiction
      intro hne
      obtain ⟨b, off, hA, _⟩ := h3 hne
      cases hA
    subst hn
    clear h3
    have h0 : Sem.run Tryd.prog (binOp .eql 24 (.slice none ([] : List UInt8).length cap) (.slice none 0 0)) w = .ok (.bool true) w := by rfl
    simp only [List.length_nil] at h0
    go_enter Tryd.func19, Tryd.ntmps19
    go_wp2_with fail
    go_ret
    exact ⟨⟨_, rfl, Rd.nil _ _ _ _⟩, Below.refl _ _⟩
  | some ad =>
    clear h3
    have h0 : Sem.run Tryd.prog (binOp .eql 24 (.slice (some ad) bs.length cap) (.slice none 0 0)) w = .ok (.bool false) w := by rfl
    go_enter Tryd.func19, Tryd.ntmps19
    go_wp2_with (at_builtin; refine wpList_append_rd _ (by rfl) _ _ _ (by rfl) encU encU_len encU_one T24 w.heap.size _ [] bs (by rfl) (own_none (heap_alloc_new _ _) _ (Nat.le_refl _)) _ (by rfl) (hx'.below (B' := w.heap.size) (by ((repeat (first | exact Below.refl _ _ | assumption | refine Below.alloc ?_ (by first | omega | (simp; done) | (simp; omega)) _ | refine Below.setCell ?_ (by first | omega | (simp; done) | (simp; omega)) _ | refine Below.drew ?_ | refine below_drewN ?_ _)); done)) hB) (by simp; omega) (by simp) ?_; intro v3 w3 hown3 hb3 hO3 hloc3)
    go_ret
    exact ⟨⟨_, rfl, hown3.rd encU_len (by simp only [List.nil_append, maxLen]; omega)⟩, Below.trans (by ((repeat (first | exact Below.refl _ _ | assumption | refine Below.alloc ?_ (by first | omega | (simp; done) | (simp; omega)) _ | refine Below.setCell ?_ (by first | omega | (simp; done) | (simp; omega)) _ | refine Below.drew ?_ | refine below_drewN ?_ _)); done)) hb3⟩

set_option maxHeartbeats 4000000 in
theorem all_any {B : Nat} {v : Value} {bs : List UInt8} (w : World) (hx : Rd encU 1 w B v bs) (hB : B ≤ w.heap.size) (hl : bs.length ≤ 100000) :
    Calls Tryd.prog 14 #[v] w fun e w' => (∃ (g : Nat) (u : Value), e = .returned (.func (.func 20) #[] #[.pointer (some ⟨g, 0, none⟩)]) ∧ w'.cell? ⟨g, 0, none⟩ = some u ∧ Rd encU 1 w' w'.heap.size u bs) ∧ Below w.heap.size w w' := by
  go_enter Tryd.func14, Tryd.ntmps14
  go_wp2_with fail
  refine (clone_any w hx hB hl).mono ?_
  rintro e w1 ⟨⟨u, rfl, hr1⟩, hb1⟩
  have hb2 : Below w1.heap.size w1 (w1.alloc (.cells #[u] 24)) := by ((repeat (first | exact Below.refl _ _ | assumption | refine Below.alloc ?_ (by first | omega | (simp; done) | (simp; omega)) _ | refine Below.setCell ?_ (by first | omega | (simp; done) | (simp; omega)) _ | refine Below.drew ?_ | refine below_drewN ?_ _)); done)
  have hr2 := hr1.next hb2
  have hr3 := hr1
  obtain ⟨A, cap, rfl, -⟩ := hr3
  go_wp2_with fail
  go_ret
  exact ⟨⟨_, _, rfl, by rw [cell_of_row _ _ _ _ _ _ (heap_alloc_new _ _)]; rfl, hr2⟩, hb1.trans (hb2.mono hb1.size)⟩

/-- what a round is handed: a place, and a character -/
structure Pr where
  a : Nat
  b : Nat
  ha : a < 4294967296
  hb : b < 2147483648
def encPr (x : Pr) : Array Value := #[.int .i64 (x.a : Nat), .int .i32 (x.b : Nat)]
def mkPr (a b : Nat) : Pr := ⟨a % 4294967296, b % 2147483648, Nat.mod_lt _ (by omega), Nat.mod_lt _ (by omega)⟩
theorem encPr_mk {a b : Nat} (ha : a < 4294967296) (hb : b < 2147483648) : encPr (mkPr a b) = #[.int .i64 (a : Nat), .int .i32 (b : Nat)] := by
  unfold encPr mkPr
  simp only [Nat.mod_eq_of_lt ha, Nat.mod_eq_of_lt hb]
theorem mkPr_self (x : Pr) : mkPr x.a x.b = x := by
  obtain ⟨a, b, ha, hb⟩ := x
  unfold mkPr
  simp only [Nat.mod_eq_of_lt ha, Nat.mod_eq_of_lt hb]
/-- characters with their places -/
def pl : Nat → List Nat → List Pr
  | _, [] => []
  | k, c :: cs => mkPr k c :: pl (k + (bytesOf c).length) cs
theorem pl_snoc : ∀ (cs : List Nat) (k c : Nat), pl k (cs ++ [c]) = pl k cs ++ [mkPr (k + (encB cs).length) c]
  | [], k, c => by simp [pl, encB]
  | d :: cs, k, c => by
    show mkPr k d :: pl (k + (bytesOf d).length) (cs ++ [c]) = _
    rw [pl_snoc cs, encB_cons, List.length_append, ← Nat.add_assoc]
    rfl
theorem pl_append : ∀ (cs ds : List Nat) (k : Nat), pl k cs <+: pl k (cs ++ ds)
  | [], ds, k => ⟨_, rfl⟩
  | c :: cs, ds, k => by
    obtain ⟨t, ht⟩ := pl_append cs ds (k + (bytesOf c).length)
    exact ⟨t, congrArg (List.cons (mkPr k c)) ht⟩
theorem pl_len : ∀ (cs : List Nat) (k : Nat), (pl k cs).length = cs.length
  | [], _ => rfl
  | c :: cs, k => by show (pl _ cs).length + 1 = _; rw [pl_len cs]; rfl
/-- what stands next is the next one of those that stand -/
theorem Told.step {bs : List UInt8} {cs ds : List Nat} {rest p : List UInt8} (h : Told bs cs rest) (k : Told bs ds p) (hS : Stuck rest) (hp : ds <+: cs) (hne : p ≠ []) {r s : Nat} (hc : chr p = some (r, s)) : ds ++ [r] <+: cs := by
  obtain ⟨t, rfl⟩ := hp
  have h1 := (k.next hne hc).1
  have e1 := h.eq.symm.trans h1.eq
  rw [encB_append, encB_append, List.append_assoc, List.append_assoc] at e1
  have e2 := List.append_cancel_left e1
  obtain ⟨cs2, rest2, hT2, hS2⟩ := told_all (p.drop s)
  have e3 : encB t ++ rest = encB (r :: cs2) ++ rest2 := by
    have e4 : encB t ++ rest = bytesOf r ++ p.drop s := by rw [e2]; simp [encB]
    rw [e4, encB_cons, List.append_assoc, ← hT2.eq]
  have hall : AllIs (r :: cs2) := by
    intro x hx
    rcases List.mem_cons.1 hx with rfl | hx
    · exact (chr_bytes hne hc).1
    · exact hT2.all x hx
  obtain ⟨rfl, -⟩ := rows_one t (r :: cs2) rest rest2 (fun x hx => h.all x (List.mem_append_right _ hx)) hall hS hS2 e3
  exact ⟨cs2, by simp⟩
end Go.Proofs.YtgkmmlffnfpjaaaDoor
