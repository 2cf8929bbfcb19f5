import Derived.Test.YteiocnaneghggaaQW7
namespace Go.Proofs.Yteiocnaneghggaa
open Go Go.RowKit

/-- block q is a queue that holds S (in whatever order), no were put; its blocks are in F -/
structure QI (w : World) (q : Nat) (kk : Bool) (S : List It) (no : Nat) (F : Nat → Prop) : Prop where
  ex : ∃ (h : Nat) (v : Value) (L : List It), w.heap[q]? = some (.cells #[.pointer (some ⟨h, 0, none⟩), .int .i64 no] 62 (0, 0)) ∧ HI w h (ovT kk) v L ∧ HeapI (ahead (cmpO kk)) L L.length ∧ L.Perm S ∧ h ≠ q ∧ v.ownBlock ≠ some q ∧ F q ∧ F h ∧ ∀ k, v.ownBlock = some k → F k

theorem QI.perm {w : World} {q : Nat} {kk : Bool} {S S' : List It} {no : Nat} {F : Nat → Prop} (h : QI w q kk S no F) (hp : S.Perm S') : QI w q kk S' no F := by
  obtain ⟨hh, v, L, h1, h2, h3, h4, r⟩ := h.ex
  exact ⟨hh, v, L, h1, h2, h3, h4.trans hp, r⟩
theorem QI.only {w w' : World} {q : Nat} {kk : Bool} {S : List It} {no : Nat} {F G : Nat → Prop} (h : QI w q kk S no F) (hO : Only G w w') (hd : ∀ k, F k → ¬ G k) : QI w' q kk S no F := by
  obtain ⟨hh, v, L, h1, h2, h3, h4, h5, h6, fq, fh, fv⟩ := h.ex
  have hq : q < w.heap.size := (Array.getElem?_eq_some_iff.1 h1).1
  exact ⟨hh, v, L, (hO.block q hq (hd q fq)).trans h1, ⟨(hO.block hh h2.lt (hd hh fh)).trans h2.1, h2.2.1.kept hO (fun k hk => hd k (fv k hk)), h2.2.2⟩, h3, h4, h5, h6, fq, fh, fv⟩
theorem QI.below {w w' : World} {q : Nat} {kk : Bool} {S : List It} {no : Nat} {F : Nat → Prop} (h : QI w q kk S no F) (hb : Below w.heap.size w w') : QI w' q kk S no F :=
  h.only (Only.of_below hb (fun _ => False)) (fun _ _ e => e)
theorem QI.mono {w : World} {q : Nat} {kk : Bool} {S : List It} {no : Nat} {F G : Nat → Prop} (h : QI w q kk S no F) (hs : ∀ k, F k → G k) : QI w q kk S no G := by
  obtain ⟨hh, v, L, h1, h2, h3, h4, h5, h6, fq, fh, fv⟩ := h.ex
  exact ⟨hh, v, L, h1, h2, h3, h4, h5, h6, hs _ fq, hs _ fh, fun k hk => hs _ (fv k hk)⟩

/-- m is in S, and none of S is ahead of it -/
def Least (kk : Bool) (S : List It) (m : It) : Prop := m ∈ S ∧ ∀ y ∈ S, ahead (cmpO kk) y m = false

theorem fn_some (f : FuncId) (a c : Array Value) (W : World) : Sem.run Try.prog (binOp .eql 40 (.func (.func f) a c) .nilFunc) W = .ok (.bool false) W := by kernel_rfl

set_option maxHeartbeats 4000000 in
set_option maxRecDepth 100000 in
theorem new_any (kk : Bool) (w : World) : Calls Try.prog 16 #[ovT kk] w fun e w' => ∃ q, w.heap.size ≤ q ∧ e = .returned (.tuple #[.pointer (some ⟨q, 0, none⟩), .int .i64 0]) ∧ QI w' q kk [] 0 (fun k => w.heap.size ≤ k) ∧ Below w.heap.size w w' := by
  have hfin : ∀ w', w'.heap[w.heap.size]? = some (.cells #[.slice none 0 0, ovT kk] 67 (0, 0)) → w'.heap[w.heap.size + 1]? = some (.cells #[.pointer (some ⟨w.heap.size, 0, none⟩), .int .i64 0] 62 (0, 0)) → QI w' (w.heap.size + 1) kk [] 0 (fun k => w.heap.size ≤ k) := by
    intro w' h1 h2
    refine ⟨w.heap.size, _, [], h2, ⟨h1, Own.nil _ _ _ _ _, by simp [Value.ownBlock]⟩, fun k x p _ hk => absurd hk (by simp), List.Perm.refl _, by omega, by simp [Value.ownBlock], by show w.heap.size ≤ _; omega, Nat.le_refl _, fun k hk => by simp [Value.ownBlock] at hk⟩
  unfold ovT at hfin ⊢
  cases kk
  all_goals
    simp only [if_true, if_false, Bool.false_eq_true] at hfin ⊢
    have e17 := fn_some 17 #[] #[] w
    have e18 := fn_some 18 #[] #[] w
    go_enter Try.func16, Try.ntmps16
    go_wp2_with fail
    go_ret2
    exact ⟨w.heap.size + 1, by omega, rfl, hfin _ ((heap_alloc_old _ _ (by simp)).trans (heap_alloc_new _ _)) (heap_alloc_new2 _ _ _), by ((repeat (first | exact Below.refl _ _ | assumption | refine Below.alloc ?_ (by first | omega | (simp; done) | (simp; omega)) _ | refine Below.setCell ?_ (by first | omega | (simp; done) | (simp; omega)) _ | refine Below.drew ?_ | refine below_drewN ?_ _)); done)⟩

set_option maxHeartbeats 4000000 in
theorem qlen_any {w : World} {q : Nat} {kk : Bool} {S : List It} {no : Nat} {F : Nat → Prop} (Q : QI w q kk S no F) : Calls Try.prog 14 #[.pointer (some ⟨q, 0, none⟩)] w fun e w' => e = .returned (.int .i64 S.length) ∧ Below w.heap.size w w' := by
  obtain ⟨h, v, L, h1, H, h3, h4, h5, h6, -⟩ := Q.ex
  have hl : (L.length : Int) = S.length := by rw [h4.length_eq]
  have c0 : w.cell? ⟨q, 0, none⟩ = some (.pointer (some ⟨h, 0, none⟩)) := by rw [cell_of_row _ _ _ _ _ _ h1]; rfl
  go_enter Try.func14, Try.ntmps14
  go_wp2_with fail
  refine (len_any H).mono ?_
  rintro e w1 ⟨rfl, hb1⟩
  rw [hl]
  go_wp2_with fail
  go_ret
  exact ⟨rfl, hb1⟩

set_option maxHeartbeats 4000000 in
set_option maxRecDepth 100000 in
theorem peek_raw {w : World} {q h : Nat} {kk : Bool} {v : Value} {L : List It} {no : Nat} (h1 : w.heap[q]? = some (.cells #[.pointer (some ⟨h, 0, none⟩), .int .i64 no] 62 (0, 0))) (H : HI w h (ovT kk) v L) : Calls Try.prog 10 #[.pointer (some ⟨q, 0, none⟩)] w fun e w' => ((∃ m, L[0]? = some m ∧ e = .returned (.tuple #[m.x.val, .int .i64 0])) ∨ (L = [] ∧ e = .returned (.tuple #[.agg #[.int .i64 0, .int .i64 0], .int .i64 16]))) ∧ Below w.heap.size w w' := by
  have c0 : w.cell? ⟨q, 0, none⟩ = some (.pointer (some ⟨h, 0, none⟩)) := by rw [cell_of_row _ _ _ _ _ _ h1]; rfl
  have hq : q < w.heap.size := (Array.getElem?_eq_some_iff.1 h1).1
  have hbq : Below w.heap.size w ((w.alloc (.cells #[.int .i64 0, .int .i64 0] 24)).alloc (.cells #[.int .i64 0, .int .i64 0] 24)) := by ((repeat (first | exact Below.refl _ _ | assumption | refine Below.alloc ?_ (by first | omega | (simp; done) | (simp; omega)) _ | refine Below.setCell ?_ (by first | omega | (simp; done) | (simp; omega)) _ | refine Below.drew ?_ | refine below_drewN ?_ _)); done)
  have H1 := H.below hbq
  by_cases hL : L.length = 0
  · obtain rfl : L = [] := List.eq_nil_of_length_eq_zero hL
    go_enter Try.func10, Try.ntmps10
    go_wp2_with fail
    refine (len_any H1).mono ?_
    rintro e w1 ⟨rfl, hb1⟩
    have e0 : (((([] : List It).length : Nat) : Int) == 0) = true := rfl
    have gA : w1.heap[w.heap.size]? = some (.cells #[.int .i64 0, .int .i64 0] 24 (0, 0)) := (hb1.block _ (by simp; omega)).trans ((heap_alloc_old _ _ (by simp)).trans (heap_alloc_new _ _))
    have gB : w1.heap[w.heap.size + 1]? = some (.cells #[.int .i64 0, .int .i64 0] 24 (0, 0)) := (hb1.block _ (by simp)).trans (heap_alloc_new2 _ _ _)
    have t0 : w1.cell? ⟨w.heap.size, 0, none⟩ = some (.int .i64 0) := by rw [cell_of_row _ _ _ _ _ _ gA]; rfl
    have t1 : w1.cell? ⟨w.heap.size, 1, none⟩ = some (.int .i64 0) := by rw [cell_of_row _ _ _ _ _ _ gA]; rfl
    have f0 : w1.frozen? ⟨w.heap.size, 0, none⟩ = false := frozen_of_row _ _ _ _ _ gA
    have f1 : w1.frozen? ⟨w.heap.size, 1, none⟩ = false := frozen_of_row _ _ _ _ _ gA
    have u0 : w1.cell? ⟨w.heap.size + 1, 0, none⟩ = some (.int .i64 0) := by rw [cell_of_row _ _ _ _ _ _ gB]; rfl
    have u1 : w1.cell? ⟨w.heap.size + 1, 1, none⟩ = some (.int .i64 0) := by rw [cell_of_row _ _ _ _ _ _ gB]; rfl
    clear gA gB
    have hBw : Below w.heap.size w w1 := hbq.trans (hb1.mono (by simp; omega))
    go_wp2_with fail
    refine bodyPost_ret (v := .tuple #[.agg #[.int .i64 0, .int .i64 0], .int .i64 16]) (by simp [results, Try.results10, go_sem, t0, t1]) rfl ?_
    exact ⟨Or.inr ⟨trivial, rfl⟩, by ((repeat (first | exact Below.refl _ _ | assumption | refine Below.alloc ?_ (by first | omega | (simp; done) | (simp; omega)) _ | refine Below.setCell ?_ (by first | omega | (simp; done) | (simp; omega)) _ | refine Below.drew ?_ | refine below_drewN ?_ _)); done)⟩
  · obtain ⟨m, hm⟩ := get_lt (show 0 < L.length by omega)
    have HM := Lib.hid hm
    go_enter Try.func10, Try.ntmps10
    go_wp2_with fail
    refine (len_any H1).mono ?_
    rintro e w1 ⟨rfl, hb1⟩
    have e0 : (((L.length : Nat) : Int) == 0) = false := by simp; intro e; simp [e] at hL
    have gA : w1.heap[w.heap.size]? = some (.cells #[.int .i64 0, .int .i64 0] 24 (0, 0)) := (hb1.block _ (by simp; omega)).trans ((heap_alloc_old _ _ (by simp)).trans (heap_alloc_new _ _))
    have gB : w1.heap[w.heap.size + 1]? = some (.cells #[.int .i64 0, .int .i64 0] 24 (0, 0)) := (hb1.block _ (by simp)).trans (heap_alloc_new2 _ _ _)
    have t0 : w1.cell? ⟨w.heap.size, 0, none⟩ = some (.int .i64 0) := by rw [cell_of_row _ _ _ _ _ _ gA]; rfl
    have t1 : w1.cell? ⟨w.heap.size, 1, none⟩ = some (.int .i64 0) := by rw [cell_of_row _ _ _ _ _ _ gA]; rfl
    have f0 : w1.frozen? ⟨w.heap.size, 0, none⟩ = false := frozen_of_row _ _ _ _ _ gA
    have f1 : w1.frozen? ⟨w.heap.size, 1, none⟩ = false := frozen_of_row _ _ _ _ _ gA
    have u0 : w1.cell? ⟨w.heap.size + 1, 0, none⟩ = some (.int .i64 0) := by rw [cell_of_row _ _ _ _ _ _ gB]; rfl
    have u1 : w1.cell? ⟨w.heap.size + 1, 1, none⟩ = some (.int .i64 0) := by rw [cell_of_row _ _ _ _ _ _ gB]; rfl
    have H2 := H1.below hb1
    have qc : w1.cell? ⟨q, 0, none⟩ = some (.pointer (some ⟨h, 0, none⟩)) := Below.cell_some hb1 (Below.cell_some hbq c0 hq) (by simp; omega)
    obtain ⟨g, cap, rfl, k1, k2, hgh, hgw, hc, hf⟩ := H2.row (by omega)
    have hc0 := H2.c0
    obtain ⟨a0, a1, a2⟩ := hc 0 m hm
    unfold maxLen at k2
    have hBw : Below w.heap.size w w1 := hbq.trans (hb1.mono (by simp; omega))
    clear gA gB hc hf hm
    go_wp2_with fail
    refine bodyPost_ret (v := .tuple #[m.x.val, .int .i64 0]) (by simp [results, Try.results10, go_sem, t0, t1, Th.val]) rfl ?_
    exact ⟨Or.inl ⟨m, HM.out, rfl⟩, by ((repeat (first | exact Below.refl _ _ | assumption | refine Below.alloc ?_ (by first | omega | (simp; done) | (simp; omega)) _ | refine Below.setCell ?_ (by first | omega | (simp; done) | (simp; omega)) _ | refine Below.drew ?_ | refine below_drewN ?_ _)); done)⟩
theorem least_of {kk : Bool} (T : TO (ahead (cmpO kk))) {L S : List It} {m : It} (hH : HeapI (ahead (cmpO kk)) L L.length) (hp : L.Perm S) (hm : L[0]? = some m) : Least kk S m := by
  refine ⟨hp.subset (List.mem_of_getElem? hm), fun y hy => ?_⟩
  obtain ⟨k, hk⟩ := List.mem_iff_getElem?.1 (hp.symm.subset hy)
  exact heap_min T hH hm k y hk
theorem peek_any {w : World} {q : Nat} {kk : Bool} (T : TO (ahead (cmpO kk))) {S : List It} {no : Nat} {F : Nat → Prop} (Q : QI w q kk S no F) : Calls Try.prog 10 #[.pointer (some ⟨q, 0, none⟩)] w fun e w' => ((∃ m, Least kk S m ∧ e = .returned (.tuple #[m.x.val, .int .i64 0])) ∨ (S = [] ∧ e = .returned (.tuple #[.agg #[.int .i64 0, .int .i64 0], .int .i64 16]))) ∧ Below w.heap.size w w' := by
  obtain ⟨h, v, L, h1, H, h3, h4, -⟩ := Q.ex
  refine (peek_raw h1 H).mono ?_
  rintro e w1 ⟨⟨m, hm, rfl⟩ | ⟨rfl, rfl⟩, hb⟩
  · exact ⟨Or.inl ⟨m, least_of T h3 h4 hm, rfl⟩, hb⟩
  · exact ⟨Or.inr ⟨List.eq_nil_of_length_eq_zero h4.length_eq.symm, rfl⟩, hb⟩
end Go.Proofs.Yteiocnaneghggaa
