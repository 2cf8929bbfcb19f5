import Derived.Test.YteiocnaneghggaaQLift2
import Derived.Test.YteiocnaneghggaaQSoW
namespace Go.Proofs.Yteiocnaneghggaa
open Go Go.RowKit

theorem encO_len (o : OpC) : (encO o).length = 2 := rfl
/-- things in the order in which they were put -/
structure InRow (S : List It) (no : Nat) : Prop where
  rise : S.Pairwise (fun a b => a.no < b.no)
  below : ∀ t ∈ S, t.no < (no : Int)
theorem InRow.nil : InRow [] 0 := ⟨List.Pairwise.nil, fun t h => by simp at h⟩
theorem InRow.put {S : List It} {no : Nat} (h : InRow S no) (x : Th) : InRow (S ++ [⟨x, (no : Int)⟩]) (no + 1) := by
  refine ⟨?_, fun t ht => ?_⟩
  · rw [List.pairwise_append]
    refine ⟨h.rise, by simp, fun a ha b hb => ?_⟩
    rw [List.mem_singleton] at hb
    subst hb
    exact h.below a ha
  · rcases List.mem_append.1 ht with h' | h'
    · have := h.below t h'; omega
    · rw [List.mem_singleton] at h'
      subst h'
      show (no : Int) < _
      omega
theorem InRow.out {S : List It} {no : Nat} (h : InRow S no) (i : Nat) : InRow (S.eraseIdx i) no :=
  ⟨h.rise.sublist (List.eraseIdx_sublist _ _), fun t ht => h.below t ((List.eraseIdx_sublist _ _).subset ht)⟩
/-- the first of the least rank is the least one of the queue -/
theorem InRow.first {S : List It} {no i : Nat} {x : Th} (h : InRow S no) (hF : FirstTo (S.map It.x) (S.map It.x).length i x) : ∃ a, S[i]? = some a ∧ a.x = x ∧ Least false S a := by
  obtain ⟨hi, hx, hall⟩ := hF
  rw [List.getElem?_map] at hx
  obtain ⟨a, ha, rfl⟩ := Option.map_eq_some_iff.1 hx
  refine ⟨a, ha, rfl, List.mem_of_getElem? ha, fun y hy => ?_⟩
  obtain ⟨j, hj⟩ := List.mem_iff_getElem?.1 hy
  have hjl := (List.getElem?_eq_some_iff.1 hj).1
  obtain ⟨h1, h2⟩ := hall j y.x (by simpa using hjl) (by rw [List.getElem?_map, hj]; rfl)
  show ahead cmpT y a = false
  rw [← Bool.not_eq_true, ahead_T]
  rcases Nat.lt_or_ge j i with hji | hji
  · have := h1 hji; omega
  · rcases Nat.lt_or_ge i j with hij | hij
    · have := get_pairwise h.rise hij ha hj
      omega
    · have e : j = i := by omega
      subst e
      rw [ha] at hj
      cases hj
      omega
theorem InRow.one {S : List It} {no : Nat} {m a : It} (h : InRow S no) (hm : Least false S m) (ha : Least false S a) : m = a := by
  obtain ⟨h1, h2⟩ := not_ahead false (ha.2 m hm.1) (hm.2 a ha.1)
  obtain ⟨i, hi⟩ := List.mem_iff_getElem?.1 hm.1
  obtain ⟨j, hj⟩ := List.mem_iff_getElem?.1 ha.1
  rcases Nat.lt_or_ge i j with hij | hij
  · have := get_pairwise h.rise hij hi hj; omega
  · rcases Nat.lt_or_ge j i with hji | hji
    · have := get_pairwise h.rise hji hj hi; omega
    · have e : i = j := by omega
      subst e
      rw [hi] at hj
      cases hj
      rfl
theorem rest_perm {S S' : List It} {a : It} {i : Nat} (ha : S[i]? = some a) (hp : (S' ++ [a]).Perm S) : S'.Perm (S.eraseIdx i) := by
  have h1 : (a :: S').Perm (a :: S.eraseIdx i) := ((List.perm_append_singleton _ _).symm.trans hp).trans (erase_perm ha).symm
  exact (List.perm_cons a).1 h1
theorem map_erase {S : List It} {i : Nat} : (S.eraseIdx i).map It.x = (S.map It.x).eraseIdx i := by
  rw [List.eraseIdx_eq_take_drop_succ, List.eraseIdx_eq_take_drop_succ, List.map_append, List.map_take, List.map_drop]

/-- where the playing stands -/
structure Playing (w wr : World) (q no : Nat) (S : List It) (F : Nat → Prop) (row : Value) : Prop where
  que : QI wr q false S no F
  own : Own Th.enc 2 24 wr w.heap.size row (S.map It.x)
  inF : ∀ j, F j → w.heap.size ≤ j ∧ j < wr.heap.size
  apart : ∀ j, row.ownBlock = some j → ¬ F j
  inrow : InRow S no
theorem Playing.below {w wr w' : World} {q no : Nat} {S : List It} {F : Nat → Prop} {row : Value} (h : Playing w wr q no S F row) (hb : Below wr.heap.size wr w') : Playing w w' q no S F row :=
  ⟨h.que.below hb, h.own.below hb, fun j hj => ⟨(h.inF j hj).1, Nat.lt_of_lt_of_le (h.inF j hj).2 hb.size⟩, h.apart, h.inrow⟩
/-- a thing is put behind the row, and into the queue -/
theorem Playing.put {w wr W w4 w5 : World} {q no : Nat} {S : List It} {F : Nat → Prop} {row row' : Value} {x : Th} (h : Playing w wr q no S F row) (hb : Below wr.heap.size wr W) (hown : Own Th.enc 2 24 w4 w.heap.size row' (S.map It.x ++ [x])) (hO : Only (fun k => row.ownBlock = some k) W w4) (hloc : row'.ownBlock = row.ownBlock ∨ row'.ownBlock = some W.heap.size)
    (Q : QI w5 q false (S ++ [⟨x, (no : Int)⟩]) (no + 1) (fun k => F k ∨ w4.heap.size ≤ k)) (hO5 : Only F w4 w5) (hw : w.heap.size ≤ wr.heap.size) : Playing w w5 q (no + 1) (S ++ [⟨x, (no : Int)⟩]) (fun k => (F k ∨ w4.heap.size ≤ k) ∧ k < w5.heap.size) row' := by
  have hs1 := hb.size
  have hs2 := hO.size
  have hs3 := hO5.size
  have hap : ∀ j, row'.ownBlock = some j → ¬ F j := fun j hj hf => by
    rcases hloc with e | e
    · exact h.apart j (e ▸ hj) hf
    · rw [e] at hj; cases hj; have := (h.inF _ hf).2; omega
  refine ⟨Q.tight, ?_, fun j hj => ⟨?_, hj.2⟩, fun j hj hf => ?_, h.inrow.put x⟩
  · rw [List.map_append]
    exact hown.kept hO5 (fun k hk hf => hap k hk hf)
  · rcases hj.1 with h1 | h1
    · exact (h.inF j h1).1
    · omega
  · rcases hf.1 with h1 | h1
    · exact hap j hj h1
    · have := (hown.lt j hj).2; omega
end Go.Proofs.Yteiocnaneghggaa
