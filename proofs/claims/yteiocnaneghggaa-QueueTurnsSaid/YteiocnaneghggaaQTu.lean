import Derived.Test.YteiocnaneghggaaQSo
namespace Go.Proofs.Yteiocnaneghggaa
open Go Go.RowKit

def RkL (kk : Bool) (a b : Th) : Prop := if kk then b.rank < a.rank else a.rank < b.rank
/-- no rank stands twice -/
def Unlike (l : List Int) (k : Nat) : Prop := ∀ (i j : Nat) (r : Int), i < j → j < k → l[i]? = some r → l[j]? ≠ some r
/-- where the taking of one queue stands -/
structure Taking (kk : Bool) (l : List Int) (S : List It) (out : List Th) : Prop where
  left : Left l S
  perm : (out ++ S.map It.x).Perm ((itms l l.length).map It.x)
  sorted : out.Pairwise (RkL kk)
  before : ∀ o ∈ out, ∀ t ∈ S, RkL kk o t.x
theorem Taking.start (kk : Bool) (l : List Int) : Taking kk l (itms l l.length) [] := ⟨left_all l, List.Perm.refl _, by simp, by simp⟩
theorem Taking.size {kk : Bool} {l : List Int} {S : List It} {out : List Th} (h : Taking kk l S out) : out.length + S.length = l.length := by
  have := h.perm.length_eq
  rw [List.length_append, List.length_map, List.length_map, itms_len] at this
  exact this
theorem rank_off {kk : Bool} {l : List Int} {S : List It} {m t : It} (hu : Unlike l l.length) (hL : Left l S) (hm : m ∈ S) (ht : t ∈ S) (hne : t.no ≠ m.no) (h : ahead (cmpO kk) t m = false) : RkL kk m.x t.x := by
  obtain ⟨j, r, hj, e⟩ := hL.sub m hm
  obtain ⟨j', r', hj', e'⟩ := hL.sub t ht
  have hjl := (List.getElem?_eq_some_iff.1 hj).1
  have hjl' := (List.getElem?_eq_some_iff.1 hj').1
  have hr : r ≠ r' := by
    intro hrr
    subst hrr
    subst e e'
    simp only at hne
    rcases Nat.lt_or_ge j j' with h1 | h1
    · exact hu j j' r h1 hjl' hj hj'
    · exact hu j' j r (by omega) hjl hj' hj
  cases kk
  · have h1 : ¬ ahead cmpT t m = true := by rw [Bool.not_eq_true]; exact h
    rw [ahead_T] at h1
    subst e e'
    show r < r'
    simp only at h1
    omega
  · have h1 : ¬ ahead cmpB t m = true := by rw [Bool.not_eq_true]; exact h
    rw [ahead_B] at h1
    subst e e'
    show r' < r
    simp only at h1
    omega
theorem Taking.next {kk : Bool} {l : List Int} {S S' : List It} {out : List Th} {m : It} (hu : Unlike l l.length) (h : Taking kk l S out) (hm : Least kk S m) (hp : (S' ++ [m]).Perm S) : Taking kk l S' (out ++ [m.x]) := by
  obtain ⟨h1, h2⟩ := h.left.take hp
  refine ⟨h1, ?_, ?_, ?_⟩
  · rw [List.append_assoc]
    refine (List.Perm.append_left out ?_).trans h.perm
    have := hp.map It.x
    rw [List.map_append] at this
    exact (List.perm_append_comm).trans this
  · rw [List.pairwise_append]
    refine ⟨h.sorted, by simp, fun a ha b hb => ?_⟩
    rw [List.mem_singleton] at hb
    subst hb
    exact h.before a ha m hm.1
  · intro o ho t ht
    have htS := hp.subset (List.mem_append_left [m] ht)
    rcases List.mem_append.1 ho with h' | h'
    · exact h.before o h' t htS
    · rw [List.mem_singleton] at h'
      subst h'
      exact rank_off hu h.left hm.1 htS (fun e => h2 (by rw [← e]; exact List.mem_map_of_mem ht)) (hm.2 t htS)
/-- when both are empty, the one is the other turned round -/
theorem Taking.turned {l : List Int} {a b : List Th} (h : Taking false l [] a) (k : Taking true l [] b) : a = b.reverse := by
  have hp := h.perm
  have kp := k.perm
  simp only [List.map_nil, List.append_nil] at hp kp
  refine kl_unique _ _ (h.sorted.imp (fun hab => Or.inl hab)) ?_ (hp.trans (kp.symm.trans (List.reverse_perm b).symm))
  rw [List.pairwise_reverse]
  exact List.Pairwise.imp (R := RkL true) (fun {x y : Th} (hab : RkL true x y) => (Or.inl hab : KL y x)) k.sorted
theorem rev_get {α : Type} {b : List α} {i : Nat} {x : α} (h : b.reverse[i]? = some x) : b[b.length - 1 - i]? = some x ∧ i < b.length := by
  have hi : i < b.length := by simpa using (List.getElem?_eq_some_iff.1 h).1
  rw [List.getElem?_reverse hi] at h
  exact ⟨h, hi⟩

/-- two queues that share no memory -/
structure Two (w wr : World) (q1 q2 : Nat) (S1 S2 : List It) (no : Nat) (F1 F2 : Nat → Prop) : Prop where
  one : QI wr q1 false S1 no F1
  two : QI wr q2 true S2 no F2
  apart : ∀ j, F1 j → ¬ F2 j
  in1 : ∀ j, F1 j → w.heap.size ≤ j ∧ j < wr.heap.size
  in2 : ∀ j, F2 j → w.heap.size ≤ j ∧ j < wr.heap.size
theorem Two.below {w wr wr' : World} {q1 q2 : Nat} {S1 S2 : List It} {no : Nat} {F1 F2 : Nat → Prop} (h : Two w wr q1 q2 S1 S2 no F1 F2) (hb : Below wr.heap.size wr wr') : Two w wr' q1 q2 S1 S2 no F1 F2 :=
  ⟨h.one.below hb, h.two.below hb, h.apart, fun j hj => ⟨(h.in1 j hj).1, Nat.lt_of_lt_of_le (h.in1 j hj).2 hb.size⟩, fun j hj => ⟨(h.in2 j hj).1, Nat.lt_of_lt_of_le (h.in2 j hj).2 hb.size⟩⟩
end Go.Proofs.Yteiocnaneghggaa
