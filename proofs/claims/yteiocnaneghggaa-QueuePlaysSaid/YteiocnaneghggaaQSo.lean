import Derived.Test.YteiocnaneghggaaQMg
import Derived.WalkMore
namespace Go.Proofs.Yteiocnaneghggaa
open Go Go.RowKit

/-- the things that a list of ranks makes, as they lie in a queue -/
def itms (l : List Int) (k : Nat) : List It := (List.range k).map (fun j => ⟨⟨l.getD j 0, (j : Int)⟩, (j : Int)⟩)
theorem itms_len (l : List Int) (k : Nat) : (itms l k).length = k := by simp [itms]
theorem itms_succ {l : List Int} {k : Nat} {r : Int} (h : l[k]? = some r) : itms l (k + 1) = itms l k ++ [⟨⟨r, (k : Int)⟩, (k : Int)⟩] := by
  unfold itms
  rw [List.range_succ, List.map_append, List.map_cons, List.map_nil, List.getD_eq_getElem?_getD, h]
  rfl

/-- some of the things of a list of ranks, each once -/
structure Left (l : List Int) (S : List It) : Prop where
  sub : ∀ t ∈ S, ∃ (j : Nat) (r : Int), l[j]? = some r ∧ t = ⟨⟨r, (j : Int)⟩, (j : Int)⟩
  nod : (S.map It.no).Nodup
theorem left_all (l : List Int) : Left l (itms l l.length) := by
  refine ⟨fun t ht => ?_, ?_⟩
  · obtain ⟨j, hj, rfl⟩ := List.mem_map.1 ht
    have hj' : j < l.length := List.mem_range.1 hj
    obtain ⟨r, hr⟩ := get_lt hj'
    exact ⟨j, r, hr, by rw [List.getD_eq_getElem?_getD, hr]; rfl⟩
  · unfold itms
    rw [List.map_map]
    exact List.Pairwise.map _ (fun a b (h : a < b) => show ((a : Nat) : Int) ≠ (b : Int) by omega) List.pairwise_lt_range
theorem Left.perm {l : List Int} {S S' : List It} (h : Left l S) (hp : S.Perm S') : Left l S' :=
  ⟨fun t ht => h.sub t (hp.symm.subset ht), (hp.map It.no).nodup_iff.1 h.nod⟩
theorem Left.take {l : List Int} {S S' : List It} {m : It} (h : Left l S) (hp : (S' ++ [m]).Perm S) : Left l S' ∧ m.no ∉ S'.map It.no := by
  have h1 := (hp.map It.no).nodup_iff.2 h.nod
  rw [List.map_append, List.map_cons, List.map_nil] at h1
  have h2 := (List.perm_append_singleton _ _).nodup_iff.1 h1
  exact ⟨⟨fun t ht => h.sub t (hp.subset (List.mem_append_left _ ht)), (List.nodup_cons.1 h2).2⟩, (List.nodup_cons.1 h2).1⟩
theorem not_ahead (kk : Bool) {a b : It} (h1 : ahead (cmpO kk) a b = false) (h2 : ahead (cmpO kk) b a = false) : a.x.rank = b.x.rank ∧ a.no = b.no := by
  cases kk
  · have h1' : ¬ ahead cmpT a b = true := by rw [Bool.not_eq_true]; exact h1
    have h2' : ¬ ahead cmpT b a = true := by rw [Bool.not_eq_true]; exact h2
    rw [ahead_T] at h1' h2'
    omega
  · have h1' : ¬ ahead cmpB a b = true := by rw [Bool.not_eq_true]; exact h1
    have h2' : ¬ ahead cmpB b a = true := by rw [Bool.not_eq_true]; exact h2
    rw [ahead_B] at h1' h2'
    omega
/-- the least one is one alone -/
theorem Left.one {l : List Int} {S : List It} {kk : Bool} {m m' : It} (h : Left l S) (hm : Least kk S m) (hm' : Least kk S m') : m = m' := by
  obtain ⟨j, r, hj, e⟩ := h.sub m hm.1
  obtain ⟨j', r', hj', e'⟩ := h.sub m' hm'.1
  obtain ⟨h1, h2⟩ := not_ahead kk (hm'.2 m hm.1) (hm.2 m' hm'.1)
  subst e e'
  simp only at h1 h2
  rw [h1, h2]
/-- what is left is behind the one that is taken -/
theorem Left.behind {l : List Int} {S S' : List It} {m : It} (h : Left l S) (hm : Least false S m) (hp : (S' ++ [m]).Perm S) : ∀ t ∈ S', m.x.rank < t.x.rank ∨ (m.x.rank = t.x.rank ∧ m.x.id < t.x.id) := by
  intro t ht
  have htS := hp.subset (List.mem_append_left [m] ht)
  have h1 : ¬ ahead cmpT t m = true := by rw [Bool.not_eq_true]; exact hm.2 t htS
  rw [ahead_T] at h1
  obtain ⟨j, r, _, e⟩ := h.sub m hm.1
  obtain ⟨j', r', _, e'⟩ := h.sub t htS
  have hne : t.no ≠ m.no := fun e2 => (h.take hp).2 (by rw [← e2]; exact List.mem_map_of_mem ht)
  subst e e'
  simp only at h1 hne ⊢
  omega

theorem T31 : SliceT Try.prog 31 3 1 8 := SliceT.mk_ (z := .int .i64 0) Try.underlying31 (by kernel_rfl) rfl (by omega) (by omega)
/-- make([]int, n) -/
theorem make31 (n : Nat) (hn : n ≤ 1000) : ∃ MC : Array Value, (∀ W : World, Sem.run Try.prog (Instr.makeSlice 31 (.int .i64 (n : Int)) (.int .i64 (n : Int))) W = .ok (.slice (some ⟨W.heap.size, 0, none⟩) n n) (W.alloc (.cells MC 3))) ∧
    ∀ j, j < n → MC[j]? = some (.int .i64 0) := by
  obtain ⟨ht, i, z, hi, hz, hsize, hby, hzs, hsz, _⟩ := T31
  have hz0 : z = .int .i64 0 := by
    have h1 : (Try.prog.info? 3).map (fun i => i.zero) = some (some (.int .i64 0)) := by kernel_rfl
    rw [hi] at h1
    simp [hz] at h1
    exact h1
  refine ⟨madeCells z.cells (n * 1), fun W => ?_, fun j hj => ?_⟩
  · have hr := run_make (P := Try.prog) W 31 3 i z ht hi hz .i64 .i64 n n (by omega) (Int.le_refl _) (by rw [hby]; omega) (by omega)
    simp only [Int.toNat_natCast, hsize] at hr
    exact hr
  · subst hz0
    simp [madeCells, Value.cells, hj, Nat.mod_one]
end Go.Proofs.Yteiocnaneghggaa
