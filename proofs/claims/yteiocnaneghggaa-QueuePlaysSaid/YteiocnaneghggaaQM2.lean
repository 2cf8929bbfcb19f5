import Derived.Test.YteiocnaneghggaaQM
namespace Go.Proofs.Yteiocnaneghggaa
open Go Go.RowKit

/-- how many a slice value holds -/
def lenOf : Value → Nat
  | .slice _ n _ => n
  | _ => 0

/-- where merging stands: S the heads in the queue, rem what is left (with them), out what is out -/
structure Merging (xss : List (List Th)) (c : Nat) (w2 : World) (B : Nat) (S : List Hd.It) (rem : Nat → List Th) (out : List Th) : Prop where
  heads : Heads xss.length rem S
  lined : Lined xss.length rem
  rest : ∀ t ∈ S, Rd Th.enc 2 w2 B (.slice t.x.ra t.x.rn t.x.rc) ((rem t.x.list.toNat).drop 1)
  perm : (out ++ allOf xss.length rem).Perm xss.flatten
  sorted : out.Pairwise KL
  below : ∀ o ∈ out, ∀ y ∈ allOf xss.length rem, KL o y
  few : S.length ≤ xss.length

theorem Merging.size {xss : List (List Th)} {c : Nat} {w2 : World} {B : Nat} {S : List Hd.It} {rem : Nat → List Th} {out : List Th} (h : Merging xss c w2 B S rem out) : out.length ≤ xss.flatten.length := by
  have := h.perm.length_eq
  rw [List.length_append] at this
  omega
theorem Merging.done {xss : List (List Th)} {c : Nat} {w2 : World} {B : Nat} {rem : Nat → List Th} {out : List Th} (h : Merging xss c w2 B [] rem out) : out.Perm xss.flatten ∧ out.Pairwise KL := by
  have hp := h.perm
  rw [heads_none h.heads, List.append_nil] at hp
  exact ⟨hp, h.sorted⟩
/-- one is taken: what its list is, what is behind it -/
theorem Merging.head {xss : List (List Th)} {c : Nat} {w2 : World} {B : Nat} {S : List Hd.It} {rem : Nat → List Th} {out : List Th} (h : Merging xss c w2 B S rem out) {m : Hd.It} (hm : m ∈ S) :
    ∃ (i : Nat) (rs : List Th), i < xss.length ∧ m.x.list = (i : Int) ∧ rem i = ⟨m.x.rank, m.x.id⟩ :: rs ∧ Rd Th.enc 2 w2 B (.slice m.x.ra m.x.rn m.x.rc) rs := by
  obtain ⟨i, rs, hi, h1, h2⟩ := h.heads.head m hm
  have hr := h.rest m hm
  rw [h1, Int.toNat_natCast, h2] at hr
  exact ⟨i, rs, hi, h1, h2, by simpa using hr⟩
/-- .. and nothing is behind it -/
theorem Merging.last {xss : List (List Th)} {c : Nat} {w2 : World} {B : Nat} {S S' : List Hd.It} {rem : Nat → List Th} {out : List Th} (h : Merging xss c w2 B S rem out) {m : Hd.It} (hleast : ∀ y ∈ S, Hd.ahead (Hd.cmpO c) y m = false) (hp : (S' ++ [m]).Perm S) {i : Nat} (hi : i < xss.length) (h1 : m.x.list = (i : Int)) (h2 : rem i = [⟨m.x.rank, m.x.id⟩]) :
    Merging xss c w2 B S' (upd rem i []) (out ++ [⟨m.x.rank, m.x.id⟩]) := by
  have hle := heads_least (c := c) h.lined h.heads hleast hi h1 h2
  have hpm := allOf_upd rem i _ _ h2 xss.length hi
  have hone : (m.x.list :: S'.map (fun t => t.x.list)).Nodup := by
    have h1 := (hp.map (fun t => t.x.list)).nodup_iff.2 h.heads.one
    rw [List.map_append] at h1
    exact (List.perm_append_singleton _ _).nodup_iff.1 h1
  refine ⟨heads_take h.heads hp hi h1, h.lined.upd h2, fun t ht => ?_, ?_, ?_, ?_, ?_⟩
  · have htS := hp.subset (List.mem_append_left _ ht)
    have hne : t.x.list ≠ m.x.list := fun e => (List.nodup_cons.1 hone).1 (by rw [← e]; exact List.mem_map_of_mem ht)
    obtain ⟨j, rs, hj, hl, hr⟩ := h.heads.head t htS
    have := h.rest t htS
    unfold upd
    rw [if_neg (by rw [hl, Int.toNat_natCast]; omega)]
    exact this
  · rw [List.append_assoc]
    exact (List.Perm.append_left out hpm).trans h.perm
  · rw [List.pairwise_append]
    refine ⟨h.sorted, by simp, fun a ha b hb => ?_⟩
    rw [List.mem_singleton] at hb
    subst hb
    exact h.below a ha _ (hpm.subset (List.mem_cons_self ..))
  · intro o ho y hy
    rcases List.mem_append.1 ho with h' | h'
    · exact h.below o h' y (hpm.subset (List.mem_cons_of_mem _ hy))
    · rw [List.mem_singleton] at h'
      subst h'
      exact hle y hy
  · have := hp.length_eq
    rw [List.length_append, List.length_singleton] at this
    have := h.few
    omega
/-- .. and its list's next thing is put -/
theorem Merging.next {xss : List (List Th)} {c : Nat} {w2 : World} {B : Nat} {S S' : List Hd.It} {rem : Nat → List Th} {out : List Th} (h : Merging xss c w2 B S rem out) {m t : Hd.It} (hleast : ∀ y ∈ S, Hd.ahead (Hd.cmpO c) y m = false) (hp : (S' ++ [m]).Perm S) {i : Nat} (hi : i < xss.length) (h1 : m.x.list = (i : Int)) {rs : List Th} (h2 : rem i = ⟨m.x.rank, m.x.id⟩ :: ⟨t.x.rank, t.x.id⟩ :: rs) (ht1 : t.x.list = (i : Int)) (hrt : Rd Th.enc 2 w2 B (.slice t.x.ra t.x.rn t.x.rc) rs) :
    Merging xss c w2 B (S' ++ [t]) (upd rem i (⟨t.x.rank, t.x.id⟩ :: rs)) (out ++ [⟨m.x.rank, m.x.id⟩]) := by
  have hle := heads_least (c := c) h.lined h.heads hleast hi h1 h2
  have hpm := allOf_upd rem i _ _ h2 xss.length hi
  have hone : (m.x.list :: S'.map (fun t => t.x.list)).Nodup := by
    have h1 := (hp.map (fun t => t.x.list)).nodup_iff.2 h.heads.one
    rw [List.map_append] at h1
    exact (List.perm_append_singleton _ _).nodup_iff.1 h1
  have hlen := hp.length_eq
  rw [List.length_append, List.length_singleton] at hlen
  refine ⟨heads_put (heads_take h.heads hp hi h1) hi ht1, h.lined.upd h2, fun u hu => ?_, ?_, ?_, ?_, ?_⟩
  · rcases List.mem_append.1 hu with hu' | hu'
    · have htS := hp.subset (List.mem_append_left _ hu')
      have hne : u.x.list ≠ m.x.list := fun e => (List.nodup_cons.1 hone).1 (by rw [← e]; exact List.mem_map_of_mem hu')
      obtain ⟨j, rs', hj, hl, hr⟩ := h.heads.head u htS
      have := h.rest u htS
      unfold upd
      rw [if_neg (by rw [hl, Int.toNat_natCast]; omega)]
      exact this
    · rw [List.mem_singleton] at hu'
      subst hu'
      unfold upd
      rw [if_pos (by rw [ht1, Int.toNat_natCast])]
      exact hrt
  · rw [List.append_assoc]
    exact (List.Perm.append_left out hpm).trans h.perm
  · rw [List.pairwise_append]
    refine ⟨h.sorted, by simp, fun a ha b hb => ?_⟩
    rw [List.mem_singleton] at hb
    subst hb
    exact h.below a ha _ (hpm.subset (List.mem_cons_self ..))
  · intro o ho y hy
    rcases List.mem_append.1 ho with h' | h'
    · exact h.below o h' y (hpm.subset (List.mem_cons_of_mem _ hy))
    · rw [List.mem_singleton] at h'
      subst h'
      exact hle y hy
  · rw [List.length_append, List.length_singleton]
    have := h.few
    omega
end Go.Proofs.Yteiocnaneghggaa
