import Derived.Test.YteiocnaneghggaaQR5
import Derived.Test.YteiocnaneghggaaQAw
namespace Go.Proofs.Yteiocnaneghggaa
open Go Go.RowKit

/-- a slice of slices of ranks -/
def RdLI (w : World) (B : Nat) (v : Value) (lss : List (List Int)) : Prop :=
  ∃ vs : List Value, Rd encV 1 w B v vs ∧ vs.length = lss.length ∧ ∀ (i : Nat) (u : Value) (xs : List Int), vs[i]? = some u → lss[i]? = some xs → Rd encI 1 w B u xs
def mks (lss : List (List Int)) : List (List Th) := (lss.zipIdx 0).map (fun p => madeL p.1 (100 * (p.2 : Int)))
theorem mks_len (lss : List (List Int)) : (mks lss).length = lss.length := by simp [mks]
theorem mks_get {lss : List (List Int)} {i : Nat} {l : List Int} (h : lss[i]? = some l) : (mks lss)[i]? = some (madeL l (100 * (i : Int))) := by
  unfold mks
  rw [List.getElem?_map, List.getElem?_zipIdx, h]
  simp
theorem mks_inv {lss : List (List Int)} {i : Nat} {x : List Th} (h : (mks lss)[i]? = some x) : ∃ l, lss[i]? = some l ∧ x = madeL l (100 * (i : Int)) := by
  have hi : i < lss.length := by have := (List.getElem?_eq_some_iff.1 h).1; rwa [mks_len] at this
  obtain ⟨l, hl⟩ := get_lt hi
  rw [mks_get hl] at h
  cases h
  exact ⟨l, hl, rfl⟩
theorem madeL_inv {l : List Int} {f : Int} {i : Nat} {x : Th} (h : (madeL l f)[i]? = some x) : ∃ r, l[i]? = some r ∧ x = ⟨r, f + i⟩ := by
  have hi : i < l.length := by have := (List.getElem?_eq_some_iff.1 h).1; rwa [madeL_len] at this
  obtain ⟨r, hr⟩ := get_lt hi
  rw [madeL_get hr] at h
  cases h
  exact ⟨r, hr, rfl⟩
theorem madeL_mem {l : List Int} {f : Int} {x : Th} (h : x ∈ madeL l f) : f ≤ x.id ∧ x.id < f + l.length := by
  obtain ⟨i, hi⟩ := List.mem_iff_getElem?.1 h
  obtain ⟨r, hr, rfl⟩ := madeL_inv hi
  have := (List.getElem?_eq_some_iff.1 hr).1
  simp only
  omega
theorem pairwise_get {α : Type} {R : α → α → Prop} {xs : List α} (h : ∀ (i j : Nat) (x y : α), i < j → xs[i]? = some x → xs[j]? = some y → R x y) : xs.Pairwise R := by
  rw [List.pairwise_iff_getElem]
  intro i j hi hj hij
  exact h i j _ _ hij (List.getElem?_eq_getElem hi) (List.getElem?_eq_getElem hj)
theorem get_pairwise {α : Type} {R : α → α → Prop} {xs : List α} (h : xs.Pairwise R) {i j : Nat} {x y : α} (hij : i < j) (hx : xs[i]? = some x) (hy : xs[j]? = some y) : R x y := by
  obtain ⟨hi, rfl⟩ := List.getElem?_eq_some_iff.1 hx
  obtain ⟨hj, rfl⟩ := List.getElem?_eq_some_iff.1 hy
  exact List.pairwise_iff_getElem.1 h i j hi hj hij
theorem madeL_ids (l : List Int) (f : Int) : (madeL l f).Pairwise IdL := by
  refine pairwise_get (fun i j x y hij hx hy => ?_)
  obtain ⟨r, _, rfl⟩ := madeL_inv hx
  obtain ⟨s, _, rfl⟩ := madeL_inv hy
  show f + (i : Int) < f + (j : Int)
  omega
/-- ranks that do not fall from one to the next one do not fall at all -/
theorem rises_le {xs : List Th} (h : RisesP xs) : ∀ (d i : Nat) (x y : Th), xs[i]? = some x → xs[i + d]? = some y → x.rank ≤ y.rank
  | 0, i, x, y, hx, hy => by rw [Nat.add_zero, hx] at hy; cases hy; exact Int.le_refl _
  | d + 1, i, x, y, hx, hy => by
    obtain ⟨z, hz⟩ := get_lt (show i + d < xs.length by have := (List.getElem?_eq_some_iff.1 hy).1; omega)
    exact Int.le_trans (rises_le h d i x z hx hz) (h (i + d) z y hz hy)
theorem rises_kl {xs : List Th} (h : RisesP xs) (hid : xs.Pairwise IdL) : xs.Pairwise KL := by
  refine pairwise_get (fun i j x y hij hx hy => ?_)
  have h1 := rises_le h (j - i) i x y hx (by rw [show i + (j - i) = j by omega]; exact hy)
  have h2 : x.id < y.id := get_pairwise hid hij hx hy
  unfold KL
  omega
theorem kl_rises {xs : List Th} (h : xs.Pairwise KL) : RisesP xs := by
  intro i x y hx hy
  have := get_pairwise h (show i < i + 1 by omega) hx hy
  unfold KL at this
  omega

/-- lists whose numbers rise, within each one and from one to the next one -/
def Rowed (xss : List (List Th)) : Prop := (∀ xs ∈ xss, xs.Pairwise IdL) ∧ xss.Pairwise (fun a b => ∀ x ∈ a, ∀ y ∈ b, IdL x y)
theorem Rowed.flat {xss : List (List Th)} (h : Rowed xss) : xss.flatten.Pairwise IdL := by
  rw [List.pairwise_flatten]
  exact h
theorem Rowed.lined {xss : List (List Th)} (h : Rowed xss) (hf : fallsB xss = false) : Lined xss.length (nth xss) := by
  rw [fallsB_false] at hf
  refine ⟨fun i hi => ?_, fun i j hij hj x hx y hy => ?_⟩
  · obtain ⟨xs, hxs⟩ := get_lt hi
    rw [nth_get hxs]
    have hm := List.mem_of_getElem? hxs
    exact rises_kl (hf xs hm) (h.1 xs hm)
  · obtain ⟨xs, hxs⟩ := get_lt (show i < xss.length by omega)
    obtain ⟨ys, hys⟩ := get_lt hj
    rw [nth_get hxs] at hx
    rw [nth_get hys] at hy
    exact get_pairwise h.2 hij hxs hys x hx y hy
theorem mks_rows {lss : List (List Int)} (h : ∀ l ∈ lss, l.length ≤ 40) : Rowed (mks lss) := by
  refine ⟨fun xs hx => ?_, pairwise_get (fun i j a b hij ha hb x hx y hy => ?_)⟩
  · obtain ⟨i, hi⟩ := List.mem_iff_getElem?.1 hx
    obtain ⟨l, _, rfl⟩ := mks_inv hi
    exact madeL_ids _ _
  · obtain ⟨l, hl, rfl⟩ := mks_inv ha
    obtain ⟨m, hm, rfl⟩ := mks_inv hb
    have h1 := madeL_mem hx
    have h2 := madeL_mem hy
    have h3 := h l (List.mem_of_getElem? hl)
    show x.id < y.id
    omega
theorem flatten_le {α : Type} {n : Nat} : ∀ (xss : List (List α)), (∀ xs ∈ xss, xs.length ≤ n) → xss.flatten.length ≤ xss.length * n
  | [], _ => by simp
  | xs :: xss, h => by
    have h1 := h xs (List.mem_cons_self ..)
    have h2 := flatten_le xss (fun x hx => h x (List.mem_cons_of_mem _ hx))
    rw [List.flatten_cons, List.length_append, List.length_cons, Nat.succ_mul]
    omega

/-- a slice's header -/
structure SV where
  A : Option Addr
  n : Nat
  c : Nat
def SV.val (s : SV) : Value := .slice s.A s.n s.c
def encS (s : SV) : List Value := [.slice s.A s.n s.c]
theorem encS_len (s : SV) : (encS s).length = 1 := rfl
theorem encS_one (s : SV) : ∀ u ∈ encS s, u.oneCell' = true := by simp [encS, Value.oneCell']
theorem encV_len (u : Value) : (encV u).length = 1 := rfl
theorem T50 : SliceT Try.prog 50 41 1 24 := SliceT.mk_ (z := .slice none 0 0) Try.underlying50 (by kernel_rfl) rfl (by omega) (by omega)
theorem own_sv {w : World} {base : Nat} {e : TypeId} {v : Value} {ss : List SV} (h : Own encS 1 e w base v ss) : Own encV 1 e w base v (ss.map SV.val) := by
  unfold Own at *
  rw [List.length_map, List.flatMap_map]
  exact h

/-- where the lists' making stands -/
structure Making (lss : List (List Int)) (w : World) (base k : Nat) (v : Value) (ss : List SV) : Prop where
  own : Own encS 1 41 w base v ss
  len : ss.length = k
  each : ∀ (j : Nat) (s : SV) (l : List Int), ss[j]? = some s → lss[j]? = some l → Own Th.enc 2 24 w base s.val (madeL l (100 * (j : Int))) ∧ ∀ b, s.val.ownBlock = some b → v.ownBlock ≠ some b
theorem Making.below {lss : List (List Int)} {w w' : World} {base k : Nat} {v : Value} {ss : List SV} (h : Making lss w base k v ss) (hb : Below w.heap.size w w') : Making lss w' base k v ss :=
  ⟨h.own.below hb, h.len, fun j u l hu hl => ⟨(h.each j u l hu hl).1.below hb, (h.each j u l hu hl).2⟩⟩
theorem Making.nil (lss : List (List Int)) (w : World) (base : Nat) : Making lss w base 0 (.slice none 0 0) [] :=
  ⟨Own.nil _ _ _ _ _, rfl, fun j u l hu => by simp at hu⟩
/-- one more: s, made in new memory, is put behind -/
theorem Making.more {lss : List (List Int)} {w w' : World} {base k n : Nat} {v v' : Value} {ss : List SV} {s : SV} {l : List Int} (h : Making lss w base k v ss) (hl : lss[k]? = some l) (hs : Own Th.enc 2 24 w n s.val (madeL l (100 * (k : Int)))) (hn : base ≤ n) (hv : ∀ b, v.ownBlock = some b → b < n)
    (hown : Own encS 1 41 w' base v' (ss ++ [s])) (hO : Only (fun k => v.ownBlock = some k) w w') (hloc : v'.ownBlock = v.ownBlock ∨ ∃ b, v'.ownBlock = some b ∧ w.heap.size ≤ b) : Making lss w' base (k + 1) v' (ss ++ [s]) := by
  have hnew : ∀ u : Value, ∀ b, (b < w.heap.size ∧ v.ownBlock ≠ some b) → u.ownBlock = some b → v'.ownBlock ≠ some b := by
    intro u b ⟨h1, h2⟩ _ e
    rcases hloc with h | ⟨i, h, hi⟩
    · exact h2 (h ▸ e)
    · rw [h] at e; cases e; omega
  refine ⟨hown, by simp [h.len], fun j u l' hu hl' => ?_⟩
  rcases Nat.lt_or_ge j k with hj | hj
  · rw [List.getElem?_append_left (by rw [h.len]; exact hj)] at hu
    obtain ⟨h1, h2⟩ := h.each j u l' hu hl'
    exact ⟨h1.kept hO (fun b hb => h2 b hb), fun b hb => hnew _ b ⟨(h1.lt b hb).2, h2 b hb⟩ hb⟩
  · rw [List.getElem?_append_right (by rw [h.len]; exact hj), h.len] at hu
    have e : j = k := by
      have := (List.getElem?_eq_some_iff.1 hu).1
      simp at this
      omega
    subst e
    simp at hu
    subst hu
    rw [hl] at hl'
    cases hl'
    have hne : ∀ b, s.val.ownBlock = some b → v.ownBlock ≠ some b := fun b hb e => by have := hv b e; have := (hs.lt b hb).1; omega
    exact ⟨(hs.kept hO hne).based hn, fun b hb => hnew _ b ⟨(hs.lt b hb).2, hne b hb⟩ hb⟩
theorem Making.done {lss : List (List Int)} {w : World} {base : Nat} {v : Value} {ss : List SV} (h : Making lss w base lss.length v ss) (hl : lss.length ≤ 1000) (hs : ∀ l ∈ lss, l.length ≤ 1000) : RdLL w w.heap.size v (mks lss) := by
  refine ⟨ss.map SV.val, (own_sv h.own).rd encV_len (by simp [h.len, maxLen]; omega), by rw [List.length_map, h.len, mks_len], fun i u xs hu hx => ?_⟩
  rw [List.getElem?_map] at hu
  obtain ⟨s, hs', rfl⟩ := Option.map_eq_some_iff.1 hu
  obtain ⟨l, hl', rfl⟩ := mks_inv hx
  have := hs l (List.mem_of_getElem? hl')
  exact (h.each i s l hs' hl').1.rd Th.enc_len (by rw [madeL_len]; unfold maxLen; omega)
end Go.Proofs.Yteiocnaneghggaa
