/-
  Words of my own over the kit's library: a slice that reads as a list, an owned row as a list, a class of worlds that only grow, regions that draw their order over that class.
-/
import Derived.WalkKit
import Derived.ProofKit
import Derived.Below
import Derived.Lib.Hide
import Derived.Deep.QuietTactic
import Derived.BigQuiet
import Derived.Laws.AppendOwn
import Derived.Laws.OwnMore
import Derived.OwnWalk
import Derived.Deep.Draws
import Derived.Maps.AppendAt
namespace Go.Proofs.YtgkmmlffnfpjaaaDoor
open Go Go.RowKit

/-! ### worlds -/
theorem below_drewN {B : Nat} {a w : World} (h : Below B a w) (n : Nat) : Below B a (w.drewN n) := ⟨h.os, h.tape, h.output, h.size, h.block⟩

/-- Blocks outside S, of those that were there, are as they were. -/
structure Only (S : Nat → Prop) (w w' : World) : Prop where
  os : w'.os = w.os
  tape : w'.tape = w.tape
  output : w'.output = w.output
  size : w.heap.size ≤ w'.heap.size
  block : ∀ k, k < w.heap.size → ¬ S k → w'.heap[k]? = w.heap[k]?

theorem Only.refl (S : Nat → Prop) (w : World) : Only S w w := ⟨rfl, rfl, rfl, Nat.le_refl _, fun _ _ _ => rfl⟩
theorem Only.trans {S : Nat → Prop} {a b c : World} (h : Only S a b) (k : Only S b c) : Only S a c :=
  ⟨k.os.trans h.os, k.tape.trans h.tape, k.output.trans h.output, Nat.le_trans h.size k.size, fun i hi hs => (k.block i (Nat.lt_of_lt_of_le hi h.size) hs).trans (h.block i hi hs)⟩
theorem Only.mono {S T : Nat → Prop} {a b : World} (h : Only S a b) (hs : ∀ k, k < a.heap.size → S k → T k) : Only T a b :=
  ⟨h.os, h.tape, h.output, h.size, fun i hi hn => h.block i hi (fun x => hn (hs i hi x))⟩
theorem Only.of_below {w w' : World} (h : Below w.heap.size w w') (S : Nat → Prop) : Only S w w' := ⟨h.os, h.tape, h.output, h.size, fun k hk _ => h.block k hk⟩
theorem Only.below {S : Nat → Prop} {w w' : World} (h : Only S w w') {B : Nat} (hB : B ≤ w.heap.size) (hS : ∀ k, k < B → ¬ S k) : Below B w w' :=
  ⟨h.os, h.tape, h.output, h.size, fun k hk => h.block k (Nat.lt_of_lt_of_le hk hB) (hS k hk)⟩
theorem Only.of_grown {w w' : World} {row : Option Nat} (h : w.grownBy w' row) : Only (fun k => some k = row) w w' := ⟨h.os, h.tape, h.output, h.size, h.block⟩
theorem Only.drewN {S : Nat → Prop} {a w : World} (h : Only S a w) (n : Nat) : Only S a (w.drewN n) := ⟨h.os, h.tape, h.output, h.size, h.block⟩
theorem Only.cell {S : Nat → Prop} {w w' : World} (h : Only S w w') {a : Addr} {v : Value} (hc : w.cell? a = some v) (hn : ¬ S a.block) : w'.cell? a = some v :=
  (World.cell?_of_block (h.block a.block (World.block_lt_of_cell? w a hc) hn)).trans hc
theorem Below.cell_some {B : Nat} {w w' : World} (h : Below B w w') {a : Addr} {v : Value} (hc : w.cell? a = some v) (hn : a.block < B) : w'.cell? a = some v :=
  (h.cell hn).trans hc

theorem flatMap_get {α : Type} {enc : α → List Value} {size : Nat} (hs : ∀ x, (enc x).length = size) : ∀ (xs : List α) (i : Nat) (x : α), xs[i]? = some x → ∀ (j : Nat) (u : Value), (enc x)[j]? = some u → (xs.flatMap enc)[i * size + j]? = some u
  | [], i, x, hx, _, _, _ => by simp at hx
  | y :: ys, i, x, hx, j, u, hu => by
    have hj : j < size := by rw [← hs x]; exact (List.getElem?_eq_some_iff.1 hu).1
    rw [List.flatMap_cons]
    cases i with
    | zero =>
      simp at hx
      subst hx
      rw [Nat.zero_mul, Nat.zero_add, List.getElem?_append_left (by rw [hs]; exact hj)]
      exact hu
    | succ i =>
      simp at hx
      rw [Nat.succ_mul, List.getElem?_append_right (by rw [hs]; omega), hs]
      rw [show i * size + size + j - size = i * size + j by omega]
      exact flatMap_get hs ys i x hx j u hu

/-! ### a slice that reads as a list -/
/-- The slice value v reads, in w, as the list xs, each element 'size' cells ('enc'), in a block below B. -/
def Rd {α : Type} (enc : α → List Value) (size : Nat) (w : World) (B : Nat) (v : Value) (xs : List α) : Prop :=
  ∃ (A : Option Addr) (cap : Nat), v = .slice A xs.length cap ∧ xs.length ≤ cap ∧ cap ≤ maxLen ∧
    (xs ≠ [] → ∃ b off, A = some ⟨b, off, none⟩ ∧ b < B ∧ ∀ i x, xs[i]? = some x → ∀ j u, (enc x)[j]? = some u → w.cell? ⟨b, off + i * size + j, none⟩ = some u)

section
variable {α : Type} {enc : α → List Value} {size B B' : Nat} {w w' : World} {v : Value} {xs : List α}
theorem Rd.nil (enc : α → List Value) (size : Nat) (w : World) (B : Nat) : Rd enc size w B (.slice none 0 0) [] :=
  ⟨none, 0, rfl, Nat.le_refl _, Nat.zero_le _, fun h => absurd rfl h⟩
theorem Rd.len (h : Rd enc size w B v xs) : xs.length ≤ maxLen := by
  obtain ⟨A, cap, _, h1, h2, _⟩ := h; omega
theorem Rd.more (h : Rd enc size w B v xs) (hB : B ≤ B') : Rd enc size w B' v xs := by
  obtain ⟨A, cap, h0, h1, h2, h3⟩ := h
  refine ⟨A, cap, h0, h1, h2, fun hne => ?_⟩
  obtain ⟨b, off, hA, hb, hc⟩ := h3 hne
  exact ⟨b, off, hA, by omega, hc⟩
theorem Rd.below (h : Rd enc size w B v xs) (hb : Below B' w w') (hB : B ≤ B') : Rd enc size w' B v xs := by
  obtain ⟨A, cap, h0, h1, h2, h3⟩ := h
  refine ⟨A, cap, h0, h1, h2, fun hne => ?_⟩
  obtain ⟨b, off, hA, hbb, hc⟩ := h3 hne
  exact ⟨b, off, hA, hbb, fun i x hx j u hu => (hb.cell (show b < B' by omega)).trans (hc i x hx j u hu)⟩
theorem Rd.next (h : Rd enc size w w.heap.size v xs) (hb : Below w.heap.size w w') : Rd enc size w' w'.heap.size v xs := (h.below hb (Nat.le_refl _)).more hb.size
/-- a literal: the block is known whole -/
theorem Rd.lit (enc : α → List Value) (size : Nat) {w : World} {g : Nat} {cs : Array Value} {e : TypeId} (xs : List α) (hg : w.heap[g]? = some (.cells cs e (0, 0))) (hcs : cs.toList = xs.flatMap enc) (hs : ∀ x, (enc x).length = size) (n : Nat) (hn : n = xs.length) (hm : n ≤ maxLen) :
    Rd enc size w w.heap.size (.slice (some ⟨g, 0, none⟩) n n) xs := by
  subst hn
  refine ⟨_, _, rfl, Nat.le_refl _, hm, fun _ => ⟨g, 0, rfl, (Array.getElem?_eq_some_iff.1 hg).1, fun i x hx j u hu => ?_⟩⟩
  rw [cell_of_row _ _ _ _ _ _ hg, Nat.zero_add]
  have h1 := flatMap_get hs xs i x hx j u hu
  rw [← hcs] at h1
  simpa using h1
/-- In a round: the address is there, and the cells of element k, in the world w. -/
theorem Rd.at_ {A : Option Addr} {n cap : Nat} (h : Rd enc size w B (.slice A n cap) xs) {k : Nat} {x : α} (hx : xs[k]? = some x) :
    ∃ b off, A = some ⟨b, off, none⟩ ∧ b < B ∧ ∀ i x, xs[i]? = some x → ∀ j u, (enc x)[j]? = some u → w.cell? ⟨b, off + i * size + j, none⟩ = some u := by
  obtain ⟨A', cap', h0, _, _, h3⟩ := h
  cases h0
  exact h3 (fun e => by subst e; simp at hx)
end

/-! ### small lemmas on lists -/
theorem take_snoc {α : Type} {xs : List α} {k : Nat} {x : α} (hx : xs[k]? = some x) : xs.take (k + 1) = xs.take k ++ [x] := by
  rw [List.take_add_one, hx]; rfl
theorem take_same_snoc {α : Type} {xs ys : List α} {k : Nat} {x y : α} (h : xs.take k = ys.take k) (hx : xs[k]? = some x) (hy : ys[k]? = some y) (e : x = y) : xs.take (k + 1) = ys.take (k + 1) := by
  rw [take_snoc hx, take_snoc hy, h, e]
theorem take_len_le {α : Type} {xs : List α} {k : Nat} (h : xs.length ≤ k) : xs.take k = xs := List.take_of_length_le h
theorem ret_bool {a b : Bool} (h : a = b) : Ending.returned (.bool a) = .returned (.bool b) := by rw [h]
theorem ret_int {k : IntKind} {a b : Int} (h : a = b) : Ending.returned (.int k a) = .returned (.int k b) := by rw [h]
theorem get_lt {α : Type} {xs : List α} {k : Nat} (h : k < xs.length) : ∃ x, xs[k]? = some x := ⟨_, List.getElem?_eq_getElem h⟩

/-! ### an owned row as a list -/
/-- The slice value v is the call's own, from block 'base' on, and holds the list xs. -/
def Own {α : Type} (enc : α → List Value) (size : Nat) (e : TypeId) (w : World) (base : Nat) (v : Value) (xs : List α) : Prop :=
  w.ownsRow base e size v xs.length (xs.flatMap enc)

section
variable {α : Type} {enc : α → List Value} {size base e : Nat} {w w' : World} {v : Value} {xs : List α}
theorem Own.nil (enc : α → List Value) (size : Nat) (e : TypeId) (w : World) (base : Nat) : Own enc size e w base (.slice none 0 0) [] := World.ownsRow_nil _ _ _ _
theorem Own.rd (h : Own enc size e w base v xs) (hs : ∀ x, (enc x).length = size) (hl : xs.length ≤ maxLen) : Rd enc size w w.heap.size v xs := by
  have h0 := h
  rcases h.2 with ⟨rfl, hn⟩ | ⟨g, cap, cur, rfl, hb, hg, hnc, hcm, hcs, htake⟩
  · have : xs = [] := List.eq_nil_of_length_eq_zero hn
    subst this
    exact Rd.nil _ _ _ _
  · refine ⟨some ⟨g, 0, none⟩, cap, rfl, hnc, hcm, fun hne => ⟨g, 0, rfl, (Array.getElem?_eq_some_iff.1 hg).1, fun i x hx j u hu => ?_⟩⟩
    have h1 := flatMap_get hs xs i x hx j u hu
    have h2 := World.ownsRow.cells h0 (g := g) rfl (i * size + j) u h1
    rw [Nat.zero_add]
    simpa [Addr.add_lit] using h2
theorem Own.lt (h : Own enc size e w base v xs) : ∀ k, v.ownBlock = some k → base ≤ k ∧ k < w.heap.size := World.ownsRow.lt h
theorem Own.kept (h : Own enc size e w base v xs) {S : Nat → Prop} (hg : Only S w w') (hne : ∀ k, v.ownBlock = some k → ¬ S k) : Own enc size e w' base v xs := by
  refine ⟨h.1, ?_⟩
  rcases h.2 with hn | ⟨g, cap, cur, hv, hb, hgg, rest⟩
  · exact Or.inl hn
  · refine Or.inr ⟨g, cap, cur, hv, hb, ?_, rest⟩
    rw [hg.block g (Array.getElem?_eq_some_iff.1 hgg).1 (hne g (by rw [hv]; rfl))]
    exact hgg
theorem Own.below (h : Own enc size e w base v xs) (hb : Below w.heap.size w w') : Own enc size e w' base v xs :=
  h.kept (Only.of_below hb (fun _ => False)) (fun _ _ h => h)
theorem Own.len_val (h : Own enc size e w base v xs) : ∃ A cap, v = .slice A xs.length cap := by
  rcases h.2 with ⟨rfl, hn⟩ | ⟨g, cap, cur, rfl, _⟩
  · exact ⟨none, 0, by rw [hn]⟩
  · exact ⟨_, cap, rfl⟩
end

/-- What the laws on append ask of a slice type t of elements e. -/
def SliceT (P : Program) (t e : TypeId) (size bytes : Nat) : Prop :=
  P.underlying t = some (.slice e) ∧ ∃ i z, P.info? e = some i ∧ i.zero = some z ∧ i.size = size ∧ i.bytes = bytes ∧ z.cells.size = size ∧ 0 < size ∧ bytes ≤ 1000

theorem SliceT.mk_ {P : Program} {t e : TypeId} {z : Value} {size bytes : Nat} (ht : P.underlying t = some (.slice e)) (h : (P.info? e).map (fun i => (i.zero, i.size, i.bytes)) = some (some z, size, bytes)) (hz : z.cells.size = size) (hs : 0 < size) (hb : bytes ≤ 1000) : SliceT P t e size bytes := by
  obtain ⟨i, h1, h2, h3, h4⟩ := info_parts h
  exact ⟨ht, i, z, h1, h2, h3, h4, hz, hs, hb⟩

/-- 'append(out, ys...)', out an owned row, ys the m elements that lie from 'ad' on. -/
theorem run_append_many {α : Type} {P : Program} (w : World) (t ty : TypeId)
    (enc : α → List Value) {e : TypeId} {size bytes : Nat} (henc : ∀ y, (enc y).length = size) (h1 : ∀ y, ∀ u ∈ enc y, u.oneCell' = true) (T : SliceT P t e size bytes) (base : Nat)
    (v : Value) (xs ys : List α) (hown : Own enc size e w base v xs) (ad : Addr) (c : Nat)
    (hys : ∀ j u, (ys.flatMap enc)[j]? = some u → w.cell? (ad.add j) = some u)
    (hlong : xs.length + ys.length ≤ 1000000) (hbase : base ≤ w.heap.size) :
    ∃ v' w', (Builtin.append_ #[t, t] ty #[v, .slice (some ad) ys.length c]).run P w = .ok v' w' ∧ Own enc size e w' base v' (xs ++ ys) ∧ Below base w w' ∧ Only (fun k => v.ownBlock = some k) w w' ∧ (v'.ownBlock = v.ownBlock ∨ v'.ownBlock = some w.heap.size) := by
  obtain ⟨ht, i, z, hi, hz, hsize, hby, hzs, hsz, hbytes⟩ := T
  have hl : (ys.flatMap enc).length = ys.length * size := by
    clear hys hlong
    induction ys with
    | nil => simp
    | cons y ys ih => simp [List.flatMap_cons, henc, ih, Nat.succ_mul, Nat.add_comm]
  obtain ⟨v', w', hr, ho', hg, _, hw⟩ := run_append_own_at (P := P) w base t ty e i z size bytes ht hi hz hsize hby hzs hsz v xs.length (xs.flatMap enc) hown ad ys.length c (ys.flatMap enc) hl hys (fun u hu => by
    obtain ⟨y, _, hu⟩ := List.mem_flatMap.1 hu
    exact h1 y u hu) (by unfold maxLen; omega) (by
    calc (xs.length + ys.length) * bytes ≤ 1000000 * 1000 := Nat.mul_le_mul hlong hbytes
      _ ≤ 140737488355328 := by omega) hbase
  have hO : Only (fun k => v.ownBlock = some k) w w' := (Only.of_grown hg).mono (fun k _ hk => hk.symm)
  refine ⟨v', w', hr, ?_, hO.below hbase (fun k hk hv => ?_), hO, hw⟩
  · unfold Own
    simpa [List.flatMap_append] using ho'
  · have := (Own.lt hown k hv).1
    omega

section
variable {α : Type} {P : Program} {ops : Array Oper} {rest : List Oper} {o : Oper} {a : Act} {Q : Exit → Act → World → Prop} {K : Act → World → Prop}

theorem wp_append_many (w : World) (s x : Operand) (t : TypeId)
    (ho : o.op = .call { callee := .builtin .append, args := #[s, x], argTypes := #[t, t] })
    (enc : α → List Value) {e : TypeId} {size bytes : Nat} (henc : ∀ y, (enc y).length = size) (h1 : ∀ y, ∀ u ∈ enc y, u.oneCell' = true) (T : SliceT P t e size bytes) (base : Nat)
    (v : Value) (xs ys : List α) (hs : a.eval s = v) (hown : Own enc size e w base v xs) (ad : Addr) (n c : Nat) (hn : n = ys.length)
    (hx : a.eval x = .slice (some ad) n c) (hys : ∀ j u, (ys.flatMap enc)[j]? = some u → w.cell? (ad.add j) = some u)
    (hlong : xs.length + ys.length ≤ 1000000) (hbase : base ≤ w.heap.size)
    (h : ∀ v' w', Own enc size e w' base v' (xs ++ ys) → Below base w w' → Only (fun k => v.ownBlock = some k) w w' → (v'.ownBlock = v.ownBlock ∨ v'.ownBlock = some w.heap.size) → K (a.put o.dst v') w') :
    o.wp P a w K Q := by
  subst hn
  obtain ⟨v', w', hr, h2, h3, h4, h5⟩ := run_append_many (P := P) w t o.type enc henc h1 T base v xs ys hown ad c hys hlong hbase
  unfold Oper.wp execOp
  simp only [ho, resolve, invoke, builtin, Sem.run_bind, Sem.run_pure, Result.andThen_ok, List.map_toArray, List.map_cons, List.map_nil, hs, hx, hr]
  exact h v' w' h2 h3 h4 h5

/-- .. in a plain region. -/
theorem wpList_append_many (w : World) (hgd : o.guard = none) (s x : Operand) (t : TypeId)
    (ho : o.op = .call { callee := .builtin .append, args := #[s, x], argTypes := #[t, t] })
    (enc : α → List Value) {e : TypeId} {size bytes : Nat} (henc : ∀ y, (enc y).length = size) (h1 : ∀ y, ∀ u ∈ enc y, u.oneCell' = true) (T : SliceT P t e size bytes) (base : Nat)
    (v : Value) (xs ys : List α) (hs : a.eval s = v) (hown : Own enc size e w base v xs) (ad : Addr) (n c : Nat) (hn : n = ys.length)
    (hx : a.eval x = .slice (some ad) n c) (hys : ∀ j u, (ys.flatMap enc)[j]? = some u → w.cell? (ad.add j) = some u)
    (hlong : xs.length + ys.length ≤ 1000000) (hbase : base ≤ w.heap.size)
    (h : ∀ v' w', Own enc size e w' base v' (xs ++ ys) → Below base w w' → Only (fun k => v.ownBlock = some k) w w' → (v'.ownBlock = v.ownBlock ∨ v'.ownBlock = some w.heap.size) → wpList P ops Q rest (a.put o.dst v') w') :
    wpList P ops Q (o :: rest) a w :=
  wpList_plain hgd fun _ hK => wp_append_many w s x t ho enc henc h1 T base v xs ys hs hown ad n c hn hx hys hlong hbase fun v' w' h2 h3 h4 h5 => hK _ _ (h v' w' h2 h3 h4 h5)

/-- .. of one element, which lies in a block of its own: 'append(out, y)', in a plain region. -/
theorem wpList_append_one (w : World) (hgd : o.guard = none) (s x : Operand) (t : TypeId)
    (ho : o.op = .call { callee := .builtin .append, args := #[s, x], argTypes := #[t, t] })
    (enc : α → List Value) {e : TypeId} {size bytes : Nat} (henc : ∀ y, (enc y).length = size) (h1 : ∀ y, ∀ u ∈ enc y, u.oneCell' = true) (T : SliceT P t e size bytes) (base : Nat)
    (v : Value) (xs : List α) (hs : a.eval s = v) (hown : Own enc size e w base v xs) (y : α) (bk : Nat) (news : Array Value) (hnews : news.toList = enc y) (hx : a.eval x = .slice (some ⟨bk, 0, none⟩) 1 1)
    (hblk : w.heap[bk]? = some (.cells news e (0, 0))) (hlong : xs.length ≤ 100000) (hbase : base ≤ w.heap.size)
    (h : ∀ v' w', Own enc size e w' base v' (xs ++ [y]) → Below base w w' → Only (fun k => v.ownBlock = some k) w w' → (v'.ownBlock = v.ownBlock ∨ v'.ownBlock = some w.heap.size) → wpList P ops Q rest (a.put o.dst v') w') :
    wpList P ops Q (o :: rest) a w :=
  wpList_append_many w hgd s x t ho enc henc h1 T base v xs [y] hs hown ⟨bk, 0, none⟩ 1 1 rfl hx (fun j u hu => by
    rw [Addr.add_lit, Nat.zero_add, cell_of_row _ _ j news e (0, 0) hblk]
    simp only [List.flatMap_cons, List.flatMap_nil, List.append_nil, ← hnews] at hu
    simpa using hu) (by simp; omega) hbase h

/-- .. in a region that draws its order. -/
theorem step_append_one {E : Prop} (w : World) (hgd : o.guard = none) (s x : Operand) (t : TypeId)
    (ho : o.op = .call { callee := .builtin .append, args := #[s, x], argTypes := #[t, t] })
    (enc : α → List Value) {e : TypeId} {size bytes : Nat} (henc : ∀ y, (enc y).length = size) (h1 : ∀ y, ∀ u ∈ enc y, u.oneCell' = true) (T : SliceT P t e size bytes) (base : Nat)
    (v : Value) (xs : List α) (hs : a.eval s = v) (hown : Own enc size e w base v xs) (y : α) (bk : Nat) (news : Array Value) (hnews : news.toList = enc y) (hx : a.eval x = .slice (some ⟨bk, 0, none⟩) 1 1)
    (hblk : w.heap[bk]? = some (.cells news e (0, 0))) (hlong : xs.length ≤ 100000) (hbase : base ≤ w.heap.size)
    (h : ∀ v' w', Own enc size e w' base v' (xs ++ [y]) → Below base w w' → Only (fun k => v.ownBlock = some k) w w' → (v'.ownBlock = v.ownBlock ∨ v'.ownBlock = some w.heap.size) → K (a.put o.dst v') w') :
    if Region.wanted o (yielded ops a.tmps) = true then Oper.wp P o a w K Q else E := by
  have hw : Region.wanted o (yielded ops a.tmps) = true := by simp [Region.wanted, hgd]
  rw [if_pos hw]
  exact wp_append_many w s x t ho enc henc h1 T base v xs [y] hs hown ⟨bk, 0, none⟩ 1 1 rfl hx (fun j u hu => by
    rw [Addr.add_lit, Nat.zero_add, cell_of_row _ _ j news e (0, 0) hblk]
    simp only [List.flatMap_cons, List.flatMap_nil, List.append_nil, ← hnews] at hu
    simpa using hu) (by simp; omega) hbase h
end

/-! ### regions that draw their order, over the class of the worlds that leave the first B blocks alone -/
/-- A world that is, below B, as w is. (A structure of its own, so that simp does not take it apart.) -/
structure Ext (B : Nat) (w : World) where
  world : World
  below : Below B w world

instance instExtNonempty (B : Nat) (w : World) : Nonempty (Ext B w) := ⟨⟨w, Below.refl B w⟩⟩

theorem Ext.cell {B : Nat} {w : World} {a : Addr} {v : Value} (hc : w.cell? a = some v) (hn : a.block < B) : ∀ u : Ext B w, u.world.cell? a = some v := fun u => (u.below.cell hn).trans hc

/-- A region that draws its order: the lexical walk, each operation quiet over the class, serves every order. -/
theorem wp_region_ext {P : Program} (B : Nat) {id : Nat} {Q : Exit → Act → World → Prop} {a : Act} {w : World} {l : List Oper} (hm : P.follows .mixedOrders = true) (hB : Region.lexB .any l.toArray = true)
    (h : wpQuiet P l.toArray (fun w' => ∃ u : Ext B w, w' = u.world) (fun a' => ∀ w', (∃ u : Ext B w, w' = u.world) → Q .normal a' w') l a) : (Code.region id l.toArray true).wp P Q a w :=
  wp_region_quiet (C := fun w' => ∃ u : Ext B w, w' = u.world) hm hB ⟨⟨w.drewN 1, below_drewN (Below.refl _ _) 1⟩, rfl⟩ (by simpa using h)

/-- A callee's contract met in a world of the class. -/
theorem Calls.ext_of {P : Program} {f : FuncId} {args : Array Value} {B : Nat} {w : World} {u : Ext B w} {v : Value} (hB : B ≤ w.heap.size)
    (h : Calls P f args u.world fun e w' => e = .returned v ∧ Below u.world.heap.size u.world w') : Calls P f args u.world fun e w'' => e = .returned v ∧ ∃ u' : Ext B w, w'' = u'.world :=
  h.mono fun _ w' ⟨he, hb⟩ => ⟨he, ⟨w', u.below.trans (hb.mono (Nat.le_trans hB u.below.size))⟩, rfl⟩

end Go.Proofs.YtgkmmlffnfpjaaaDoor
