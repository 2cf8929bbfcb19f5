import Derived.Test.YtddnphidmpidcaaKW3
import Derived.Test.YtddnphidmpidcaaMaps
import Derived.DeepKeys4
namespace Go.Proofs.Ytddnphidmpidcaa
open Go Go.RowKit
open Go.Maps (Keyed)

theorem laidOut : laidOutB Try.prog = true := by kernel_rfl
theorem row27 : (27 : TypeId) < Try.prog.types.size := of_decide_eq_true (by kernel_rfl)
theorem cells27 : Try.prog.cellsOf 27 = 3 := by kernel_rfl
theorem cells3 : Try.prog.cellsOf 3 = 1 := by kernel_rfl
theorem cells4 : Try.prog.cellsOf 4 = 1 := by kernel_rfl
theorem cells9 : Try.prog.cellsOf 9 = 1 := by kernel_rfl
theorem wide27 : (match Try.prog.underlying 27 with | some (.array _ _) | some (.struct _) => true | _ => false) = true := by rw [Try.underlying27]
theorem L27 : Keyed Try.prog 27 := Keyed.of_law (deep_law_laid laidOut (m := 2) (by omega) row27 (by kernel_rfl) wide27)
theorem keyType27 : Try.prog.keyType 27 = true := by kernel_rfl

/-- the key under which an entry lies in the dictionary -/
def nv (κ : REnt) : Value := .agg #[.int .i64 0, .bool κ.has, .string κ.key]
theorem nv_inj {a b : REnt} (h : nv a = nv b) : a = b := by
  obtain ⟨x, y⟩ := a; obtain ⟨x', y'⟩ := b
  simp [nv] at h
  simp [h]
theorem keyOf_nv {κ : REnt} (hs : κ.key.size ≤ maxLen) : ∃ l, keyOf Try.prog 27 (nv κ) = some l := by
  obtain ⟨h, s⟩ := κ
  have ht : ∃ n, Try.prog.types.size = n + 1 := ⟨Try.prog.types.size - 1, (Nat.succ_pred_eq_of_pos (Nat.lt_of_le_of_lt (Nat.zero_le _) row27)).symm⟩
  obtain ⟨n, hn⟩ := ht
  have hf : (Value.agg #[.int .i64 0, .bool h, .string s]).formed Try.prog 27 = true := by simp [Value.formed, Try.underlying27, cells27]
  simp only [keyOf, Try.underlying27, nv, keyType27, hf, hn, Value.cells]
  simp at hs
  simp [Program.keyLits, Try.underlying27, Try.underlying3, Try.underlying4, Try.underlying9, cells27, cells3, cells4, cells9, List.mapM_cons, hs, Lit.wf, IntKind.min, IntKind.max, IntKind.signed, IntKind.bits]

/-- As 'Rd', in a block from 'lo' on, below 'hi'. -/
def RdB {α : Type} (enc : α → List Value) (size lo hi : Nat) (w : World) (v : Value) (xs : List α) : Prop :=
  ∃ (A : Option Addr) (cap : Nat), v = .slice A xs.length cap ∧ xs.length ≤ cap ∧ cap ≤ maxLen ∧
    (xs ≠ [] → ∃ b off, A = some ⟨b, off, none⟩ ∧ lo ≤ b ∧ b < hi ∧ ∀ i x, xs[i]? = some x → ∀ j u, (enc x)[j]? = some u → w.cell? ⟨b, off + i * size + j, none⟩ = some u)
section
variable {α : Type} {enc : α → List Value} {size lo hi : Nat} {w w' : World} {v : Value} {xs : List α}
theorem RdB.nil (enc : α → List Value) (size lo hi : Nat) (w : World) : RdB enc size lo hi w (.slice none 0 0) [] := ⟨none, 0, rfl, Nat.le_refl _, Nat.zero_le _, fun h => absurd rfl h⟩
theorem RdB.only (h : RdB enc size lo hi w v xs) {S : Nat → Prop} (hO : Only S w w') (hS : ∀ k, S k → lo ≤ k → hi ≤ k) : RdB enc size lo hi w' v xs := by
  obtain ⟨A, cap, h0, h1, h2, h3⟩ := h
  refine ⟨A, cap, h0, h1, h2, fun hne => ?_⟩
  obtain ⟨b, off, hA, hb, hb', hc⟩ := h3 hne
  refine ⟨b, off, hA, hb, hb', fun i x hx j u hu => ?_⟩
  exact hO.cell (hc i x hx j u hu) (fun hs => by have := hS b hs hb; omega)
theorem Own.rdB {base e : Nat} (h : Own enc size e w base v xs) (hs : ∀ x, (enc x).length = size) (hl : xs.length ≤ maxLen) : RdB enc size base w.heap.size w v xs := by
  obtain ⟨A, cap, h0, h1, h2, h3⟩ := h.rd hs hl
  refine ⟨A, cap, h0, h1, h2, fun hne => ?_⟩
  obtain ⟨b, off, hA, hb, hc⟩ := h3 hne
  refine ⟨b, off, hA, ?_, hb, hc⟩
  subst hA
  subst h0
  exact (Own.lt h b rfl).1
/-- the tail: 'l[1:]' -/
theorem RdB.tail {A : Option Addr} {n cap : Nat} {x : α} (h : RdB enc size lo hi w (.slice A n cap) (x :: xs)) : n = xs.length + 1 ∧ n ≤ cap ∧ cap ≤ maxLen ∧ ∃ b off, A = some ⟨b, off, none⟩ ∧ lo ≤ b ∧ b < hi ∧
    (∀ j u, (enc x)[j]? = some u → w.cell? ⟨b, off + j, none⟩ = some u) ∧
    RdB enc size lo hi w (.slice (if cap = 1 then some ⟨b, off, none⟩ else some ⟨b, off + size, none⟩) xs.length (cap - 1)) xs := by
  obtain ⟨A', cap', h0, h1, h2, h3⟩ := h
  cases h0
  obtain ⟨b, off, hA, hb, hb', hc⟩ := h3 (by simp)
  simp only [List.length_cons] at h1
  refine ⟨rfl, h1, h2, b, off, hA, hb, hb', fun j u hu => ?_, ⟨_, _, rfl, by omega, by omega, fun hne => ?_⟩⟩
  · have := hc 0 x rfl j u hu
    simpa using this
  · have hlen : 0 < xs.length := List.length_pos_iff.2 hne
    rw [if_neg (by omega)]
    refine ⟨b, off + size, rfl, hb, hb', fun i y hy j u hu => ?_⟩
    have := hc (i + 1) y (by simpa using hy) j u hu
    rw [show off + size + i * size + j = off + (i + 1) * size + j by rw [Nat.succ_mul]; omega]
    exact this
end

/-- THE DICTIONARY WHILE IT IS FILLED: block D is the struct, block M its map, whose rows are the call's own from 'base' on, no two keys' in one block. -/
structure Filled (w : World) (base D M : Nat) (f : Value → Value) (g : REnt → List Int) (left : Int) : Prop where
  dict : w.heap[D]? = some (.cells #[.map (some M), .int .i64 left] 49 (0, 0))
  map : MapIs Try.prog 27 w M (.slice none 0 0) f
  dlt : D < base
  mlt : M < base
  own : ∀ κ, Own encI 1 3 w base (f (nv κ)) (g κ)
  apart : ∀ κ κ', κ ≠ κ' → ∀ b, (f (nv κ)).ownBlock = some b → (f (nv κ')).ownBlock ≠ some b

/-- THE DICTIONARY: for each key the places that are left; its rows lie from 'lo' on, below 'hi'. -/
structure Dict (w : World) (lo hi D M : Nat) (f : Value → Value) (g : REnt → List Int) (left : Int) : Prop where
  dict : w.heap[D]? = some (.cells #[.map (some M), .int .i64 left] 49 (0, 0))
  map : MapIs Try.prog 27 w M (.slice none 0 0) f
  dlt : D < lo
  mlt : M < lo
  rows : ∀ κ, RdB encI 1 lo hi w (f (nv κ)) (g κ)

theorem Filled.toDict {w : World} {base D M : Nat} {f : Value → Value} {g : REnt → List Int} {left : Int} (h : Filled w base D M f g left) (hl : ∀ κ, (g κ).length ≤ maxLen) : Dict w base w.heap.size D M f g left :=
  ⟨h.dict, h.map, h.dlt, h.mlt, fun κ => (h.own κ).rdB encI_len (hl κ)⟩
theorem Dict.only {w w' : World} {lo hi D M : Nat} {f : Value → Value} {g : REnt → List Int} {left : Int} {S : Nat → Prop} (h : Dict w lo hi D M f g left) (hO : Only S w w') (hS : ∀ k, S k → hi ≤ k) (hlo : lo ≤ hi) : Dict w' lo hi D M f g left :=
  ⟨(hO.block D (Array.getElem?_eq_some_iff.1 h.dict).1 (fun hs => by have := hS _ hs; have := h.dlt; omega)).trans h.dict, h.map.kept hO (fun hs => by have := hS _ hs; have := h.mlt; omega), h.dlt, h.mlt, fun κ => (h.rows κ).only hO (fun k hs _ => hS k hs)⟩
theorem Dict.below {w w' : World} {lo hi D M : Nat} {f : Value → Value} {g : REnt → List Int} {left : Int} (h : Dict w lo hi D M f g left) (hO : Below w.heap.size w w') : Dict w' lo hi D M f g left :=
  ⟨(hO.block D (Array.getElem?_eq_some_iff.1 h.dict).1).trans h.dict, h.map.kept (Only.of_below hO (fun _ => False)) id, h.dlt, h.mlt, fun κ => (h.rows κ).only (Only.of_below hO (fun _ => False)) (fun _ h _ => h.elim)⟩
theorem Filled.below {w w' : World} {lo D M : Nat} {f : Value → Value} {g : REnt → List Int} {left : Int} (h : Filled w lo D M f g left) (hO : Below w.heap.size w w') : Filled w' lo D M f g left :=
  ⟨(hO.block D (Array.getElem?_eq_some_iff.1 h.dict).1).trans h.dict, h.map.kept (Only.of_below hO (fun _ => False)) id, h.dlt, h.mlt, fun κ => (h.own κ).below hO, h.apart⟩
end Go.Proofs.Ytddnphidmpidcaa
