import Derived.Test.YtgkmmlffnfpjaaaDoorUW4
namespace Go.Proofs.YtgkmmlffnfpjaaaDoor
open Go Go.RowKit

/-- a character's bytes, as numbers -/
def bytesN (n : Nat) : List Nat :=
  if n < 128 then [n] else if n < 2048 then [192 + n / 64, 128 + n % 64]
  else if n < 65536 then [224 + n / 4096, 128 + n / 64 % 64, 128 + n % 64]
  else [240 + n / 262144, 128 + n / 4096 % 64, 128 + n / 64 % 64, 128 + n % 64]
def bytesOf (n : Nat) : List UInt8 := (bytesN n).map UInt8.ofNat
theorem isB_nat (n : Nat) : isB (n : Int) = true ↔ n = 9 ∨ n = 10 ∨ n = 13 ∨ (32 ≤ n ∧ n ≤ 55295) ∨ (57344 ≤ n ∧ n ≤ 65533) ∨ (65536 ≤ n ∧ n ≤ 1114111) := by
  rw [isB_iff]; omega
theorem bytesN_lt {n : Nat} (h : n ≤ 1114111) : ∀ x ∈ bytesN n, x < 256 := by
  unfold bytesN
  split
  · simp; omega
  split
  · simp; omega
  split
  · simp; omega
  · simp; omega
theorem toNat_bytesOf {n : Nat} (h : n ≤ 1114111) : (bytesOf n).map UInt8.toNat = bytesN n := by
  unfold bytesOf
  rw [List.map_map]
  conv => rhs; rw [← List.map_id (bytesN n)]
  refine List.map_congr_left (fun x hx => ?_)
  have := bytesN_lt h x hx
  simp only [Function.comp, id]
  rw [UInt8.toNat_ofNat']
  omega
theorem map_toNat_inj {a b : List UInt8} (h : a.map UInt8.toNat = b.map UInt8.toNat) : a = b := by
  induction a generalizing b with
  | nil => cases b with | nil => rfl | cons y ys => cases h
  | cons x xs ih =>
    cases b with
    | nil => cases h
    | cons y ys =>
      simp only [List.map_cons, List.cons.injEq] at h
      rw [ih h.2, UInt8.toNat_inj.1 h.1]
theorem bytesN_len (n : Nat) : 1 ≤ (bytesN n).length ∧ (bytesN n).length ≤ 4 := by
  unfold bytesN
  split
  · simp
  split
  · simp
  split
  · simp
  · simp
theorem bytesOf_len (n : Nat) : (bytesOf n).length = (bytesN n).length := by simp [bytesOf]

set_option maxRecDepth 100000 in
set_option maxHeartbeats 4000000 in
/-- decoding gives bytes that encoding gives -/
theorem decode_back {n b0 b1 b2 b3 r s : Nat} (hn : 1 ≤ n) (h0 : b0 < 256) (h1 : b1 < 256) (h2 : b2 < 256) (h3 : b3 < 256) (h : Lib.decodeN n b0 b1 b2 b3 = (r, s)) (hw : ¬ (r = 65533 ∧ s = 1)) :
    s ≤ n ∧ s ≤ 4 ∧ bytesN r = [b0, b1, b2, b3].take s := by
  unfold Lib.decodeN at h
  split at h
  · simp only [Prod.mk.injEq] at h
    obtain ⟨rfl, rfl⟩ := h
    refine ⟨hn, by omega, ?_⟩
    unfold bytesN
    rw [if_pos (by omega)]
    rfl
  split at h
  · split at h
    · simp only [Prod.mk.injEq] at h
      obtain ⟨rfl, rfl⟩ := h
      refine ⟨by omega, by omega, ?_⟩
      unfold bytesN
      rw [if_neg (by omega), if_pos (by omega)]
      simp
      omega
    · simp only [Prod.mk.injEq] at h
      omega
  split at h
  · split at h
    · simp only [Prod.mk.injEq] at h
      obtain ⟨rfl, rfl⟩ := h
      refine ⟨by omega, by omega, ?_⟩
      unfold bytesN
      rw [if_neg (by omega), if_neg (by omega), if_pos (by omega)]
      simp
      omega
    · simp only [Prod.mk.injEq] at h
      omega
  split at h
  · split at h
    · simp only [Prod.mk.injEq] at h
      obtain ⟨rfl, rfl⟩ := h
      refine ⟨by omega, by omega, ?_⟩
      unfold bytesN
      rw [if_neg (by omega), if_neg (by omega), if_neg (by omega)]
      simp
      omega
    · simp only [Prod.mk.injEq] at h
      omega
  · simp only [Prod.mk.injEq] at h
    omega

theorem byt_take (bs : List UInt8) (s : Nat) (hs : s ≤ 4) (hl : s ≤ bs.length) : (bs.take s).map UInt8.toNat = [byt bs 0, byt bs 1, byt bs 2, byt bs 3].take s := by
  refine List.ext_getElem? (fun i => ?_)
  rw [List.getElem?_map, List.getElem?_take, List.getElem?_take]
  by_cases h : i < s
  · rw [if_pos h, if_pos h]
    obtain ⟨x, hx⟩ := get_lt (show i < bs.length by omega)
    have hb := byt_get hx
    rw [hx]
    match i, h with
    | 0, _ => simp [hb]
    | 1, _ => simp [hb]
    | 2, _ => simp [hb]
    | 3, _ => simp [hb]
    | i + 4, h => omega
  · rw [if_neg h, if_neg h]; rfl
/-- where a character stands, its bytes stand -/
theorem chr_bytes {bs : List UInt8} {r s : Nat} (hne : bs ≠ []) (h : chr bs = some (r, s)) : isB (r : Int) = true ∧ s = (bytesOf r).length ∧ bs = bytesOf r ++ bs.drop s := by
  obtain ⟨h1, h2, h3⟩ := chr_some h
  have hl : 0 < bs.length := List.length_pos_iff.2 hne
  unfold decL at h1
  rw [if_neg (by omega)] at h1
  obtain ⟨h4, hs, h5⟩ := decode_back hl (byt_lt _ _) (byt_lt _ _) (byt_lt _ _) (byt_lt _ _) h1 h2
  have hr : r ≤ 1114111 := by rw [isB_nat] at h3; omega
  have h7 : bs.take s = bytesOf r := by
    apply map_toNat_inj
    rw [toNat_bytesOf hr, h5, byt_take bs s hs h4]
  refine ⟨h3, ?_, ?_⟩
  · rw [← h7, List.length_take, Nat.min_eq_left h4]
  · rw [← h7, List.take_append_drop]

theorem byt_append (xs ys : List UInt8) (i : Nat) (h : i < xs.length) : byt (xs ++ ys) i = byt xs i := by
  unfold byt
  rw [List.getD_eq_getElem?_getD, List.getD_eq_getElem?_getD, List.getElem?_append_left h]
theorem byt_bytesOf {n : Nat} (h : n ≤ 1114111) (i : Nat) : byt (bytesOf n) i = (bytesN n).getD i 0 := by
  rw [← toNat_bytesOf h]
  unfold byt
  rw [List.getD_eq_getElem?_getD, List.getD_eq_getElem?_getD, List.getElem?_map]
  cases (bytesOf n)[i]? <;> rfl
set_option maxRecDepth 100000 in
set_option maxHeartbeats 4000000 in
/-- what is encoded is decoded, whatever is behind it -/
theorem chr_bytesOf {r : Nat} (h : isB (r : Int) = true) (rest : List UInt8) : chr (bytesOf r ++ rest) = some (r, (bytesOf r).length) := by
  have h' := (isB_nat r).1 h
  have hr : r ≤ 1114111 := by omega
  have hl := bytesN_len r
  have hL := bytesOf_len r
  suffices hd : decL (bytesOf r ++ rest) = (r, (bytesOf r).length) by
    unfold chr
    rw [hd, if_neg]
    rintro (⟨h1, h2⟩ | h1)
    · simp only at h1 h2
      rw [hL, h1] at h2
      simp [bytesN] at h2
    · rw [h] at h1; cases h1
  have hlen : (bytesOf r ++ rest).length = (bytesOf r).length + rest.length := by simp
  have hb : ∀ i, i < (bytesN r).length → byt (bytesOf r ++ rest) i = (bytesN r).getD i 0 := fun i hi => by rw [byt_append _ _ _ (by omega), byt_bytesOf hr]
  unfold decL
  rw [if_neg (by omega), hlen, hL]
  have hx : ∀ i, byt (bytesOf r ++ rest) i < 256 := fun i => byt_lt _ _
  have x1 := hx 1
  have x2 := hx 2
  have x3 := hx 3
  clear hlen hL hx
  generalize rest.length = m
  generalize byt (bytesOf r ++ rest) = f at hb x1 x2 x3 ⊢
  clear h
  unfold bytesN at hb hl ⊢
  split
  · rw [if_pos (by omega)] at hb
    have e0 := hb 0 (by simp)
    simp at e0
    rw [e0]
    unfold Lib.decodeN
    rw [if_pos (by omega)]
    rfl
  split
  · rw [if_neg (by omega), if_pos (by omega)] at hb
    have e0 := hb 0 (by simp)
    have e1 := hb 1 (by simp)
    simp at e0 e1
    rw [e0, e1]
    unfold Lib.decodeN
    rw [if_neg (by omega), if_pos (by simp; omega), if_pos (by omega)]
    simp
    omega
  split
  · rw [if_neg (by omega), if_neg (by omega), if_pos (by omega)] at hb
    have e0 := hb 0 (by simp)
    have e1 := hb 1 (by simp)
    have e2 := hb 2 (by simp)
    simp at e0 e1 e2
    rw [e0, e1, e2]
    unfold Lib.decodeN
    rw [if_neg (by omega), if_neg (by omega), if_pos (by simp; omega), if_pos (by omega)]
    simp
    omega
  · rw [if_neg (by omega), if_neg (by omega), if_neg (by omega)] at hb
    have e0 := hb 0 (by simp)
    have e1 := hb 1 (by simp)
    have e2 := hb 2 (by simp)
    have e3 := hb 3 (by simp)
    simp at e0 e1 e2 e3
    rw [e0, e1, e2, e3]
    unfold Lib.decodeN
    rw [if_neg (by omega), if_neg (by omega), if_neg (by omega), if_pos (by simp; omega), if_pos (by omega)]
    simp
    omega

/-! ### rows of characters -/
def encB (cs : List Nat) : List UInt8 := cs.flatMap bytesOf
def AllIs (cs : List Nat) : Prop := ∀ r ∈ cs, isB (r : Int) = true
/-- no character stands at the beginning -/
def Stuck (bs : List UInt8) : Prop := bs = [] ∨ chr bs = none
theorem encB_snoc (cs : List Nat) (r : Nat) : encB (cs ++ [r]) = encB cs ++ bytesOf r := by simp [encB]
theorem encB_cons (cs : List Nat) (r : Nat) : encB (r :: cs) = bytesOf r ++ encB cs := by simp [encB]
theorem encB_append (cs ds : List Nat) : encB (cs ++ ds) = encB cs ++ encB ds := by simp [encB]
theorem bytesOf_ne (r : Nat) : bytesOf r ≠ [] := by
  intro h
  have := bytesN_len r
  rw [← bytesOf_len, h] at this
  simp at this
theorem not_stuck {r : Nat} (h : isB (r : Int) = true) (rest : List UInt8) : ¬ Stuck (bytesOf r ++ rest) := by
  rintro (h1 | h1)
  · exact bytesOf_ne r (List.append_eq_nil_iff.1 h1).1
  · rw [chr_bytesOf h] at h1; cases h1
/-- a row of characters is told of bytes in one way alone -/
theorem rows_one : ∀ (cs ds : List Nat) (p q : List UInt8), AllIs cs → AllIs ds → Stuck p → Stuck q → encB cs ++ p = encB ds ++ q → cs = ds ∧ p = q
  | [], [], p, q, _, _, _, _, h => ⟨rfl, by simpa [encB] using h⟩
  | [], d :: ds, p, q, _, hd, hp, _, h => by
    rw [encB_cons, List.append_assoc] at h
    simp only [encB, List.flatMap_nil, List.nil_append] at h
    rw [h] at hp
    exact absurd hp (not_stuck (hd d (List.mem_cons_self ..)) _)
  | c :: cs, [], p, q, hc, _, _, hq, h => by
    rw [encB_cons, List.append_assoc] at h
    simp only [encB, List.flatMap_nil, List.nil_append] at h
    rw [← h] at hq
    exact absurd hq (not_stuck (hc c (List.mem_cons_self ..)) _)
  | c :: cs, d :: ds, p, q, hc, hd, hp, hq, h => by
    rw [encB_cons, encB_cons, List.append_assoc, List.append_assoc] at h
    have h1 := chr_bytesOf (hc c (List.mem_cons_self ..)) (encB cs ++ p)
    rw [h, chr_bytesOf (hd d (List.mem_cons_self ..))] at h1
    simp only [Option.some.injEq, Prod.mk.injEq] at h1
    obtain ⟨rfl, -⟩ := h1
    obtain ⟨rfl, rfl⟩ := rows_one cs ds p q (fun r hr => hc r (List.mem_cons_of_mem _ hr)) (fun r hr => hd r (List.mem_cons_of_mem _ hr)) hp hq (List.append_cancel_left h)
    exact ⟨rfl, rfl⟩
end Go.Proofs.YtgkmmlffnfpjaaaDoor
