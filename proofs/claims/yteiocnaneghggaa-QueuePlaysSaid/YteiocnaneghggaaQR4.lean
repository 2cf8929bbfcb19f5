import Derived.Test.YteiocnaneghggaaQR3
namespace Go.Proofs.Yteiocnaneghggaa
open Go Go.RowKit

def encV (u : Value) : List Value := [u]
/-- a slice of slices of things -/
def RdLL (w : World) (B : Nat) (v : Value) (xss : List (List Th)) : Prop :=
  ∃ vs : List Value, Rd encV 1 w B v vs ∧ vs.length = xss.length ∧ ∀ (i : Nat) (u : Value) (xs : List Th), vs[i]? = some u → xss[i]? = some xs → Rd Th.enc 2 w B u xs
theorem RdLL.below {w w' : World} {B B' : Nat} {v : Value} {xss : List (List Th)} (h : RdLL w B v xss) (hb : Below B' w w') (hB : B ≤ B') : RdLL w' B v xss := by
  obtain ⟨vs, h1, h2, h3⟩ := h
  exact ⟨vs, h1.below hb hB, h2, fun i u xs hu hx => (h3 i u xs hu hx).below hb hB⟩
theorem RdLL.more {w : World} {B B' : Nat} {v : Value} {xss : List (List Th)} (h : RdLL w B v xss) (hB : B ≤ B') : RdLL w B' v xss := by
  obtain ⟨vs, h1, h2, h3⟩ := h
  exact ⟨vs, h1.more hB, h2, fun i u xs hu hx => (h3 i u xs hu hx).more hB⟩

set_option maxHeartbeats 4000000 in
theorem falls_any {B : Nat} {v : Value} {xs : List Th} {c : Nat} (w : World) (hC : Hd.OrdC w c) (hx : Rd Th.enc 2 w B v xs) (hB : B ≤ w.heap.size) (hl : xs.length ≤ 100000) :
   Calls Try.prog 37 #[v, .pointer (some ⟨c, 0, none⟩)] w fun e w' => e = .returned (.bool (!risesB xs)) ∧ Below w.heap.size w w' := by
  have c0 : w.cell? ⟨c, 0, none⟩ = some (.func (.func 17) #[] #[]) := by rw [cell_of_row _ _ _ _ _ _ hC]; rfl
  go_enter Try.func37, Try.ntmps37
  go_wp2_with fail
  refine (sorted_any w hx hB hl).mono ?_
  rintro e w1 ⟨rfl, hb1⟩
  go_wp2_with fail
  go_ret
  exact ⟨rfl, hb1⟩

set_option maxHeartbeats 4000000 in
theorem index_any {B : Nat} {v : Value} {xss : List (List Th)} {c : Nat} (w : World) (hC : Hd.OrdC w c) (hx : RdLL w B v xss) (hB : B ≤ w.heap.size) (hl : ∀ xs ∈ xss, xs.length ≤ 100000) :
   Calls Try.prog 47 #[v, .func (.func 37) #[] #[.pointer (some ⟨c, 0, none⟩)]] w fun e w' => ((e = .returned (.int .i64 (-1)) ∧ ∀ xs ∈ xss, RisesP xs) ∨ ∃ (i : Nat) (xs : List Th), e = .returned (.int .i64 i) ∧ xs ∈ xss ∧ ¬ RisesP xs) ∧ Below w.heap.size w w' := by
  obtain ⟨vs, hv, hlen, hel⟩ := hx
  have HL := Lib.hid hlen
  clear hlen
  have hv' := hv
  obtain ⟨A, cap, rfl, h1, h2, -⟩ := hv
  unfold maxLen at h2
  go_enter Try.func47, Try.ntmps47
  go_wp2_with fail
  go_loopw [5, 8] (fun _ i wr => ∃ k : Nat, k ≤ vs.length ∧ i = .int .i64 k ∧ Hid (∀ (j : Nat) (xs : List Th), j < k → xss[j]? = some xs → RisesP xs) ∧ Below w.heap.size w wr) (fun _ i _ => vs.length - (intOf i).toNat)
  case atStart => exact ⟨0, Nat.zero_le _, rfl, fun j xs h => absurd h (by omega), Below.refl _ _⟩
  case round =>
    obtain ⟨k, hk, rfl, hno, hbel⟩ := hrel
    by_cases hlt : k < vs.length
    · obtain ⟨U, hU⟩ := get_lt hlt
      obtain ⟨xs, hxs⟩ := get_lt (show k < xss.length by rw [← HL.out]; exact hlt)
      obtain ⟨b, off, rfl, hb, hc⟩ := (hv'.below hbel hB).at_ hU
      have c1 : wr.cell? ⟨b, off + k, none⟩ = some U := by simpa using hc k _ hU 0 _ rfl
      have hrx := (hel k U xs hU hxs).below hbel hB
      have hmem := List.mem_of_getElem? hxs
      have hxl := hl xs hmem
      have HXS := Lib.hid hxs
      have hsz := hbel.size
      have hC' := hC.below hbel
      obtain ⟨AU, capU, rfl, -⟩ := hrx
      have hrx := (hel k _ xs hU hxs).below hbel hB
      clear hc hU hxs
      go_wp2_with fail
      refine (falls_any wr hC' hrx (Nat.le_trans hB hsz) hxl).mono ?_
      rintro e w1 ⟨rfl, hb1⟩
      have hb01 := hbel.trans (hb1.mono hsz)
      cases hr : risesB xs
      · have hbad := Lib.hid (risesB_false.1 hr)
        have hm := Lib.hid hmem
        clear hmem hr
        go_wp2_with fail
        go_ret
        exact ⟨Or.inr ⟨k, xs, rfl, hm.out, hbad.out⟩, hb01⟩
      · have hok := risesB_true.1 hr
        have hn : Hid (∀ (j : Nat) (ys : List Th), j < k + 1 → xss[j]? = some ys → RisesP ys) := by
          intro j ys hj hy
          by_cases e : j = k
          · subst e
            rw [HXS.out] at hy; cases hy; exact hok
          · exact hno.out j ys (by omega) hy
        clear hok hr hmem hno
        go_wp2_with fail
        go_roundw
        case rel => exact ⟨k + 1, by omega, by go_num, hn, hb01⟩
        case measure => simp [intOf]; omega
    · have hfin : Hid (∀ xs ∈ xss, RisesP xs) := by
        intro xs hm
        obtain ⟨j, hj⟩ := List.mem_iff_getElem?.1 hm
        exact hno.out j xs (by have := (List.getElem?_eq_some_iff.1 hj).1; have := HL.out; omega) hj
      clear hno
      go_wp2_with fail
      go_ret
      exact ⟨Or.inl ⟨rfl, hfin.out⟩, hbel⟩

noncomputable def fallsB (xss : List (List Th)) : Bool := @decide (∃ xs ∈ xss, ¬ RisesP xs) (Classical.propDecidable _)
theorem fallsB_true {xss : List (List Th)} : fallsB xss = true ↔ ∃ xs ∈ xss, ¬ RisesP xs := by unfold fallsB; exact @decide_eq_true_iff _ (Classical.propDecidable _)
theorem fallsB_false {xss : List (List Th)} : fallsB xss = false ↔ ∀ xs ∈ xss, RisesP xs := by
  rw [← Bool.not_eq_true, fallsB_true]
  constructor
  · intro h xs hx
    exact Classical.byContradiction (fun hn => h ⟨xs, hx, hn⟩)
  · rintro h ⟨xs, hx, hn⟩
    exact hn (h xs hx)

set_option maxHeartbeats 4000000 in
theorem contains_any {B : Nat} {v : Value} {xss : List (List Th)} {c : Nat} (w : World) (hC : Hd.OrdC w c) (hx : RdLL w B v xss) (hB : B ≤ w.heap.size) (hl : ∀ xs ∈ xss, xs.length ≤ 100000) :
   Calls Try.prog 36 #[v, .func (.func 37) #[] #[.pointer (some ⟨c, 0, none⟩)]] w fun e w' => e = .returned (.bool (fallsB xss)) ∧ Below w.heap.size w w' := by
  go_enter Try.func36, Try.ntmps36
  go_wp2_with fail
  refine (index_any w hC hx hB hl).mono ?_
  rintro e w1 ⟨⟨rfl, hall⟩ | ⟨i, xs, rfl, hm, hn⟩, hb1⟩
  · have hf := Lib.hid (fallsB_false.2 hall)
    clear hall
    go_wp2_with fail
    go_ret
    exact ⟨ret_bool hf.out.symm, hb1⟩
  · have hf := Lib.hid (fallsB_true.2 ⟨xs, hm, hn⟩)
    clear hm hn
    go_wp2_with fail
    go_ret
    exact ⟨ret_bool hf.out.symm, hb1⟩
end Go.Proofs.Yteiocnaneghggaa
