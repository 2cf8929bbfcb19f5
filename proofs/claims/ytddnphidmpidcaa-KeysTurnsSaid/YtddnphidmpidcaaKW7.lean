import Derived.Test.YtddnphidmpidcaaKW6
namespace Go.Proofs.Ytddnphidmpidcaa
open Go Go.RowKit

/-- what the dictionary gives, one by one -/
def alignL : List REnt → (REnt → List Int) → List Int
  | [], _ => []
  | v :: vs, g => match g v with
    | [] => -1 :: alignL vs g
    | p :: ps => p :: alignL vs (updG g v ps)
theorem alignL_len : ∀ (vs : List REnt) (g : REnt → List Int), (alignL vs g).length = vs.length
  | [], _ => rfl
  | v :: vs, g => by
    unfold alignL
    split <;> simp [alignL_len vs]

theorem drop_get {α : Type} {xs : List α} {k : Nat} {x : α} (h : xs[k]? = some x) : xs.drop k = x :: xs.drop (k + 1) := by
  obtain ⟨hk, rfl⟩ := List.getElem?_eq_some_iff.1 h
  exact List.drop_eq_getElem_cons hk
theorem drop_nil_of {α : Type} {xs : List α} {k : Nat} (h : xs.length ≤ k) : xs.drop k = [] := List.drop_eq_nil_of_le h

set_option maxHeartbeats 2000000 in
theorem align_any {B : Nat} {v v' : Value} {xs ys : List Ent} (w : World) (hx : Rd Ent.enc 3 w B v xs) (hy : Rd Ent.enc 3 w B v' ys) (hB : B ≤ w.heap.size) (hlx : xs.length ≤ 100) (hly : ys.length ≤ 100) (hkx : ∀ x ∈ xs, x.key.size ≤ maxLen) (hky : ∀ x ∈ ys, x.key.size ≤ maxLen) :
   Calls Try.prog 10 #[v, v'] w (RetRd encI 1 w (alignL (xs.map Ent.nrm) (plc ys))) := by
  have hx' := hx
  obtain ⟨A, cap, rfl, h1, h2, -⟩ := hx
  unfold maxLen at h2
  go_enter Try.func10, Try.ntmps10
  go_wp2_with fail
  refine (new_any _ hy hB hly hky).mono ?_
  rintro e w1 ⟨D, M, f, lo, rfl, hd, hD, hM, hlo, hDM, hb1⟩
  have hdE : DictE w1 lo w1.heap.size D M (plc ys) ys.length := ⟨f, hd⟩
  have hDlt := hd.dlt
  have hMlt := hd.mlt
  clear hd hy hky
  have hb1s := hb1.size
  go_wp2_with fail
  go_loopw [6, 16] (fun out i wr => ∃ (k : Nat) (g : REnt → List Int) (left : Int) (os : List Int), k ≤ xs.length ∧ i = .int .i64 k ∧ DictE wr lo w1.heap.size D M g left ∧ -(k : Int) ≤ left ∧ left ≤ 100 ∧ Own encI 1 3 wr w1.heap.size out os ∧ os.length = k ∧ Hid (alignL (xs.map Ent.nrm) (plc ys) = os ++ alignL ((xs.drop k).map Ent.nrm) g) ∧ Below w.heap.size w wr ∧ w1.heap.size ≤ wr.heap.size) (fun _ i _ => xs.length - (intOf i).toNat)
  case atStart => exact ⟨0, plc ys, ys.length, [], Nat.zero_le _, rfl, hdE, by omega, by omega, Own.nil _ _ _ _ _, rfl, rfl, hb1, Nat.le_refl _⟩
  case round =>
    obtain ⟨k, g, left, os, hk, rfl, hd, hl0, hl1, hown, hos, hal, hbel, hsz⟩ := hrel
    have HOS := Lib.hid hos
    clear hos
    by_cases hlt : k < xs.length
    · obtain ⟨X, hxk⟩ := get_lt hlt
      obtain ⟨b, off, rfl, hb, hc⟩ := (hx'.below hbel hB).at_ hxk
      have HX := Lib.hid hxk
      have hkey := hkx X (List.mem_of_getElem? hxk)
      have c0 : wr.cell? ⟨b, off + k * 3, none⟩ = some (.int .i64 X.at_) := hc k _ HX.out 0 _ rfl
      have c1 : wr.cell? ⟨b, off + k * 3 + 1, none⟩ = some (.bool X.has) := hc k _ HX.out 1 _ rfl
      have c2 : wr.cell? ⟨b, off + k * 3 + 2, none⟩ = some (.string X.key) := hc k _ HX.out 2 _ rfl
      clear hc hxk hx' hkx
      cases hg : g X.nrm with
      | nil =>
        have hal2 : alignL (xs.map Ent.nrm) (plc ys) = (os ++ [-1]) ++ alignL ((xs.drop (k + 1)).map Ent.nrm) g := by
          rw [hal.out, drop_get HX.out, List.map_cons, alignL, hg]; simp
        have HAL := Lib.hid hal2
        have HG := Lib.hid hg
        clear hal hal2 hg
        go_wp2_with fail
        refine (take_no X _ (hd.below (by ((repeat (first | exact Below.refl _ _ | assumption | refine Below.alloc ?_ (by first | omega | (simp; done) | (simp; omega)) _ | refine Below.setCell ?_ (by first | omega | (simp; done) | (simp; omega)) _ | refine Below.drew ?_ | refine below_drewN ?_ _)); done))) hkey (by simp; omega) HG.out).mono ?_
        rintro e w2 ⟨rfl, hd2, hO2⟩
        have hown2 : Own encI 1 3 w2 w1.heap.size _ os := (hown.below (by ((repeat (first | exact Below.refl _ _ | assumption | refine Below.alloc ?_ (by first | omega | (simp; done) | (simp; omega)) _ | refine Below.setCell ?_ (by first | omega | (simp; done) | (simp; omega)) _ | refine Below.drew ?_ | refine below_drewN ?_ _)); done))).kept hO2 (fun k hk hh => by have := (Own.lt hown k hk).1; omega)
        have hB2 : Below w.heap.size w w2 := Below.trans (by ((repeat (first | exact Below.refl _ _ | assumption | refine Below.alloc ?_ (by first | omega | (simp; done) | (simp; omega)) _ | refine Below.setCell ?_ (by first | omega | (simp; done) | (simp; omega)) _ | refine Below.drew ?_ | refine below_drewN ?_ _)); done)) (hO2.below (by simp; omega) (fun k hk hh => by omega))
        have hsz2 := hO2.size
        simp at hsz2
        go_wp2_with (at_builtin; refine wpList_append_one _ (by rfl) _ _ _ (by rfl) encI encI_len encI_one T28 w1.heap.size _ _ (by rfl) (hown2.below (by ((repeat (first | exact Below.refl _ _ | assumption | refine Below.alloc ?_ (by first | omega | (simp; done) | (simp; omega)) _ | refine Below.setCell ?_ (by first | omega | (simp; done) | (simp; omega)) _ | refine Below.drew ?_ | refine below_drewN ?_ _)); done))) (-1) _ #[.int .i64 (-1)] (by rfl) (by rfl) (heap_alloc_new _ _) (by have := HOS.out; omega) (by simp; omega) ?_; intro v1 w3 hown3 hb3 hO3 hloc3)
        go_roundw
        case rel => exact ⟨k + 1, g, left, os ++ [-1], by omega, by go_num, (hd2.below (by ((repeat (first | exact Below.refl _ _ | assumption | refine Below.alloc ?_ (by first | omega | (simp; done) | (simp; omega)) _ | refine Below.setCell ?_ (by first | omega | (simp; done) | (simp; omega)) _ | refine Below.drew ?_ | refine below_drewN ?_ _)); done))).only hO3 (fun j hj => (Own.lt hown2 j hj).1) hlo, by omega, hl1, hown3, by simp [HOS.out], HAL.out, Below.trans (by ((repeat (first | exact Below.refl _ _ | assumption | refine Below.alloc ?_ (by first | omega | (simp; done) | (simp; omega)) _ | refine Below.setCell ?_ (by first | omega | (simp; done) | (simp; omega)) _ | refine Below.drew ?_ | refine below_drewN ?_ _)); done)) (hb3.mono (by omega)), by have := hO3.size; simp at this; omega⟩
        case measure => simp [intOf]; omega
      | cons p ps =>
        have hal2 : alignL (xs.map Ent.nrm) (plc ys) = (os ++ [p]) ++ alignL ((xs.drop (k + 1)).map Ent.nrm) (updG g X.nrm ps) := by
          rw [hal.out, drop_get HX.out, List.map_cons, alignL, hg]; simp
        have HAL := Lib.hid hal2
        have HG := Lib.hid hg
        clear hal hal2 hg
        go_wp2_with fail
        refine (take_yes X _ (hd.below (by ((repeat (first | exact Below.refl _ _ | assumption | refine Below.alloc ?_ (by first | omega | (simp; done) | (simp; omega)) _ | refine Below.setCell ?_ (by first | omega | (simp; done) | (simp; omega)) _ | refine Below.drew ?_ | refine below_drewN ?_ _)); done))) hkey (by simp; omega) HG.out (by omega) (by omega)).mono ?_
        rintro e w2 ⟨rfl, hd2, hO2⟩
        have hown2 : Own encI 1 3 w2 w1.heap.size _ os := (hown.below (by ((repeat (first | exact Below.refl _ _ | assumption | refine Below.alloc ?_ (by first | omega | (simp; done) | (simp; omega)) _ | refine Below.setCell ?_ (by first | omega | (simp; done) | (simp; omega)) _ | refine Below.drew ?_ | refine below_drewN ?_ _)); done))).kept hO2 (fun k hk hh => by have := (Own.lt hown k hk).1; omega)
        have hB2 : Below w.heap.size w w2 := Below.trans (by ((repeat (first | exact Below.refl _ _ | assumption | refine Below.alloc ?_ (by first | omega | (simp; done) | (simp; omega)) _ | refine Below.setCell ?_ (by first | omega | (simp; done) | (simp; omega)) _ | refine Below.drew ?_ | refine below_drewN ?_ _)); done)) (hO2.below (by simp; omega) (fun k hk hh => by omega))
        have hsz2 := hO2.size
        simp at hsz2
        go_wp2_with (at_builtin; refine wpList_append_one _ (by rfl) _ _ _ (by rfl) encI encI_len encI_one T28 w1.heap.size _ _ (by rfl) (hown2.below (by ((repeat (first | exact Below.refl _ _ | assumption | refine Below.alloc ?_ (by first | omega | (simp; done) | (simp; omega)) _ | refine Below.setCell ?_ (by first | omega | (simp; done) | (simp; omega)) _ | refine Below.drew ?_ | refine below_drewN ?_ _)); done))) p _ #[.int .i64 p] (by rfl) (by rfl) (heap_alloc_new _ _) (by have := HOS.out; omega) (by simp; omega) ?_; intro v1 w3 hown3 hb3 hO3 hloc3)
        go_roundw
        case rel => exact ⟨k + 1, updG g X.nrm ps, left - 1, os ++ [p], by omega, by go_num, (hd2.below (by ((repeat (first | exact Below.refl _ _ | assumption | refine Below.alloc ?_ (by first | omega | (simp; done) | (simp; omega)) _ | refine Below.setCell ?_ (by first | omega | (simp; done) | (simp; omega)) _ | refine Below.drew ?_ | refine below_drewN ?_ _)); done))).only hO3 (fun j hj => (Own.lt hown2 j hj).1) hlo, by omega, by omega, hown3, by simp [HOS.out], HAL.out, Below.trans (by ((repeat (first | exact Below.refl _ _ | assumption | refine Below.alloc ?_ (by first | omega | (simp; done) | (simp; omega)) _ | refine Below.setCell ?_ (by first | omega | (simp; done) | (simp; omega)) _ | refine Below.drew ?_ | refine below_drewN ?_ _)); done)) (hb3.mono (by omega)), by have := hO3.size; simp at this; omega⟩
        case measure => simp [intOf]; omega
    · go_wp2_with fail
      go_ret
      have h0 := hal.out
      rw [drop_nil_of (by omega)] at h0
      simp [alignL] at h0
      rw [h0]
      exact ⟨_, rfl, hown.rd encI_len (by have := HOS.out; simp [maxLen]; omega), hbel⟩
end Go.Proofs.Ytddnphidmpidcaa
