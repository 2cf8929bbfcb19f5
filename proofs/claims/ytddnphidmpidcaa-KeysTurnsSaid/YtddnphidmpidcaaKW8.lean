import Derived.Test.YtddnphidmpidcaaKW7
namespace Go.Proofs.Ytddnphidmpidcaa
open Go Go.RowKit

/-- the places below n that were not taken -/
def leftL (t : List Int) (n : Nat) : List Int := ((List.range n).filter (fun (i : Nat) => decide ((i : Int) ∉ t))).map (fun (i : Nat) => (i : Int))
theorem leftL_succ (t : List Int) (n : Nat) : leftL t (n + 1) = leftL t n ++ (if (n : Int) ∈ t then [] else [(n : Int)]) := by
  unfold leftL
  rw [List.range_succ, List.filter_append, List.map_append]
  congr 1
  by_cases h : (n : Int) ∈ t <;> simp [h]
theorem leftL_len (t : List Int) (n : Nat) : (leftL t n).length ≤ n := by
  unfold leftL
  rw [List.length_map]
  exact Nat.le_trans (List.length_filter_le _ _) (by simp)

set_option maxHeartbeats 2000000 in
theorem left_any {B : Nat} {v v' : Value} {xs ys : List Ent} (w : World) (hx : Rd Ent.enc 3 w B v xs) (hy : Rd Ent.enc 3 w B v' ys) (hB : B ≤ w.heap.size) (hlx : xs.length ≤ 100) (hly : ys.length ≤ 100) (hkx : ∀ x ∈ xs, x.key.size ≤ maxLen) (hky : ∀ x ∈ ys, x.key.size ≤ maxLen) :
   Calls Try.prog 16 #[v, v'] w (RetRd encI 1 w (leftL (alignL (xs.map Ent.nrm) (plc ys)) ys.length)) := by
  have hy' := hy
  obtain ⟨A, cap, rfl, h1, h2, -⟩ := hy
  unfold maxLen at h2
  go_enter Try.func16, Try.ntmps16
  go_wp2_with fail
  refine (align_any _ hx hy' hB hlx hly hkx hky).mono ?_
  rintro e w1 ⟨va, rfl, hra, hb1⟩
  clear hx hkx hky
  have hb1s := hb1.size
  have hal : (alignL (xs.map Ent.nrm) (plc ys)).length ≤ 100 := by rw [alignL_len]; simp; exact hlx
  generalize alignL (xs.map Ent.nrm) (plc ys) = T at *
  go_wp2_with fail
  go_loopw [6, 13] (fun out i wr => ∃ (k : Nat), k ≤ ys.length ∧ i = .int .i64 k ∧ Own encI 1 3 wr w1.heap.size out (leftL T k) ∧ Below w.heap.size w wr ∧ Below w1.heap.size w1 wr ∧ w1.heap.size ≤ wr.heap.size) (fun _ i _ => ys.length - (intOf i).toNat)
  case atStart => exact ⟨0, Nat.zero_le _, rfl, Own.nil _ _ _ _ _, hb1, Below.refl _ _, Nat.le_refl _⟩
  case round =>
    obtain ⟨k, hk, rfl, hown, hbel, hbel1, hsz⟩ := hrel
    by_cases hlt : k < ys.length
    · have hll := leftL_len T k
      by_cases hin : (k : Int) ∈ T
      · have hd : decide ((k : Int) ∈ T) = true := decide_eq_true hin
        have HD := Lib.hid hin
        have hls : leftL T (k + 1) = leftL T k := by rw [leftL_succ, if_pos hin, List.append_nil]
        have HL := Lib.hid hls
        clear hin hls
        go_wp2_with fail
        refine (contains_any (k : Int) _ (hra.below hbel1 (Nat.le_refl _)) hsz).mono ?_
        rw [hd]
        rintro e w2 ⟨rfl, hb2⟩
        clear hd
        go_wp2_with fail
        go_roundw
        case rel => exact ⟨k + 1, by omega, by go_num, by rw [HL.out]; exact hown.below hb2, hbel.trans (hb2.mono (by omega)), hbel1.trans (hb2.mono (by omega)), Nat.le_trans hsz hb2.size⟩
        case measure => simp [intOf]; omega
      · have hd : decide ((k : Int) ∈ T) = false := decide_eq_false hin
        have hls : leftL T (k + 1) = leftL T k ++ [(k : Int)] := by rw [leftL_succ, if_neg hin]
        have HL := Lib.hid hls
        clear hin hls
        go_wp2_with fail
        refine (contains_any (k : Int) _ (hra.below hbel1 (Nat.le_refl _)) hsz).mono ?_
        rw [hd]
        rintro e w2 ⟨rfl, hb2⟩
        clear hd
        have hsz2 := hb2.size
        have hown2 := hown.below hb2
        go_wp2_with (at_builtin; refine wpList_append_one _ (by rfl) _ _ _ (by rfl) encI encI_len encI_one T28 w1.heap.size _ _ (by rfl) (hown2.below (by ((repeat (first | exact Below.refl _ _ | assumption | refine Below.alloc ?_ (by first | omega | (simp; done) | (simp; omega)) _ | refine Below.setCell ?_ (by first | omega | (simp; done) | (simp; omega)) _ | refine Below.drew ?_ | refine below_drewN ?_ _)); done))) (k : Int) _ #[.int .i64 k] (by rfl) (by rfl) (heap_alloc_new _ _) (by omega) (by simp; omega) ?_; intro v1 w3 hown3 hb3 hO3 hloc3)
        have hb3' : Below w1.heap.size w2 w3 := Below.trans (by ((repeat (first | exact Below.refl _ _ | assumption | refine Below.alloc ?_ (by first | omega | (simp; done) | (simp; omega)) _ | refine Below.setCell ?_ (by first | omega | (simp; done) | (simp; omega)) _ | refine Below.drew ?_ | refine below_drewN ?_ _)); done)) hb3
        go_roundw
        case rel => exact ⟨k + 1, by omega, by go_num, by rw [HL.out]; exact hown3, hbel.trans ((hb2.mono (by omega)).trans (hb3'.mono (by omega))), hbel1.trans ((hb2.mono (by omega)).trans hb3'), by have := hb3'.size; omega⟩
        case measure => simp [intOf]; omega
    · go_wp2_with fail
      go_ret
      obtain rfl : k = ys.length := by omega
      exact ⟨_, rfl, hown.rd encI_len (by have := leftL_len T ys.length; simp [maxLen]; omega), hbel⟩
end Go.Proofs.Ytddnphidmpidcaa
