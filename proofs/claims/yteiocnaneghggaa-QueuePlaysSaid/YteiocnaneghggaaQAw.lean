import Derived.Test.YteiocnaneghggaaQMw
namespace Go.Proofs.Yteiocnaneghggaa
open Go Go.RowKit

theorem QI.tight {w : World} {q : Nat} {kk : Bool} {S : List It} {no : Nat} {F : Nat → Prop} (h : QI w q kk S no F) : QI w q kk S no (fun k => F k ∧ k < w.heap.size) := by
  obtain ⟨hh, v, L, h1, h2, h3, h4, h5, h6, fq, fh, fv⟩ := h.ex
  exact ⟨hh, v, L, h1, h2, h3, h4, h5, h6, ⟨fq, (Array.getElem?_eq_some_iff.1 h1).1⟩, ⟨fh, h2.lt⟩, fun k hk => ⟨fv k hk, (h2.2.1.lt k hk).2⟩⟩

theorem take_some {w : World} {q : Nat} {kk : Bool} {S : List It} {no : Nat} {F : Nat → Prop} (Q : QI w q kk S no F) (hl : S.length ≤ 900) (hS : S ≠ []) : Calls Try.prog 9 #[.pointer (some ⟨q, 0, none⟩)] w fun e w' => ∃ m S', Least kk S m ∧ (S' ++ [m]).Perm S ∧ e = .returned (.tuple #[.agg #[.int .i64 m.x.rank, .int .i64 m.x.id], .int .i64 0]) ∧ QI w' q kk S' no F ∧ Only F w w' := by
  refine (take_any (to_O kk) Q hl).mono ?_
  rintro e w' (⟨m, S', h⟩ | ⟨h, _⟩)
  · exact ⟨m, S', h⟩
  · exact absurd h hS

theorem least_eq {S : List It} {m a : It} (h : Least false S m) (ha : a ∈ S) (hu : ∀ y ∈ S, y ≠ a → ahead cmpT a y = true) : m = a := by
  apply Classical.byContradiction
  intro hne
  have h1 : ahead cmpT a m = false := h.2 a ha
  rw [hu m h.1 hne] at h1
  cases h1
def s3 : List It := [⟨⟨3, 0⟩, 0⟩, ⟨⟨1, 0⟩, 1⟩, ⟨⟨2, 0⟩, 2⟩]
theorem first3 {m : It} (h : Least false s3 m) : m = ⟨⟨1, 0⟩, 1⟩ := least_eq h (by decide) (by decide)
theorem rest3 {S' : List It} (h : (S' ++ [(⟨⟨1, 0⟩, 1⟩ : It)]).Perm s3) : S'.Perm ([⟨⟨3, 0⟩, 0⟩, ⟨⟨2, 0⟩, 2⟩] : List It) := by
  have h1 : ((⟨⟨1, 0⟩, 1⟩ : It) :: S').Perm ((⟨⟨1, 0⟩, 1⟩ : It) :: ([⟨⟨3, 0⟩, 0⟩, ⟨⟨2, 0⟩, 2⟩] : List It)) :=
    ((List.perm_append_singleton _ _).symm.trans h).trans (List.Perm.swap ..)
  exact (List.perm_cons _).1 h1
theorem second3 {m : It} (h : Least false ([⟨⟨3, 0⟩, 0⟩, ⟨⟨2, 0⟩, 2⟩] : List It) m) : m = ⟨⟨2, 0⟩, 2⟩ := least_eq h (by decide) (by decide)

def x2 : List (List Th) := [[⟨1, 0⟩, ⟨3, 1⟩], [⟨2, 2⟩]]
theorem x2_made : [madeL [1, 3] ((0 : Nat) : Int), madeL [2] ((2 : Nat) : Int)] = x2 := by decide
theorem x2_rises : fallsB x2 = false := by
  rw [fallsB_false]
  intro xs hx
  simp only [x2, List.mem_cons, List.not_mem_nil, or_false] at hx
  rcases hx with rfl | rfl
  · intro i x y h1 h2
    match i with
    | 0 => simp at h1 h2; subst h1 h2; decide
    | i + 1 => simp at h2
  · intro i x y h1 h2
    simp at h2
theorem x2_lined : Lined x2.length (nth x2) := by
  refine ⟨fun i hi => ?_, fun i j hij hj x hx y hy => ?_⟩
  · have : i = 0 ∨ i = 1 := by simp only [x2, List.length_cons, List.length_nil] at hi; omega
    rcases this with rfl | rfl
    · show ([⟨1, 0⟩, ⟨3, 1⟩] : List Th).Pairwise KL
      simp [KL]
    · show ([⟨2, 2⟩] : List Th).Pairwise KL
      simp
  · have : i = 0 ∧ j = 1 := by simp only [x2, List.length_cons, List.length_nil] at hj; omega
    obtain ⟨rfl, rfl⟩ := this
    have hx' : x ∈ ([⟨1, 0⟩, ⟨3, 1⟩] : List Th) := hx
    have hy' : y ∈ ([⟨2, 2⟩] : List Th) := hy
    simp at hx' hy'
    rcases hx' with rfl | rfl <;> subst hy' <;> decide
theorem x2_out {out : List Th} (hp : out.Perm x2.flatten) (hs : out.Pairwise KL) : out = [⟨1, 0⟩, ⟨2, 2⟩, ⟨3, 1⟩] := by
  refine kl_unique _ _ hs (by simp [KL]) (hp.trans ?_)
  show ([⟨1, 0⟩, ⟨3, 1⟩, ⟨2, 2⟩] : List Th).Perm [⟨1, 0⟩, ⟨2, 2⟩, ⟨3, 1⟩]
  exact List.Perm.cons _ (List.Perm.swap ..)

set_option maxHeartbeats 8000000 in
set_option maxRecDepth 100000 in
theorem awake_any (w : World) : Calls Try.prog 15 #[] w fun e w' => e = .returned (.bool true) ∧ Below w.heap.size w w' := by
  go_enter Try.func15, Try.ntmps15
  go_wp2_with fail
  have hnew := new_any false w
  unfold ovT at hnew
  simp only [Bool.false_eq_true, if_false] at hnew
  refine hnew.mono ?_
  rintro e w1 ⟨q, hq, rfl, Q1, hb1⟩
  have hz1 := hb1.size
  go_wp2_with fail
  have hp1 := put_any (to_O false) Q1 ⟨3, 0⟩ (by simp) (by omega)
  unfold Th.val at hp1
  refine hp1.mono ?_
  rintro e w2 ⟨rfl, Q2, hO2⟩
  have hz2 := hO2.size
  go_wp2_with fail
  have hp2 := put_any (to_O false) Q2 ⟨1, 0⟩ (by simp) (by omega)
  unfold Th.val at hp2
  refine hp2.mono ?_
  rintro e w3 ⟨rfl, Q3, hO3⟩
  have hz3 := hO3.size
  go_wp2_with fail
  have hp3 := put_any (to_O false) Q3 ⟨2, 0⟩ (by simp) (by omega)
  unfold Th.val at hp3
  refine hp3.mono ?_
  rintro e w4 ⟨rfl, Q4, hO4⟩
  have hz4 := hO4.size
  have hb4 : Below w.heap.size w w4 := ((hb1.trans (hO2.below (by omega) (fun k hk h => by omega))).trans (hO3.below (by omega) (fun k hk h => by omega))).trans (hO4.below (by omega) (fun k hk h => by omega))
  have Q4' : QI w4 q false s3 3 _ := Q4
  clear Q1 Q2 Q3 Q4 hp1 hp2 hp3 hnew hO2 hO3 hO4 hb1
  go_wp2_with fail
  refine (take_some Q4' (by decide) (by decide)).mono ?_
  rintro e w5 ⟨m, S5, hl5, hpm5, rfl, Q5, hO5⟩
  obtain rfl := first3 hl5
  have Q5' := (Q5.perm (rest3 hpm5)).tight
  have hz5 := hO5.size
  have hb5 : Below w.heap.size w w5 := hb4.trans (hO5.below (by omega) (fun k hk h => by omega))
  clear Q5 Q4' hO5 hpm5 hl5
  go_wp2_with fail
  have hb56 : Below w5.heap.size w5 (w5.alloc (.cells #[.int .i64 1, .int .i64 0] 24)) := by ((repeat (first | exact Below.refl _ _ | assumption | refine Below.alloc ?_ (by first | omega | (simp; done) | (simp; omega)) _ | refine Below.setCell ?_ (by first | omega | (simp; done) | (simp; omega)) _ | refine Below.drew ?_ | refine below_drewN ?_ _)); done)
  refine (take_some (Q5'.below hb56) (by decide) (by decide)).mono ?_
  rintro e w6 ⟨m, S6, hl6, hpm6, rfl, Q6, hO6⟩
  obtain rfl := second3 hl6
  have hz6 := hO6.size
  simp only [heap_size_alloc'] at hz6
  have hO6b : Below w.heap.size w5 w6 := (hb56.mono hb5.size).trans (hO6.below (by simp; have := hb5.size; omega) (fun k hk h => by have := h.1; omega))
  have g6 : w6.heap[w5.heap.size]? = some (.cells #[.int .i64 1, .int .i64 0] 24 (0, 0)) := (hO6.block _ (by simp) (fun h => absurd h.2 (by omega))).trans (heap_alloc_new _ _)
  have hb6 : Below w.heap.size w w6 := hb5.trans hO6b
  clear Q5' hO6 Q6 hl6 hpm6 hO6b hb56
  go_wp2_with fail
  have m1 := made_any (l := [1, 3]) (f := 0) _ (Rd.lit encI 1 [1, 3] (heap_alloc_new2 w6 (.cells #[.int .i64 2, .int .i64 0] 24) (.cells #[.int .i64 1, .int .i64 3] 3)) rfl encI_len 2 rfl (by simp [maxLen])) (Nat.le_refl _) (by simp) (by omega)
  refine m1.mono ?_
  rintro e w7 ⟨u7, rfl, hr7, hb7⟩
  have hz7 := hb7.size
  simp only [heap_size_alloc'] at hz7
  have hr7' := hr7
  obtain ⟨A7, cap7, rfl, -, -, -⟩ := hr7
  rw [show (madeL [1, 3] ((0 : Nat) : Int)).length = 2 from rfl] at hr7' ⊢
  have g7 : w7.heap[w6.heap.size]? = some (.cells #[.int .i64 2, .int .i64 0] 24 (0, 0)) := (hb7.block _ (by simp; omega)).trans ((heap_alloc_old _ _ (by simp)).trans (heap_alloc_new _ _))
  have g7' : w7.heap[w5.heap.size]? = some (.cells #[.int .i64 1, .int .i64 0] 24 (0, 0)) := (hb7.block _ (by simp; omega)).trans ((heap_alloc_old _ _ (by simp; omega)).trans ((heap_alloc_old _ _ (by omega)).trans g6))
  have hb7w : Below w.heap.size w w7 := hb6.trans (Below.trans (by have := hb6.size; ((repeat (first | exact Below.refl _ _ | assumption | refine Below.alloc ?_ (by first | omega | (simp; done) | (simp; omega)) _ | refine Below.setCell ?_ (by first | omega | (simp; done) | (simp; omega)) _ | refine Below.drew ?_ | refine below_drewN ?_ _)); done)) (hb7.mono (by simp; have := hb6.size; omega)))
  clear m1 hb7 g6
  go_wp2_with fail
  have m2 := made_any (l := [2]) (f := 2) _ (Rd.lit encI 1 [2] (heap_alloc_new w7 (.cells #[.int .i64 2] 3)) rfl encI_len 1 rfl (by simp [maxLen])) (Nat.le_refl _) (by simp) (by omega)
  refine m2.mono ?_
  rintro e w8 ⟨u8, rfl, hr8, hb8⟩
  have hz8 := hb8.size
  simp only [heap_size_alloc'] at hz8
  have hr8' := hr8
  obtain ⟨A8, cap8, rfl, -, -, -⟩ := hr8
  rw [show (madeL [2] ((2 : Nat) : Int)).length = 1 from rfl] at hr8' ⊢
  have g8 : w8.heap[w6.heap.size]? = some (.cells #[.int .i64 2, .int .i64 0] 24 (0, 0)) := (hb8.block _ (by simp; omega)).trans ((heap_alloc_old _ _ (by omega)).trans g7)
  have g8' : w8.heap[w5.heap.size]? = some (.cells #[.int .i64 1, .int .i64 0] 24 (0, 0)) := (hb8.block _ (by simp; omega)).trans ((heap_alloc_old _ _ (by omega)).trans g7')
  have hb78 : Below w7.heap.size w7 w8 := Below.trans (by ((repeat (first | exact Below.refl _ _ | assumption | refine Below.alloc ?_ (by first | omega | (simp; done) | (simp; omega)) _ | refine Below.setCell ?_ (by first | omega | (simp; done) | (simp; omega)) _ | refine Below.drew ?_ | refine below_drewN ?_ _)); done)) (hb8.mono (by simp))
  have hr7 := Rd.next hr7' hb78
  have hb8w : Below w.heap.size w w8 := hb7w.trans (hb78.mono hb7w.size)
  clear m2 hb8 g7 g7' hr7'
  have hX : RdLL (w8.alloc (.cells #[.slice A7 2 cap7, .slice A8 1 cap8] 41)) (w8.alloc (.cells #[.slice A7 2 cap7, .slice A8 1 cap8] 41)).heap.size (.slice (some ⟨w8.heap.size, 0, none⟩) 2 2) x2 := by
    have hbb : Below w8.heap.size w8 (w8.alloc (.cells #[.slice A7 2 cap7, .slice A8 1 cap8] 41)) := by ((repeat (first | exact Below.refl _ _ | assumption | refine Below.alloc ?_ (by first | omega | (simp; done) | (simp; omega)) _ | refine Below.setCell ?_ (by first | omega | (simp; done) | (simp; omega)) _ | refine Below.drew ?_ | refine below_drewN ?_ _)); done)
    refine ⟨[.slice A7 2 cap7, .slice A8 1 cap8], Rd.lit encV 1 _ (heap_alloc_new _ _) rfl (fun _ => rfl) 2 rfl (by simp [maxLen]), rfl, fun i u xs hu hx => ?_⟩
    rw [← x2_made] at hx
    match i with
    | 0 => simp only [List.getElem?_cons_zero, Option.some.injEq] at hu hx; subst hu hx; exact Rd.next hr7 hbb
    | 1 => simp only [List.getElem?_cons_succ, List.getElem?_cons_zero, Option.some.injEq] at hu hx; subst hu hx; exact Rd.next hr8' hbb
    | i + 2 => simp at hu
  have mg := merge_any _ hX (by decide) (by decide) (by decide) (fun _ => x2_lined)
  clear hX hr7 hr8'
  go_wp2_with fail
  refine mg.mono ?_
  rintro e w9 ⟨⟨hbad, _⟩ | ⟨_, u, out, rfl, hru, hpo, hso⟩, hb9⟩
  · rw [x2_rises] at hbad; cases hbad
  · obtain rfl := x2_out hpo hso
    have hz9 := hb9.size
    simp only [heap_size_alloc'] at hz9
    have g9 : w9.heap[w6.heap.size]? = some (.cells #[.int .i64 2, .int .i64 0] 24 (0, 0)) := (hb9.block _ (by simp; omega)).trans ((heap_alloc_old _ _ (by omega)).trans g8)
    have g9' : w9.heap[w5.heap.size]? = some (.cells #[.int .i64 1, .int .i64 0] 24 (0, 0)) := (hb9.block _ (by simp; omega)).trans ((heap_alloc_old _ _ (by omega)).trans g8')
    have ka : w9.cell? ⟨w5.heap.size, 0, none⟩ = some (.int .i64 1) := by rw [cell_of_row _ _ _ _ _ _ g9']; rfl
    have kb : w9.cell? ⟨w6.heap.size, 0, none⟩ = some (.int .i64 2) := by rw [cell_of_row _ _ _ _ _ _ g9]; rfl
    have hb9w : Below w.heap.size w w9 := hb8w.trans (Below.trans (by have := hb8w.size; ((repeat (first | exact Below.refl _ _ | assumption | refine Below.alloc ?_ (by first | omega | (simp; done) | (simp; omega)) _ | refine Below.setCell ?_ (by first | omega | (simp; done) | (simp; omega)) _ | refine Below.drew ?_ | refine below_drewN ?_ _)); done)) (hb9.mono (by simp; have := hb8w.size; omega)))
    clear mg g8 g8' g9 g9' hpo hso
    obtain ⟨Au, capu, rfl, -, -, -⟩ := id hru
    go_wp2_with fail
    have hbl : Below w9.heap.size w9 (w9.alloc (.cells #[.int .i64 1, .int .i64 0, .int .i64 2, .int .i64 2, .int .i64 3, .int .i64 1] 24)) := by ((repeat (first | exact Below.refl _ _ | assumption | refine Below.alloc ?_ (by first | omega | (simp; done) | (simp; omega)) _ | refine Below.setCell ?_ (by first | omega | (simp; done) | (simp; omega)) _ | refine Below.drew ?_ | refine below_drewN ?_ _)); done)
    have hth := things_any _ (Rd.next hru hbl) (Rd.lit Th.enc 2 [⟨1, 0⟩, ⟨2, 2⟩, ⟨3, 1⟩] (heap_alloc_new w9 (.cells #[.int .i64 1, .int .i64 0, .int .i64 2, .int .i64 2, .int .i64 3, .int .i64 1] 24)) rfl Th.enc_len 3 rfl (by simp [maxLen])) (Nat.le_refl _)
    rw [decide_eq_true (rfl : ([⟨1, 0⟩, ⟨2, 2⟩, ⟨3, 1⟩] : List Th) = [⟨1, 0⟩, ⟨2, 2⟩, ⟨3, 1⟩])] at hth
    refine hth.mono ?_
    rintro e wf ⟨rfl, hbf⟩
    have hbw := hb9w.trans ((hbl.trans (hbf.mono hbl.size)).mono hb9w.size)
    go_wp2_with fail
    go_ret
    exact ⟨rfl, hbw⟩
end Go.Proofs.Yteiocnaneghggaa
