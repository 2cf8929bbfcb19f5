import Derived.Test.YteiocnaneghggaaQMg
import Derived.WalkMore
namespace Go.Proofs.Yteiocnaneghggaa
open Go Go.RowKit

theorem encV_flat : ∀ l : List Value, l = l.flatMap encV
  | [] => rfl
  | a :: l => by rw [List.flatMap_cons, ← encV_flat l]; rfl
theorem rdLL_lit {w : World} {vs : Array Value} {xss : List (List Th)} (hl : vs.toList.length = xss.length) (hn : xss.length ≤ 10) (h : ∀ (i : Nat) (u : Value) (xs : List Th), vs.toList[i]? = some u → xss[i]? = some xs → Rd Th.enc 2 w w.heap.size u xs) {n : Nat} (hn2 : n = vs.toList.length) :
    RdLL (w.alloc (.cells vs 41)) (w.alloc (.cells vs 41)).heap.size (.slice (some ⟨w.heap.size, 0, none⟩) n n) xss := by
  have hbb : Below w.heap.size w (w.alloc (.cells vs 41)) := by ((repeat (first | exact Below.refl _ _ | assumption | refine Below.alloc ?_ (by first | omega | (simp; done) | (simp; omega)) _ | refine Below.setCell ?_ (by first | omega | (simp; done) | (simp; omega)) _ | refine Below.drew ?_ | refine below_drewN ?_ _)); done)
  refine ⟨vs.toList, Rd.lit encV 1 _ (heap_alloc_new _ _) ?_ (fun _ => rfl) n hn2 (by simp only [maxLen]; omega), hl, fun i u xs hu hx => Rd.next (h i u xs hu hx) hbb⟩
  exact encV_flat _

/-- three lists of ranks, and what merging two first comes to -/
structure Three (X Y Z : List Th) : Prop where
  rows : Rowed [X, Y, Z]
theorem Three.two {X Y Z : List Th} (h : Three X Y Z) : Rowed [X, Y] := by
  obtain ⟨h1, h2⟩ := h.rows
  refine ⟨fun xs hx => h1 xs (by simp at hx ⊢; rcases hx with h | h <;> simp [h]), ?_⟩
  simp only [List.pairwise_cons, List.mem_cons, List.not_mem_nil, or_false, forall_eq_or_imp, forall_eq] at h2 ⊢
  exact ⟨h2.1.1, by simp, List.Pairwise.nil⟩
theorem three_made {a b c : List Int} (ha : a.length ≤ 40) (hb : b.length ≤ 40) (hc : c.length ≤ 40) : Three (madeL a 0) (madeL b 100) (madeL c 200) := by
  have h : mks [a, b, c] = [madeL a 0, madeL b 100, madeL c 200] := rfl
  refine ⟨?_⟩
  rw [← h]
  exact mks_rows (by simp; exact ⟨ha, hb, hc⟩)
theorem Three.falls {X Y Z : List Th} (h : fallsB [X, Y] = true) : fallsB [X, Y, Z] = true := by
  rw [fallsB_true] at h ⊢
  obtain ⟨xs, hx, hn⟩ := h
  exact ⟨xs, by simp at hx ⊢; rcases hx with h | h <;> simp [h], hn⟩
theorem Three.third {X Y Z T : List Th} (h : fallsB [X, Y] = false) (hT : T.Pairwise KL) : fallsB [X, Y, Z] = fallsB [T, Z] := by
  rw [fallsB_false] at h
  rw [Bool.eq_iff_iff, fallsB_true, fallsB_true]
  constructor
  · rintro ⟨xs, hx, hn⟩
    simp at hx
    rcases hx with rfl | rfl | rfl
    · exact absurd (h _ (by simp)) hn
    · exact absurd (h _ (by simp)) hn
    · exact ⟨_, by simp, hn⟩
  · rintro ⟨xs, hx, hn⟩
    simp at hx
    rcases hx with rfl | rfl
    · exact absurd (kl_rises hT) hn
    · exact ⟨_, by simp, hn⟩
theorem Three.lined {X Y Z T : List Th} (h : Three X Y Z) (hp : T.Perm [X, Y].flatten) (hT : T.Pairwise KL) (hf : fallsB [T, Z] = false) : Lined [T, Z].length (nth [T, Z]) := by
  rw [fallsB_false] at hf
  have hZ := rises_kl (hf Z (by simp)) (h.rows.1 Z (by simp))
  have h2 := h.rows.2
  simp only [List.pairwise_cons, List.mem_cons, List.not_mem_nil, or_false, forall_eq_or_imp, forall_eq] at h2
  refine ⟨fun i hi => ?_, fun i j hij hj x hx y hy => ?_⟩
  · match i, hi with
    | 0, _ => exact hT
    | 1, _ => exact hZ
  · have : i = 0 ∧ j = 1 := by simp only [List.length_cons, List.length_nil] at hj; omega
    obtain ⟨rfl, rfl⟩ := this
    · have hx' : x ∈ T := hx
      have hy' : y ∈ Z := hy
      have := hp.subset hx'
      simp at this
      rcases this with h' | h'
      · exact h2.1.2 x h' y hy'
      · exact h2.2.1 x h' y hy'
theorem Three.same {X Y Z T out out2 : List Th} (hp : T.Perm [X, Y].flatten) (h1 : out.Perm [X, Y, Z].flatten) (h2 : out.Pairwise KL) (h3 : out2.Perm [T, Z].flatten) (h4 : out2.Pairwise KL) : out = out2 := by
  refine kl_unique _ _ h2 h4 (h1.trans (List.Perm.trans ?_ h3.symm))
  simp only [List.flatten_cons, List.flatten_nil, List.append_nil] at hp ⊢
  rw [← List.append_assoc]
  exact List.Perm.append_right _ hp.symm

set_option maxHeartbeats 8000000 in
set_option maxRecDepth 100000 in
theorem parts_walk {v1 v2 v3 : Value} {a b c : List Int} (w : World) (ha : Rd encI 1 w w.heap.size v1 a) (hb : Rd encI 1 w w.heap.size v2 b) (hc : Rd encI 1 w w.heap.size v3 c) : Calls Try.prog 8 #[v1, v2, v3] w fun e w' => e = .returned (.bool true) ∧ Below w.heap.size w w' := by
  have ha' := ha
  have hb' := hb
  have hc' := hc
  obtain ⟨A1, cap1, rfl, -⟩ := ha
  obtain ⟨A2, cap2, rfl, -⟩ := hb
  obtain ⟨A3, cap3, rfl, -⟩ := hc
  by_cases hl : a.length ≤ 40 ∧ b.length ≤ 40 ∧ c.length ≤ 40
  · obtain ⟨hla, hlb, hlc⟩ := hl
    have d1 : decide ((40 : Int) < a.length) = false := decide_eq_false (by omega)
    have d2 : decide ((40 : Int) < b.length) = false := decide_eq_false (by omega)
    have d3 : decide ((40 : Int) < c.length) = false := decide_eq_false (by omega)
    have h3 := Lib.hid (three_made hla hlb hlc)
    have m1 := made_any (f := 0) w ha' (Nat.le_refl _) (by omega) (by omega)
    go_enter Try.func8, Try.ntmps8
    go_wp2_with fail
    refine m1.mono ?_
    rintro e w1 ⟨u1, rfl, hr1, hb1⟩
    have hz1 := hb1.size
    have m2 := made_any (f := 100) w1 (hb'.next hb1) (Nat.le_refl _) (by omega) (by omega)
    clear m1
    go_wp2_with fail
    refine m2.mono ?_
    rintro e w2 ⟨u2, rfl, hr2, hb2⟩
    have hz2 := hb2.size
    have m3 := made_any (f := 200) w2 ((hc'.next hb1).next hb2) (Nat.le_refl _) (by omega) (by omega)
    have hr1' := hr1.next hb2
    clear m2 hr1
    go_wp2_with fail
    refine m3.mono ?_
    rintro e w3 ⟨u3, rfl, hr3, hb3⟩
    have hb03 := (hb1.trans (hb2.mono hz1)).trans (hb3.mono (by omega))
    have hr1 : Rd Th.enc 2 w3 w3.heap.size u1 (madeL a 0) := hr1'.next hb3
    replace hr2 : Rd Th.enc 2 w3 w3.heap.size u2 (madeL b 100) := hr2.next hb3
    replace hr3 : Rd Th.enc 2 w3 w3.heap.size u3 (madeL c 200) := hr3
    have hz3 := hb03.size
    have lX : (madeL a 0).length ≤ 40 := by rw [madeL_len]; exact hla
    have lY : (madeL b 100).length ≤ 40 := by rw [madeL_len]; exact hlb
    have lZ : (madeL c 200).length ≤ 40 := by rw [madeL_len]; exact hlc
    generalize madeL a 0 = X at h3 hr1 lX
    generalize madeL b 100 = Y at h3 hr2 lY
    generalize madeL c 200 = Z at h3 hr3 lZ
    clear m3 hr1' hb1 hb2 hb3 ha' hb' hc' hla hlb hlc hz1 hz2 d1 d2 d3
    obtain ⟨B1, k1, rfl⟩ : ∃ A cap, u1 = .slice A X.length cap := by obtain ⟨A, cap, h, -⟩ := hr1; exact ⟨A, cap, h⟩
    obtain ⟨B2, k2, rfl⟩ : ∃ A cap, u2 = .slice A Y.length cap := by obtain ⟨A, cap, h, -⟩ := hr2; exact ⟨A, cap, h⟩
    obtain ⟨B3, k3, rfl⟩ : ∃ A cap, u3 = .slice A Z.length cap := by obtain ⟨A, cap, h, -⟩ := hr3; exact ⟨A, cap, h⟩
    have hX3 := rdLL_lit (w := w3) (vs := #[.slice B1 X.length k1, .slice B2 Y.length k2, .slice B3 Z.length k3]) (xss := [X, Y, Z]) rfl (by simp) (fun i u xs hu hx => by
      match i with
      | 0 => simp at hu hx; subst hu hx; exact hr1
      | 1 => simp at hu hx; subst hu hx; exact hr2
      | 2 => simp at hu hx; subst hu hx; exact hr3
      | i + 3 => simp at hu) (n := 3) rfl
    have hb34 : Below w3.heap.size w3 (w3.alloc (.cells #[.slice B1 X.length k1, .slice B2 Y.length k2, .slice B3 Z.length k3] 41)) := by ((repeat (first | exact Below.refl _ _ | assumption | refine Below.alloc ?_ (by first | omega | (simp; done) | (simp; omega)) _ | refine Below.setCell ?_ (by first | omega | (simp; done) | (simp; omega)) _ | refine Below.drew ?_ | refine below_drewN ?_ _)); done)
    have mg := merge_any _ hX3 (by simp) (by simp; omega) (by simp; omega) (h3.out.rows.lined)
    go_wp2_with fail
    refine mg.mono ?_
    rintro e w5 ⟨hcase, hb5⟩
    have hb35 := hb34.trans (hb5.mono hb34.size)
    have hb05 := hb03.trans (hb35.mono hz3)
    have hz5 := hb05.size
    replace hr1 := hr1.next hb35
    replace hr2 := hr2.next hb35
    replace hr3 := hr3.next hb35
    clear mg hX3 hb34 hb5 hb35 hb03 hz3
    have hX2 := rdLL_lit (w := w5) (vs := #[.slice B1 X.length k1, .slice B2 Y.length k2]) (xss := [X, Y]) rfl (by simp) (fun i u xs hu hx => by
      match i with
      | 0 => simp at hu hx; subst hu hx; exact hr1
      | 1 => simp at hu hx; subst hu hx; exact hr2
      | i + 2 => simp at hu) (n := 2) rfl
    have hb56 : Below w5.heap.size w5 (w5.alloc (.cells #[.slice B1 X.length k1, .slice B2 Y.length k2] 41)) := by ((repeat (first | exact Below.refl _ _ | assumption | refine Below.alloc ?_ (by first | omega | (simp; done) | (simp; omega)) _ | refine Below.setCell ?_ (by first | omega | (simp; done) | (simp; omega)) _ | refine Below.drew ?_ | refine below_drewN ?_ _)); done)
    have mg2 := merge_any _ hX2 (by simp) (by simp; omega) (by simp; omega) (h3.out.two.lined)
    rcases hcase with ⟨hf, rfl⟩ | ⟨hf, u, out, rfl, hru, hpo, hso⟩
    · have HF := Lib.hid hf
      clear hf
      go_wp2_with fail
      refine mg2.mono ?_
      rintro e w7 ⟨hcase, hb7⟩
      have hb57 := hb56.trans (hb7.mono hb56.size)
      have hb07 := hb05.trans (hb57.mono hz5)
      have hz7 := hb07.size
      replace hr3 := hr3.next hb57
      clear mg2 hX2 hb7 hb56
      rcases hcase with ⟨hf2, rfl⟩ | ⟨hf2, u2, out2, rfl, hru2, hpo2, hso2⟩
      · clear hf2
        go_wp2_with fail
        refine (awake_any _).mono ?_
        rintro e w11 ⟨rfl, hb11⟩
        go_wp2_with fail
        go_ret
        exact ⟨rfl, hb07.trans (hb11.mono hz7)⟩
      · have hru2' := hru2
        obtain ⟨B4, k4, rfl⟩ : ∃ A cap, u2 = .slice A out2.length cap := by obtain ⟨A, cap, h, -⟩ := hru2; exact ⟨A, cap, h⟩
        have hout2 : out2.length ≤ 80 := by
          have := hpo2.length_eq
          simp at this
          omega
        have hX4 := rdLL_lit (w := w7) (vs := #[.slice B4 out2.length k4, .slice B3 Z.length k3]) (xss := [out2, Z]) rfl (by simp) (fun i u xs hu hx => by
          match i with
          | 0 => simp at hu hx; subst hu hx; exact hru2'
          | 1 => simp at hu hx; subst hu hx; exact hr3
          | i + 2 => simp at hu) (n := 2) rfl
        have hb78 : Below w7.heap.size w7 (w7.alloc (.cells #[.slice B4 out2.length k4, .slice B3 Z.length k3] 41)) := by ((repeat (first | exact Below.refl _ _ | assumption | refine Below.alloc ?_ (by first | omega | (simp; done) | (simp; omega)) _ | refine Below.setCell ?_ (by first | omega | (simp; done) | (simp; omega)) _ | refine Below.drew ?_ | refine below_drewN ?_ _)); done)
        have hf3 := Lib.hid (Three.third (Z := Z) hf2 hso2)
        have mg3 := merge_any _ hX4 (by simp) (by simp; omega) (by simp; omega) (h3.out.lined hpo2 hso2)
        have HP2 := Lib.hid hpo2
        clear hf2 hpo2 hso2 hru2
        go_wp2_with fail
        refine mg3.mono ?_
        rintro e w9 ⟨hcase, hb9⟩
        have hb79 := hb78.trans (hb9.mono hb78.size)
        have hb09 := hb07.trans (hb79.mono hz7)
        have hz9 := hb09.size
        rcases hcase with ⟨hf4, rfl⟩ | ⟨hf4, -⟩
        · clear hf4 mg3 hX4 hb78
          have hth := things_any w9 (Rd.nil Th.enc 2 w9 0) (Rd.nil Th.enc 2 w9 0) (Nat.zero_le _)
          rw [decide_eq_true (rfl : ([] : List Th) = [])] at hth
          go_wp2_with fail
          refine hth.mono ?_
          rintro e w10 ⟨rfl, hb10⟩
          have hb010 := hb09.trans (hb10.mono hz9)
          go_wp2_with fail
          refine (awake_any _).mono ?_
          rintro e w11 ⟨rfl, hb11⟩
          go_wp2_with fail
          go_ret
          exact ⟨rfl, hb010.trans (hb11.mono hb010.size)⟩
        · have := hf3.out
          rw [HF.out, hf4] at this
          cases this
    · have HF := Lib.hid hf
      have HP := Lib.hid hpo
      have HS := Lib.hid hso
      clear hf hpo hso
      go_wp2_with fail
      refine mg2.mono ?_
      rintro e w7 ⟨hcase, hb7⟩
      have hb57 := hb56.trans (hb7.mono hb56.size)
      have hb07 := hb05.trans (hb57.mono hz5)
      have hz7 := hb07.size
      replace hr3 := hr3.next hb57
      clear mg2 hX2 hb7 hb56
      rcases hcase with ⟨hf2, rfl⟩ | ⟨hf2, u2, out2, rfl, hru2, hpo2, hso2⟩
      · have := Three.falls (Z := Z) hf2
        rw [HF.out] at this
        cases this
      · have hru7 := hru.next hb57
        have hru2' := hru2
        obtain ⟨B4, k4, rfl⟩ : ∃ A cap, u2 = .slice A out2.length cap := by obtain ⟨A, cap, h, -⟩ := hru2; exact ⟨A, cap, h⟩
        have hout2 : out2.length ≤ 80 := by
          have := hpo2.length_eq
          simp at this
          omega
        have hX4 := rdLL_lit (w := w7) (vs := #[.slice B4 out2.length k4, .slice B3 Z.length k3]) (xss := [out2, Z]) rfl (by simp) (fun i u xs hu hx => by
          match i with
          | 0 => simp at hu hx; subst hu hx; exact hru2'
          | 1 => simp at hu hx; subst hu hx; exact hr3
          | i + 2 => simp at hu) (n := 2) rfl
        have hb78 : Below w7.heap.size w7 (w7.alloc (.cells #[.slice B4 out2.length k4, .slice B3 Z.length k3] 41)) := by ((repeat (first | exact Below.refl _ _ | assumption | refine Below.alloc ?_ (by first | omega | (simp; done) | (simp; omega)) _ | refine Below.setCell ?_ (by first | omega | (simp; done) | (simp; omega)) _ | refine Below.drew ?_ | refine below_drewN ?_ _)); done)
        have hf3 := Lib.hid (Three.third (Z := Z) hf2 hso2)
        have mg3 := merge_any _ hX4 (by simp) (by simp; omega) (by simp; omega) (h3.out.lined hpo2 hso2)
        have HP2 := Lib.hid hpo2
        clear hf2 hpo2 hso2 hru2
        go_wp2_with fail
        refine mg3.mono ?_
        rintro e w9 ⟨hcase, hb9⟩
        have hb79 := hb78.trans (hb9.mono hb78.size)
        have hb09 := hb07.trans (hb79.mono hz7)
        have hz9 := hb09.size
        have hru9 := hru7.next hb79
        rcases hcase with ⟨hf4, rfl⟩ | ⟨hf4, u3, out3, rfl, hru3, hpo3, hso3⟩
        · have := hf3.out
          rw [HF.out, hf4] at this
          cases this
        · have heq := Lib.hid (Three.same HP2.out HP.out HS.out hpo3 hso3)
          have hth := things_any w9 hru9 hru3 (Nat.le_refl _)
          rw [decide_eq_true heq.out] at hth
          clear hf4 mg3 hX4 hb78 hpo3 hso3
          obtain ⟨B5, k5, rfl⟩ : ∃ A cap, u = .slice A out.length cap := by obtain ⟨A, cap, h, -⟩ := hru9; exact ⟨A, cap, h⟩
          obtain ⟨B6, k6, rfl⟩ : ∃ A cap, u3 = .slice A out3.length cap := by obtain ⟨A, cap, h, -⟩ := hru3; exact ⟨A, cap, h⟩
          go_wp2_with fail
          refine hth.mono ?_
          rintro e w10 ⟨rfl, hb10⟩
          have hb010 := hb09.trans (hb10.mono hz9)
          go_wp2_with fail
          refine (awake_any _).mono ?_
          rintro e w11 ⟨rfl, hb11⟩
          go_wp2_with fail
          go_ret
          exact ⟨rfl, hb010.trans (hb11.mono hb010.size)⟩
  · have hx : (40 : Int) < a.length ∨ ((a.length : Int) ≤ 40 ∧ (40 : Int) < b.length) ∨ ((a.length : Int) ≤ 40 ∧ (b.length : Int) ≤ 40 ∧ (40 : Int) < c.length) := by omega
    clear hl ha' hb' hc'
    rcases hx with h | ⟨h1, h2⟩ | ⟨h1, h2, h3⟩
    · have d1 : decide ((40 : Int) < a.length) = true := decide_eq_true h
      go_enter Try.func8, Try.ntmps8
      go_wp2_with fail
      refine (awake_any _).mono ?_
      rintro e w1 ⟨rfl, hb1⟩
      go_wp2_with fail
      go_ret
      exact ⟨rfl, hb1⟩
    · have d1 : decide ((40 : Int) < a.length) = false := decide_eq_false (by omega)
      have d2 : decide ((40 : Int) < b.length) = true := decide_eq_true h2
      go_enter Try.func8, Try.ntmps8
      go_wp2_with fail
      refine (awake_any _).mono ?_
      rintro e w1 ⟨rfl, hb1⟩
      go_wp2_with fail
      go_ret
      exact ⟨rfl, hb1⟩
    · have d1 : decide ((40 : Int) < a.length) = false := decide_eq_false (by omega)
      have d2 : decide ((40 : Int) < b.length) = false := decide_eq_false (by omega)
      have d3 : decide ((40 : Int) < c.length) = true := decide_eq_true h3
      go_enter Try.func8, Try.ntmps8
      go_wp2_with fail
      refine (awake_any _).mono ?_
      rintro e w1 ⟨rfl, hb1⟩
      go_wp2_with fail
      go_ret
      exact ⟨rfl, hb1⟩
end Go.Proofs.Yteiocnaneghggaa
