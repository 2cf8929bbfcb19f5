import Derived.Test.YteiocnaneghggaaQJ0
namespace Go.Proofs.Yteiocnaneghggaa
open Go Go.RowKit

/-- at is the place of the least rank of the first k, of several the first one -/
def FirstTo (xs : List Th) (k at_ : Nat) (x : Th) : Prop := at_ < k ∧ xs[at_]? = some x ∧ ∀ (j : Nat) (y : Th), j < k → xs[j]? = some y → (j < at_ → x.rank < y.rank) ∧ x.rank ≤ y.rank

set_option maxHeartbeats 4000000 in
theorem first_any {B : Nat} {v : Value} {xs : List Th} (w : World) (hx : Rd Th.enc 2 w B v xs) (hB : B ≤ w.heap.size) (hl : xs.length ≤ 100000) :
   Calls Try.prog 19 #[v] w fun e w' => ((xs = [] ∧ e = .returned (.int .i64 (-1))) ∨ ∃ (at_ : Nat) (x : Th), FirstTo xs xs.length at_ x ∧ e = .returned (.int .i64 at_)) ∧ Below w.heap.size w w' := by
  have hx' := hx
  obtain ⟨A, cap, rfl, h1, h2, -⟩ := hx
  unfold maxLen at h2
  go_enter Try.func19, Try.ntmps19
  go_wp2_with fail
  go_loopw [3, 4] (fun bv i wr => ∃ k : Nat, k ≤ xs.length ∧ i = .int .i64 k ∧ ((k = 0 ∧ bv = .int .i64 (-1)) ∨ ∃ (at_ : Nat) (x : Th), FirstTo xs k at_ x ∧ bv = .int .i64 at_) ∧ Below w.heap.size w wr) (fun _ i _ => xs.length - (intOf i).toNat)
  case atStart => exact ⟨0, Nat.zero_le _, rfl, Or.inl ⟨rfl, rfl⟩, Below.refl _ _⟩
  case round =>
    obtain ⟨k, hk, rfl, hcase, hbel⟩ := hrel
    by_cases hlt : k < xs.length
    · obtain ⟨X, hX⟩ := get_lt hlt
      obtain ⟨b, off, rfl, hb, hc⟩ := (hx'.below hbel hB).at_ hX
      have c1 : wr.cell? ⟨b, off + k * 2, none⟩ = some (.int .i64 X.rank) := hc k _ hX 0 _ rfl
      have HX := Lib.hid hX
      rcases hcase with ⟨rfl, rfl⟩ | ⟨at_, x, hf, rfl⟩
      · have hF : Hid (FirstTo xs 1 0 X) := ⟨by omega, hX, fun j y hj hy => by
          obtain rfl : j = 0 := by omega
          rw [hX] at hy; cases hy
          exact ⟨fun h => absurd h (by omega), Int.le_refl _⟩⟩
        clear hc hX
        go_wp2_with fail
        go_quiet (fail)
        go_wp2_with fail
        go_roundw
        case rel => exact ⟨1, by omega, by go_num, Or.inr ⟨0, X, hF.out, by go_num⟩, below_drewN hbel _⟩
        case measure => simp [intOf]; omega
      · have c2 : wr.cell? ⟨b, off + at_ * 2, none⟩ = some (.int .i64 x.rank) := hc at_ _ hf.2.1 0 _ rfl
        have hat := hf.1
        have hatl : at_ < xs.length := by omega
        by_cases hr : X.rank < x.rank
        · have hF : Hid (FirstTo xs (k + 1) k X) := ⟨by omega, hX, fun j y hj hy => by
            by_cases hjk : j = k
            · subst hjk
              rw [hX] at hy; cases hy
              exact ⟨fun h => absurd h (by omega), Int.le_refl _⟩
            · have := (hf.2.2 j y (by omega) hy).2
              exact ⟨fun _ => by omega, by omega⟩⟩
          have hd : decide (X.rank < x.rank) = true := decide_eq_true hr
          clear hc hX hf
          go_wp2_with fail
          go_quiet (fail)
          go_wp2_with fail
          go_roundw
          case rel => exact ⟨k + 1, by omega, by go_num, Or.inr ⟨k, X, hF.out, by go_num⟩, below_drewN hbel _⟩
          case measure => simp [intOf]; omega
        · have hF : Hid (FirstTo xs (k + 1) at_ x) := ⟨by omega, hf.2.1, fun j y hj hy => by
            by_cases hjk : j = k
            · subst hjk
              rw [hX] at hy; cases hy
              exact ⟨fun h => absurd h (by omega), by omega⟩
            · exact hf.2.2 j y (by omega) hy⟩
          have hd : decide (X.rank < x.rank) = false := decide_eq_false hr
          clear hc hX hf
          go_wp2_with fail
          go_quiet (fail)
          go_wp2_with fail
          go_roundw
          case rel => exact ⟨k + 1, by omega, by go_num, Or.inr ⟨at_, x, hF.out, by go_num⟩, below_drewN hbel _⟩
          case measure => simp [intOf]; omega
    · obtain rfl : k = xs.length := by omega
      rcases hcase with ⟨h0, rfl⟩ | ⟨at_, x, hf, rfl⟩
      · go_wp2_with fail
        go_ret
        exact ⟨Or.inl ⟨List.eq_nil_of_length_eq_zero h0, rfl⟩, hbel⟩
      · have HF := Lib.hid hf
        clear hf
        go_wp2_with fail
        go_ret
        exact ⟨Or.inr ⟨at_, x, HF.out, rfl⟩, hbel⟩

/-- things of ranks, one behind the other, from a number on -/
def madeL (l : List Int) (from_ : Int) : List Th := (l.zipIdx 0).map (fun p => ⟨p.1, from_ + p.2⟩)
theorem madeL_len (l : List Int) (f : Int) : (madeL l f).length = l.length := by simp [madeL]
theorem madeL_get {l : List Int} {f : Int} {i : Nat} {r : Int} (h : l[i]? = some r) : (madeL l f)[i]? = some ⟨r, f + i⟩ := by
  unfold madeL
  rw [List.getElem?_map, List.getElem?_zipIdx, h]
  simp

set_option maxHeartbeats 4000000 in
theorem made_any {B : Nat} {v : Value} {l : List Int} (w : World) (hx : Rd encI 1 w B v l) (hB : B ≤ w.heap.size) (hl : l.length ≤ 1000) {f : Nat} (hf : f ≤ 100000) :
   Calls Try.prog 21 #[v, .int .i64 f] w fun e w' => ∃ u, e = .returned u ∧ Rd Th.enc 2 w' w'.heap.size u (madeL l f) ∧ Below w.heap.size w w' := by
  have hx' := hx
  obtain ⟨A, cap, rfl, h1, h2, -⟩ := hx
  unfold maxLen at h2
  go_enter Try.func21, Try.ntmps21
  go_wp2_with fail
  go_loopw [5, 6] (fun out i wr => ∃ k : Nat, k ≤ l.length ∧ i = .int .i64 k ∧ Own Th.enc 2 24 wr w.heap.size out ((madeL l f).take k) ∧ Below w.heap.size w wr) (fun _ i _ => l.length - (intOf i).toNat)
  case atStart => exact ⟨0, Nat.zero_le _, rfl, by rw [List.take_zero]; exact Own.nil _ _ _ _ _, Below.refl _ _⟩
  case round =>
    obtain ⟨k, hk, rfl, hown, hbel⟩ := hrel
    have hml := madeL_len l f
    have hsz := hbel.size
    by_cases hlt : k < l.length
    · obtain ⟨r, hr⟩ := get_lt hlt
      have HN := Lib.hid (take_snoc (madeL_get (f := f) hr))
      obtain ⟨b, off, rfl, hb, hc⟩ := (hx'.below hbel hB).at_ hr
      have c1 : wr.cell? ⟨b, off + k, none⟩ = some (.int .i64 r) := by simpa using hc k _ hr 0 _ rfl
      clear hc hr
      have htl : ((madeL l f).take k).length ≤ 1000 := by rw [List.length_take]; omega
      clear hml
      go_wp2_with (at_builtin; refine wpList_append_one _ (by rfl) _ _ _ (by rfl) Th.enc Th.enc_len Th.enc_one T41 w.heap.size _ _ (by rfl) (hown.below (by ((repeat (first | exact Below.refl _ _ | assumption | refine Below.alloc ?_ (by first | omega | (simp; done) | (simp; omega)) _ | refine Below.setCell ?_ (by first | omega | (simp; done) | (simp; omega)) _ | refine Below.drew ?_ | refine below_drewN ?_ _)); done))) ⟨r, (f : Int) + (k : Int)⟩ _ #[.int .i64 r, .int .i64 ((f : Int) + (k : Int))] (by rfl) (by rfl) (heap_alloc_new _ _) (by omega) (by simp; omega) ?_; intro v3 w3 hown3 hb3 hO3 hloc3)
      have hb3' : Below w.heap.size wr w3 := Below.trans (by ((repeat (first | exact Below.refl _ _ | assumption | refine Below.alloc ?_ (by first | omega | (simp; done) | (simp; omega)) _ | refine Below.setCell ?_ (by first | omega | (simp; done) | (simp; omega)) _ | refine Below.drew ?_ | refine below_drewN ?_ _)); done)) hb3
      go_roundw
      case rel => exact ⟨k + 1, by omega, by go_num, by rw [HN.out]; exact hown3, hbel.trans hb3'⟩
      case measure => simp [intOf]; omega
    · rw [take_len_le (by omega)] at hown
      have hrd := hown.rd Th.enc_len (by rw [hml]; simp [maxLen]; omega)
      clear hml
      go_wp2_with fail
      go_ret
      exact ⟨_, rfl, hrd, hbel⟩

/-- a list's ranks do not fall -/
def RisesP (xs : List Th) : Prop := ∀ (i : Nat) (x y : Th), xs[i]? = some x → xs[i + 1]? = some y → x.rank ≤ y.rank
noncomputable def risesB (xs : List Th) : Bool := @decide (RisesP xs) (Classical.propDecidable _)
theorem risesB_true {xs : List Th} : risesB xs = true ↔ RisesP xs := by unfold risesB; exact @decide_eq_true_iff _ (Classical.propDecidable _)
theorem risesB_false {xs : List Th} : risesB xs = false ↔ ¬ RisesP xs := by unfold risesB; exact @decide_eq_false_iff_not _ (Classical.propDecidable _)

set_option maxHeartbeats 4000000 in
theorem rises_any {B : Nat} {v : Value} {xs : List Th} (w : World) (hx : Rd Th.enc 2 w B v xs) (hB : B ≤ w.heap.size) (hl : xs.length ≤ 100000) :
   Calls Try.prog 22 #[v] w fun e w' => e = .returned (.bool (risesB xs)) ∧ Below w.heap.size w w' := by
  have hx' := hx
  obtain ⟨A, cap, rfl, h1, h2, -⟩ := hx
  unfold maxLen at h2
  go_enter Try.func22, Try.ntmps22
  go_wp2_with fail
  go_loopw [3] (fun i wr => ∃ k : Nat, 1 ≤ k ∧ i = .int .i64 k ∧ k ≤ xs.length + 1 ∧ Hid (∀ (i : Nat) (x y : Th), i + 1 < k → xs[i]? = some x → xs[i + 1]? = some y → x.rank ≤ y.rank) ∧ Below w.heap.size w wr) (fun i _ => xs.length + 1 - (intOf i).toNat)
  case atStart => exact ⟨1, Nat.le_refl _, rfl, by omega, fun i x y h => absurd h (by omega), Below.refl _ _⟩
  case round =>
    obtain ⟨k, hk1, rfl, hk, hno, hbel⟩ := hrel
    by_cases hlt : k < xs.length
    · obtain ⟨j, rfl⟩ : ∃ j, k = j + 1 := ⟨k - 1, by omega⟩
      obtain ⟨X, hX⟩ := get_lt hlt
      obtain ⟨Y, hY⟩ := get_lt (show j < xs.length by omega)
      obtain ⟨b, off, rfl, hb, hc⟩ := (hx'.below hbel hB).at_ hX
      have c1 : wr.cell? ⟨b, off + (j + 1) * 2, none⟩ = some (.int .i64 X.rank) := hc _ _ hX 0 _ rfl
      have c2 : wr.cell? ⟨b, off + j * 2, none⟩ = some (.int .i64 Y.rank) := hc _ _ hY 0 _ rfl
      have HX := Lib.hid hX
      have HY := Lib.hid hY
      clear hc hX hY
      by_cases hr : X.rank < Y.rank
      · have hd : decide (X.rank < Y.rank) = true := decide_eq_true hr
        have hbad : Hid (risesB xs = false) := risesB_false.2 (fun h => by have := h j Y X HY.out HX.out; omega)
        go_wp2_with fail
        go_region
        go_wp2_with fail
        go_ret
        exact ⟨ret_bool hbad.out.symm, below_drewN hbel 1⟩
      · have hd : decide (X.rank < Y.rank) = false := decide_eq_false hr
        have hn : Hid (∀ (i : Nat) (x y : Th), i + 1 < j + 1 + 1 → xs[i]? = some x → xs[i + 1]? = some y → x.rank ≤ y.rank) := by
          intro i x y hi hx1 hy1
          by_cases e : i = j
          · subst e
            rw [HY.out] at hx1; rw [HX.out] at hy1
            cases hx1; cases hy1; omega
          · exact hno.out i x y (by omega) hx1 hy1
        go_wp2_with fail
        go_region
        go_wp2_with fail
        go_roundw
        case rel => exact ⟨j + 1 + 1, by omega, by go_num, by omega, hn, below_drewN hbel 1⟩
        case measure => simp [intOf]; omega
    · have hd : Hid (risesB xs = true) := risesB_true.2 (fun i x y hx1 hy1 => hno.out i x y (by have := (List.getElem?_eq_some_iff.1 hy1).1; omega) hx1 hy1)
      go_wp2_with fail
      go_ret
      exact ⟨ret_bool hd.out.symm, hbel⟩
end Go.Proofs.Yteiocnaneghggaa
