import Derived.Test.YtddnphidmpidcaaKW4
import Derived.Deep.RegionHeld3
namespace Go.Proofs.Ytddnphidmpidcaa
open Go Go.RowKit

instance instDecEqREnt : DecidableEq REnt := fun a b => by
  obtain ⟨h, k⟩ := a; obtain ⟨h', k'⟩ := b
  exact decidable_of_iff (h = h' ∧ k = k') (by simp)

/-- the places in xs of the entries whose key is κ -/
def plc (xs : List Ent) (κ : REnt) : List Int := (xs.zipIdx.filter (fun p => p.1.nrm = κ)).map (fun p => (p.2 : Int))
theorem plc_snoc (xs : List Ent) (x : Ent) (κ : REnt) : plc (xs ++ [x]) κ = plc xs κ ++ (if x.nrm = κ then [(xs.length : Int)] else []) := by
  unfold plc
  rw [List.zipIdx_append, List.filter_append, List.map_append]
  congr 1
  by_cases h : x.nrm = κ <;> simp [h]
theorem plc_step {xs : List Ent} {k : Nat} {X : Ent} (h : xs[k]? = some X) : plc (xs.take (k + 1)) X.nrm = plc (xs.take k) X.nrm ++ [(k : Int)] := by
  have hk : k < xs.length := (List.getElem?_eq_some_iff.1 h).1
  rw [take_snoc h, plc_snoc, if_pos rfl, List.length_take, Nat.min_eq_left (by omega)]
theorem plc_step_other {xs : List Ent} {k : Nat} {X : Ent} (h : xs[k]? = some X) {κ : REnt} (hne : κ ≠ X.nrm) : plc (xs.take (k + 1)) κ = plc (xs.take k) κ := by
  rw [take_snoc h, plc_snoc, if_neg (fun e => hne e.symm), List.append_nil]
theorem plc_len (xs : List Ent) (κ : REnt) : (plc xs κ).length ≤ xs.length := by
  unfold plc
  rw [List.length_map]
  exact Nat.le_trans (List.length_filter_le _ _) (by simp)

theorem Filled.ne {w : World} {base D M : Nat} {f : Value → Value} {g : REnt → List Int} {left : Int} (h : Filled w base D M f g left) : D ≠ M := by
  rintro rfl
  obtain ⟨es, clock, hb, _⟩ := h.map
  rw [h.dict] at hb
  cases hb

/-- One round of the filling: the row at κ has been appended to, and stored back. -/
theorem Filled.step {WR W w2 w3 : World} {base D M : Nat} {f : Value → Value} {g g' : REnt → List Int} {left : Int} {κ : REnt} {v1 : Value} {p : Int} (hF : Filled WR base D M f g left) (hB : Below WR.heap.size WR W) (hbase : base ≤ WR.heap.size)
    (hown1 : Own encI 1 3 w2 base v1 (g κ ++ [p])) (hO1 : Only (fun k => (f (nv κ)).ownBlock = some k) W w2) (hloc : v1.ownBlock = (f (nv κ)).ownBlock ∨ v1.ownBlock = some W.heap.size)
    (hm3 : MapIs Try.prog 27 w3 M (.slice none 0 0) (putAt f (nv κ) v1)) (hO3 : Only (fun b => b = M) w2 w3) (hg : g' κ = g κ ++ [p]) (hg' : ∀ κ', κ' ≠ κ → g' κ' = g κ') : Filled w3 base D M (putAt f (nv κ) v1) g' left := by
  have hDM := hF.ne
  have hDW : D < W.heap.size := by have := hF.dlt; have := hB.size; omega
  have hrow : ∀ κ b, (f (nv κ)).ownBlock = some b → base ≤ b ∧ b < WR.heap.size := fun κ b hb => Own.lt (hF.own κ) b hb
  have hDr : ¬ (f (nv κ)).ownBlock = some D := fun hb => by have := (hrow κ D hb).1; have := hF.dlt; omega
  have hother : ∀ κ', κ' ≠ κ → putAt f (nv κ) v1 (nv κ') = f (nv κ') := fun κ' hne => putAt_other f v1 (fun e => hne (nv_inj e))
  refine ⟨?_, hm3, hF.dlt, hF.mlt, fun κ' => ?_, ?_⟩
  · have h1 : w2.heap[D]? = W.heap[D]? := hO1.block D hDW hDr
    have h2 : w3.heap[D]? = w2.heap[D]? := hO3.block D (Nat.lt_of_lt_of_le hDW hO1.size) hDM
    rw [h2, h1, hB.block D (by have := hF.dlt; omega)]
    exact hF.dict
  · by_cases hk : κ' = κ
    · subst hk
      rw [putAt_same, hg]
      exact hown1.kept hO3 (fun b hb hbM => by have := (Own.lt hown1 b hb).1; have := hF.mlt; omega)
    · rw [hother κ' hk, hg' κ' hk]
      refine Own.kept (Own.kept ((hF.own κ').below hB) hO1 (fun b hb => hF.apart κ' κ hk b hb)) hO3 (fun b hb hbM => ?_)
      have := (hrow κ' b hb).1
      have := hF.mlt
      omega
  · intro κ1 κ2 hne b hb1 hb2
    have hv : ∀ κ', κ' ≠ κ → ∀ b, (f (nv κ')).ownBlock = some b → v1.ownBlock ≠ some b := by
      intro κ' hk b hb hv1
      rcases hloc with h | h
      · rw [h] at hv1
        exact hF.apart κ' κ hk b hb hv1
      · rw [h] at hv1
        cases hv1
        have := (hrow κ' _ hb).2
        have := hB.size
        omega
    by_cases h1 : κ1 = κ
    · subst h1
      rw [putAt_same] at hb1
      rw [hother κ2 (Ne.symm hne)] at hb2
      exact hv κ2 (Ne.symm hne) b hb2 hb1
    · rw [hother κ1 h1] at hb1
      by_cases h2 : κ2 = κ
      · subst h2
        rw [putAt_same] at hb2
        exact hv κ1 h1 b hb1 hb2
      · rw [hother κ2 h2] at hb2
        exact hF.apart κ1 κ2 hne b hb1 hb2

theorem zero28 (w : World) : (zeroValue 28).run Try.prog w = .ok (.slice none 0 0) w := by kernel_rfl

/-- what keys.New answers -/
def NewPost (xs : List Ent) (w : World) (e : Ending) (w' : World) : Prop :=
  ∃ D M f lo, e = .returned (.pointer (some ⟨D, 0, none⟩)) ∧ Dict w' lo w'.heap.size D M f (plc xs) xs.length ∧ w.heap.size ≤ D ∧ w.heap.size ≤ M ∧ lo ≤ w'.heap.size ∧ D ≠ M ∧ Below w.heap.size w w'

set_option maxHeartbeats 2000000 in
theorem new_any {B : Nat} {v : Value} {xs : List Ent} (w : World) (hx : Rd Ent.enc 3 w B v xs) (hB : B ≤ w.heap.size) (hl : xs.length ≤ 100) (hk : ∀ x ∈ xs, x.key.size ≤ maxLen) :
   Calls Try.prog 11 #[v] w (NewPost xs w) := by
  have hx' := hx
  obtain ⟨A, cap, rfl, h1, h2, -⟩ := hx
  unfold maxLen at h2
  have hmm := @run_makeMap Try.prog
  go_enter Try.func11, Try.ntmps11
  go_wp2
  go_loopw [13] (fun i wr => ∃ (k : Nat) (f : Value → Value), k ≤ xs.length ∧ i = .int .i64 k ∧ Filled wr (w.heap.size + 2) (w.heap.size + 1) w.heap.size f (plc (xs.take k)) xs.length ∧ Below w.heap.size w wr ∧ w.heap.size + 2 ≤ wr.heap.size) (fun i _ => xs.length - (intOf i).toNat)
  case atStart =>
    refine ⟨0, fun _ => .slice none 0 0, Nat.zero_le _, rfl, ⟨?_, ?_, by omega, by omega, fun κ => Own.nil _ _ _ _ _, fun κ κ' _ b hb => by simp [Value.ownBlock] at hb⟩, ?_, by simp⟩
    · simpa using heap_alloc_new (w.alloc (.map #[] 0)) (.cells #[.map (some w.heap.size), .int .i64 xs.length] 49)
    · exact (MapIs.made _ _ _ _).kept (Only.of_below ((Below.refl _ _).alloc (Nat.le_refl _) _) (fun _ => False)) id
    · ((repeat (first | exact Below.refl _ _ | assumption | refine Below.alloc ?_ (by first | omega | (simp; done) | (simp; omega)) _ | refine Below.setCell ?_ (by first | omega | (simp; done) | (simp; omega)) _ | refine Below.drew ?_ | refine below_drewN ?_ _)); done)
  case round =>
    obtain ⟨k, f, hkx, rfl, hfill, hbel, hsz⟩ := hrel
    by_cases hlt : k < xs.length
    · obtain ⟨X, hxk⟩ := get_lt hlt
      obtain ⟨b, off, rfl, hb, hc⟩ := (hx'.below hbel hB).at_ hxk
      have HX := Lib.hid hxk
      have hkey := hk X (List.mem_of_getElem? hxk)
      obtain ⟨ax, bx, sx⟩ := X
      have c0 : wr.cell? ⟨b, off + k * 3, none⟩ = some (.int .i64 ax) := hc k _ HX.out 0 _ rfl
      have c1 : wr.cell? ⟨b, off + k * 3 + 1, none⟩ = some (.bool bx) := hc k _ HX.out 1 _ rfl
      have c2 : wr.cell? ⟨b, off + k * 3 + 2, none⟩ = some (.string sx) := hc k _ HX.out 2 _ rfl
      clear hc hxk hx' hk
      go_wp2
      have hrowlt : ∀ b, (f (nv ⟨bx, nk bx sx⟩)).ownBlock = some b → w.heap.size + 2 ≤ b ∧ b < wr.heap.size := fun b hb => Own.lt (hfill.own _) b hb
      have hrowM : (f (nv ⟨bx, nk bx sx⟩)).ownBlock ≠ some w.heap.size := fun hb => by have := (Own.lt (hfill.own _) _ hb).1; omega
      have hfillR := hfill.below (w' := wr.alloc (.cells #[.int .i64 ax, .bool bx, .string sx] 27)) ((Below.refl _ _).alloc (Nat.le_refl _) _)
      have hX0 : (wr.alloc (.cells #[.int .i64 ax, .bool bx, .string sx] 27)).heap[wr.heap.size]? = some (.cells #[.int .i64 ax, .bool bx, .string sx] 27 (0, 0)) := heap_alloc_new _ _
      have hbelR : Below w.heap.size w (wr.alloc (.cells #[.int .i64 ax, .bool bx, .string sx] 27)) := by ((repeat (first | exact Below.refl _ _ | assumption | refine Below.alloc ?_ (by first | omega | (simp; done) | (simp; omega)) _ | refine Below.setCell ?_ (by first | omega | (simp; done) | (simp; omega)) _ | refine Below.drew ?_ | refine below_drewN ?_ _)); done)
      have hszR : (wr.alloc (.cells #[.int .i64 ax, .bool bx, .string sx] 27)).heap.size = wr.heap.size + 1 := by simp
      generalize wr.alloc (.cells #[.int .i64 ax, .bool bx, .string sx] 27) = WR at *
      have hd0 : WR.cell? ⟨w.heap.size + 1, 0, none⟩ = some (.map (some w.heap.size)) := by rw [cell_of_row _ _ 0 _ _ _ hfillR.dict]; rfl
      have hx0 : WR.cell? ⟨wr.heap.size, 0, none⟩ = some (.int .i64 ax) := by rw [cell_of_row _ _ 0 _ _ _ hX0]; rfl
      have hx1 : WR.cell? ⟨wr.heap.size, 1, none⟩ = some (.bool bx) := by rw [cell_of_row _ _ 1 _ _ _ hX0]; rfl
      have hx2 : WR.cell? ⟨wr.heap.size, 2, none⟩ = some (.string sx) := by rw [cell_of_row _ _ 2 _ _ _ hX0]; rfl
      have hpl : (plc (xs.take k) ⟨bx, nk bx sx⟩).length ≤ 100 := by have := plc_len (xs.take k) ⟨bx, nk bx sx⟩; simp at this; omega
      have hlt1 : wr.heap.size < WR.heap.size := by omega
      obtain ⟨l, hl27⟩ := keyOf_nv (κ := ⟨bx, nk bx sx⟩) (nk_size _ _ hkey)
      clear hX0 c0 c1 c2 hszR hfill
      have hlook : ∀ W : World, MapIs Try.prog 27 W w.heap.size (.slice none 0 0) f → Sem.run Try.prog (Instr.lookup 47 (.map (some w.heap.size)) (.agg #[.int .i64 0, .bool bx, .string (nk bx sx)]) false) W = .ok (f (nv ⟨bx, nk bx sx⟩)) W := fun W h => MapIs.lookup h L27 Try.underlying47 (zero28 W) hl27
      have HL := Lib.hid hlook
      clear hlook
      go_region_held3 (fun w' => w'.cell? ⟨w.heap.size + 1, 0, none⟩ = some (.map (some w.heap.size)) ∧ w'.cell? ⟨wr.heap.size, 0, none⟩ = some (.int .i64 ax) ∧ w'.cell? ⟨wr.heap.size, 1, none⟩ = some (.bool bx) ∧ w'.cell? ⟨wr.heap.size, 2, none⟩ = some (.string sx) ∧ WR.heap.size ≤ w'.heap.size)
        (first | (go_keep; done) | ((try go_split_ands); refine ⟨?_, ?_, ?_, ?_, ?_⟩ <;> first | (go_keep; done) | (rw [Below.cell hbs (by first | omega | (simp; done) | (simp; omega))]; assumption) | (refine Only.cell hO1 (by assumption) ?_; intro hbad; have hbad2 := hrowlt _ hbad; simp at hbad2 <;> omega) | (refine Only.cell hO3 (by assumption) ?_; first | (simp; done) | (simp; omega)) | exact Nat.le_trans (by assumption) hO1.size | exact Nat.le_trans (by assumption) hO3.size | exact Nat.le_trans (by assumption) hbs.size | (simp; omega) | fail) | fail)
        (first | (go_at_call 20; refine (same_any _ _ _ _).mono ?_; rintro e w1 ⟨rfl, hbs⟩; have hbz := hbs.size; (try simp at hbz); have hlk := HL.out w1 (MapIs.below (w := WR) hfillR.map (B := WR.heap.size) (by ((repeat (first | exact Below.refl _ _ | assumption | refine Below.alloc ?_ (by first | omega | (simp; done) | (simp; omega)) _ | refine Below.setCell ?_ (by first | omega | (simp; done) | (simp; omega)) _ | refine Below.drew ?_ | refine below_drewN ?_ _ | refine below_step (by assumption) ?_ (by first | omega | (simp; done) | (simp; omega)))); done)) hfillR.map.lt); have hlk2 := HL.out (w1.alloc (.cells #[.int .i64 k] 3)) (MapIs.below (w := WR) hfillR.map (B := WR.heap.size) (by ((repeat (first | exact Below.refl _ _ | assumption | refine Below.alloc ?_ (by first | omega | (simp; done) | (simp; omega)) _ | refine Below.setCell ?_ (by first | omega | (simp; done) | (simp; omega)) _ | refine Below.drew ?_ | refine below_drewN ?_ _ | refine below_step (by assumption) ?_ (by first | omega | (simp; done) | (simp; omega)))); done)) hfillR.map.lt)) | ((try go_split_ands); refine step_append_one _ (by rfl) _ _ _ (by rfl) encI encI_len encI_one T28 (w.heap.size + 2) _ _ (by rfl) (Own.below (w := WR) (hfillR.own ⟨bx, nk bx sx⟩) (by ((repeat (first | exact Below.refl _ _ | assumption | refine Below.alloc ?_ (by first | omega | (simp; done) | (simp; omega)) _ | refine Below.setCell ?_ (by first | omega | (simp; done) | (simp; omega)) _ | refine Below.drew ?_ | refine below_drewN ?_ _ | refine below_step (by assumption) ?_ (by first | omega | (simp; done) | (simp; omega)))); done))) (k : Int) _ #[.int .i64 k] (by rfl) (by rfl) (by ((repeat (first | exact heap_alloc_new _ _ | refine Eq.trans (Below.block (by assumption) _ (by first | omega | (simp; done) | (simp; omega))) ?_)); done)) (by omega) (by first | omega | (simp; done) | (simp; omega)) ?_; intro v1 w2 hown1 hb1 hO1 hloc1; have hm2 := MapIs.kept (MapIs.below (w := WR) hfillR.map (B := WR.heap.size) (by ((repeat (first | exact Below.refl _ _ | assumption | refine Below.alloc ?_ (by first | omega | (simp; done) | (simp; omega)) _ | refine Below.setCell ?_ (by first | omega | (simp; done) | (simp; omega)) _ | refine Below.drew ?_ | refine below_drewN ?_ _ | refine below_step (by assumption) ?_ (by first | omega | (simp; done) | (simp; omega)))); done)) hfillR.map.lt) hO1 (fun hbad => hrowM hbad); obtain ⟨w3, hrun3, hm3, hO3, hz3⟩ := MapIs.update hm2 L27 Try.underlying47 (key := .agg #[.int .i64 0, .bool bx, .string (nk bx sx)]) hl27 v1))
      all_goals
        have hst := Filled.step (κ := ⟨bx, nk bx sx⟩) (g' := plc (xs.take (k + 1))) hfillR (by ((repeat (first | exact Below.refl _ _ | assumption | refine Below.alloc ?_ (by first | omega | (simp; done) | (simp; omega)) _ | refine Below.setCell ?_ (by first | omega | (simp; done) | (simp; omega)) _ | refine Below.drew ?_ | refine below_drewN ?_ _ | refine below_step (by assumption) ?_ (by first | omega | (simp; done) | (simp; omega)))); done)) (by omega) hown1 hO1 hloc1 hm3 hO3 (plc_step HX.out) (fun κ' hne => plc_step_other HX.out hne)
        have hO : Below w.heap.size w w3 := by
          refine Below.trans (Below.trans hbelR (Below.mono (B := WR.heap.size) (w' := _) ?_ (by omega))) (Below.trans (hb1.mono (by omega)) (hO3.below (by have := hb1.size; have := hbelR.size; simp at *; omega) (fun b hb => by omega)))
          ((repeat (first | exact Below.refl _ _ | assumption | refine Below.alloc ?_ (by first | omega | (simp; done) | (simp; omega)) _ | refine Below.setCell ?_ (by first | omega | (simp; done) | (simp; omega)) _ | refine Below.drew ?_ | refine below_drewN ?_ _ | refine below_step (by assumption) ?_ (by first | omega | (simp; done) | (simp; omega)))); done)
        go_wp2
        go_roundw
        case rel => exact ⟨k + 1, _, by omega, by go_num, hst, hO, by omega⟩
        case measure => simp [intOf]; omega
    · have hend := hfill.toDict (fun κ => by have := plc_len (xs.take k) κ; unfold maxLen; simp at this; omega)
      rw [take_len_le (by omega)] at hend
      go_wp2
      go_ret
      exact ⟨_, _, f, _, rfl, hend, by omega, by omega, hsz, by omega, hbel⟩
end Go.Proofs.Ytddnphidmpidcaa
