import Derived.Test.YtddnphidmpidcaaKW5
namespace Go.Proofs.Ytddnphidmpidcaa
open Go Go.RowKit

set_option maxHeartbeats 400000 in
theorem take_nil (i : Int) (h : Bool) (s : ByteArray) (w : World) : Calls Try.prog 12 #[.pointer none, .agg #[.int .i64 i, .bool h, .string s]] w fun e w' => e = .returned (.tuple #[.int .i64 0, .bool false]) ∧ Below w.heap.size w w' := by
  go_enter Try.func12, Try.ntmps12
  go_wp2
  go_ret2
  exact ⟨rfl, by ((repeat (first | exact Below.refl _ _ | assumption | refine Below.alloc ?_ (by first | omega | (simp; done) | (simp; omega)) _ | refine Below.setCell ?_ (by first | omega | (simp; done) | (simp; omega)) _ | refine Below.drew ?_ | refine below_drewN ?_ _)); done)⟩

theorem Dict.ne {w : World} {lo hi D M : Nat} {f : Value → Value} {g : REnt → List Int} {left : Int} (h : Dict w lo hi D M f g left) : D ≠ M := by
  rintro rfl
  obtain ⟨es, clock, hb, _⟩ := h.map
  rw [h.dict] at hb
  cases hb

theorem und28 : Try.prog.underlying 28 = some (.slice (Try.prog.elem 28)) := by kernel_rfl
theorem elem28 : Try.prog.elem 28 = 3 := by kernel_rfl
theorem slice_one (b off n cap : Nat) (hn : n + 1 ≤ cap) (W : World) : Sem.run Try.prog (Instr.sliceAt 28 (.slice (some ⟨b, off, none⟩) (n + 1) cap) (some (.int .i64 1)) none none) W = .ok (.slice (if cap = 1 then some ⟨b, off, none⟩ else some ⟨b, off + 1, none⟩) n (cap - 1)) W := by
  obtain ⟨-, i0, z, hi, hz, hsize, -⟩ := T28
  rw [run_sliceAt_slice _ _ _ _ _ _ und28, run_slice_l _ _ _ _ _ und28 _ _ (by omega) (by omega), elem28]
  by_cases h : cap = 1
  · subst h
    obtain rfl : n = 0 := by omega
    simp [go_sem, sliced, sizeOf, typeInfo, hi, Result.andThen]
  · simp [go_sem, sliced, h, sizeOf, typeInfo, hi, Result.andThen, hsize]

/-- the row at one key, turned -/
def updG (g : REnt → List Int) (κ : REnt) (l : List Int) : REnt → List Int := fun κ' => if κ' = κ then l else g κ'

/-- what Take answers, and the dictionary behind it -/
def TakePost (w : World) (lo hi D M : Nat) (g : REnt → List Int) (left : Int) (κ : REnt) (e : Ending) (w' : World) : Prop :=
  ∃ f', e = .returned (.tuple #[.int .i64 ((g κ).headD 0), .bool (!(g κ).isEmpty)]) ∧ Dict w' lo hi D M f' (updG g κ (g κ).tail) (left - if (g κ).isEmpty then 0 else 1) ∧ Only (fun b => b = D ∨ b = M) w w'

set_option maxHeartbeats 1000000 in
theorem take_none {lo hi D M : Nat} {f : Value → Value} {g : REnt → List Int} {left : Int} (i : Int) (h : Bool) (s : ByteArray) (w : World) (hd : Dict w lo hi D M f g left) (hs : s.size ≤ maxLen) (hlo : lo ≤ w.heap.size) (hg : g ⟨h, nk h s⟩ = []) :
    Calls Try.prog 12 #[.pointer (some ⟨D, 0, none⟩), .agg #[.int .i64 i, .bool h, .string s]] w (TakePost w lo hi D M g left ⟨h, nk h s⟩) := by
  obtain ⟨l, hl27⟩ := keyOf_nv (κ := ⟨h, nk h s⟩) (nk_size _ _ hs)
  have hDlt := hd.dlt
  have hMlt := hd.mlt
  have hDM := hd.ne
  obtain ⟨A, cap, hfv, -⟩ := hd.rows ⟨h, nk h s⟩
  rw [hg] at hfv
  simp only [List.length_nil] at hfv
  go_enter Try.func12, Try.ntmps12
  go_wp2
  have hdR := hd.below (w' := w.alloc (.cells #[.int .i64 i, .bool h, .string s] 27)) ((Below.refl _ _).alloc (Nat.le_refl _) _)
  have hX0 : (w.alloc (.cells #[.int .i64 i, .bool h, .string s] 27)).heap[w.heap.size]? = some (.cells #[.int .i64 i, .bool h, .string s] 27 (0, 0)) := heap_alloc_new _ _
  have hbelR : Below w.heap.size w (w.alloc (.cells #[.int .i64 i, .bool h, .string s] 27)) := by ((repeat (first | exact Below.refl _ _ | assumption | refine Below.alloc ?_ (by first | omega | (simp; done) | (simp; omega)) _ | refine Below.setCell ?_ (by first | omega | (simp; done) | (simp; omega)) _ | refine Below.drew ?_ | refine below_drewN ?_ _)); done)
  have hszR : (w.alloc (.cells #[.int .i64 i, .bool h, .string s] 27)).heap.size = w.heap.size + 1 := by simp
  generalize w.alloc (.cells #[.int .i64 i, .bool h, .string s] 27) = WR at *
  have hd0 : WR.cell? ⟨D, 0, none⟩ = some (.map (some M)) := by rw [cell_of_row _ _ 0 _ _ _ hdR.dict]; rfl
  have hx0 : WR.cell? ⟨w.heap.size, 0, none⟩ = some (.int .i64 i) := by rw [cell_of_row _ _ 0 _ _ _ hX0]; rfl
  have hx1 : WR.cell? ⟨w.heap.size, 1, none⟩ = some (.bool h) := by rw [cell_of_row _ _ 1 _ _ _ hX0]; rfl
  have hx2 : WR.cell? ⟨w.heap.size, 2, none⟩ = some (.string s) := by rw [cell_of_row _ _ 2 _ _ _ hX0]; rfl
  have hlt1 : w.heap.size < WR.heap.size := by omega
  have e0 := Ext.cell (B := WR.heap.size) hd0 (by simp only []; omega)
  have e1 := Ext.cell (B := WR.heap.size) hx0 (by simp only []; omega)
  have e2 := Ext.cell (B := WR.heap.size) hx1 (by simp only []; omega)
  have e3 := Ext.cell (B := WR.heap.size) hx2 (by simp only []; omega)
  have hlk : ∀ u : Ext WR.heap.size WR, Sem.run Try.prog (Instr.lookup 47 (.map (some M)) (.agg #[.int .i64 0, .bool h, .string (nk h s)]) false) u.world = .ok (.slice A 0 cap) u.world := fun u => by rw [← hfv]; exact MapIs.lookup (hdR.map.below u.below hdR.map.lt) L27 Try.underlying47 (zero28 _) hl27
  clear hX0 hszR
  have HF := Lib.hid hfv
  have HG := Lib.hid hg
  clear hfv hg
  (refine wp_region_ext (WR.heap.size) (by kernel_rfl) (by kernel_rfl) ?_; (repeat (go_big_quiet_step ((go_at_call 20; exact Calls.ext_of (Nat.le_refl _) (same_any _ _ _ _))))); refine wpQuiet_nil ?_; intro wq hw1; obtain ⟨u0, hw2⟩ := hw1; have hwq := u0.below; rw [← hw2] at hwq; clear hw2 u0)
  go_wp2
  go_ret2
  refine ⟨f, by rw [HG.out]; rfl, ?_, Only.of_below (hbelR.trans (hwq.mono (by omega))) _⟩
  have h1 := hdR.below hwq
  rw [HG.out]
  have h2 : updG g ⟨h, nk h s⟩ [] = g := by funext κ'; unfold updG; split <;> simp_all [HG.out]
  simpa [h2] using h1

set_option maxHeartbeats 2000000 in
theorem take_some {lo hi D M : Nat} {f : Value → Value} {g : REnt → List Int} {left : Int} {p : Int} {ps : List Int} (i : Int) (h : Bool) (s : ByteArray) (w : World) (hd : Dict w lo hi D M f g left) (hs : s.size ≤ maxLen) (hlo : lo ≤ w.heap.size) (hg : g ⟨h, nk h s⟩ = p :: ps) (hl0 : -1000000 ≤ left) (hl1 : left ≤ 1000000) :
    Calls Try.prog 12 #[.pointer (some ⟨D, 0, none⟩), .agg #[.int .i64 i, .bool h, .string s]] w (TakePost w lo hi D M g left ⟨h, nk h s⟩) := by
  obtain ⟨l, hl27⟩ := keyOf_nv (κ := ⟨h, nk h s⟩) (nk_size _ _ hs)
  have hDlt := hd.dlt
  have hMlt := hd.mlt
  have hDM := hd.ne
  have hrow := hd.rows ⟨h, nk h s⟩
  obtain ⟨A, cap, hfv, -⟩ := hd.rows ⟨h, nk h s⟩
  rw [hg] at hfv
  rw [hg, hfv] at hrow
  simp only [List.length_cons] at hfv hrow
  obtain ⟨-, hcap, hmax, b, off, rfl, hlob, hlobh, hc, htail⟩ := hrow.tail
  have hc0 : w.cell? ⟨b, off, none⟩ = some (.int .i64 p) := by simpa using hc 0 _ rfl
  have hblt := World.block_lt_of_cell? w _ hc0
  simp only at hblt
  unfold maxLen at hmax
  go_enter Try.func12, Try.ntmps12
  go_wp2
  have hdR := hd.below (w' := w.alloc (.cells #[.int .i64 i, .bool h, .string s] 27)) ((Below.refl _ _).alloc (Nat.le_refl _) _)
  have hX0 : (w.alloc (.cells #[.int .i64 i, .bool h, .string s] 27)).heap[w.heap.size]? = some (.cells #[.int .i64 i, .bool h, .string s] 27 (0, 0)) := heap_alloc_new _ _
  have hbelR : Below w.heap.size w (w.alloc (.cells #[.int .i64 i, .bool h, .string s] 27)) := by ((repeat (first | exact Below.refl _ _ | assumption | refine Below.alloc ?_ (by first | omega | (simp; done) | (simp; omega)) _ | refine Below.setCell ?_ (by first | omega | (simp; done) | (simp; omega)) _ | refine Below.drew ?_ | refine below_drewN ?_ _)); done)
  have hszR : (w.alloc (.cells #[.int .i64 i, .bool h, .string s] 27)).heap.size = w.heap.size + 1 := by simp
  generalize w.alloc (.cells #[.int .i64 i, .bool h, .string s] 27) = WR at *
  have hd0 : WR.cell? ⟨D, 0, none⟩ = some (.map (some M)) := by rw [cell_of_row _ _ 0 _ _ _ hdR.dict]; rfl
  have hx0 : WR.cell? ⟨w.heap.size, 0, none⟩ = some (.int .i64 i) := by rw [cell_of_row _ _ 0 _ _ _ hX0]; rfl
  have hx1 : WR.cell? ⟨w.heap.size, 1, none⟩ = some (.bool h) := by rw [cell_of_row _ _ 1 _ _ _ hX0]; rfl
  have hx2 : WR.cell? ⟨w.heap.size, 2, none⟩ = some (.string s) := by rw [cell_of_row _ _ 2 _ _ _ hX0]; rfl
  have hlt1 : w.heap.size < WR.heap.size := by omega
  have e0 := Ext.cell (B := WR.heap.size) hd0 (by simp only []; omega)
  have e1 := Ext.cell (B := WR.heap.size) hx0 (by simp only []; omega)
  have e2 := Ext.cell (B := WR.heap.size) hx1 (by simp only []; omega)
  have e3 := Ext.cell (B := WR.heap.size) hx2 (by simp only []; omega)
  have hlk : ∀ u : Ext WR.heap.size WR, Sem.run Try.prog (Instr.lookup 47 (.map (some M)) (.agg #[.int .i64 0, .bool h, .string (nk h s)]) false) u.world = .ok (.slice (some ⟨b, off, none⟩) (ps.length + 1) cap) u.world := fun u => by rw [← hfv]; exact MapIs.lookup (hdR.map.below u.below hdR.map.lt) L27 Try.underlying47 (zero28 _) hl27
  clear hX0 hszR
  have HF := Lib.hid hfv
  have HG := Lib.hid hg
  clear hfv hg hc hrow
  have hsl := slice_one b off ps.length cap hcap
  generalize (if cap = 1 then some (⟨b, off, none⟩ : Addr) else some ⟨b, off + 1, none⟩) = A1 at htail hsl
  (refine wp_region_ext (WR.heap.size) (by kernel_rfl) (by kernel_rfl) ?_; (repeat (go_big_quiet_step ((go_at_call 20; exact Calls.ext_of (Nat.le_refl _) (same_any _ _ _ _))))); refine wpQuiet_nil ?_; intro wq hw1; obtain ⟨u0, hw2⟩ := hw1; have hwq := u0.below; rw [← hw2] at hwq; clear hw2 u0)
  go_wp2
  have hdQ := hdR.below hwq
  have q0 := Below.cell_some hwq hd0 (by simp only []; omega)
  have q1 := Below.cell_some hwq hx0 (by simp only []; omega)
  have q2 := Below.cell_some hwq hx1 (by simp only []; omega)
  have q3 := Below.cell_some hwq hx2 (by simp only []; omega)
  have hqs := hwq.size
  clear e0 e1 e2 e3 hlk hd0 hx0 hx1 hx2
  go_region_held3 (fun w' => w'.cell? ⟨D, 0, none⟩ = some (.map (some M)) ∧ w'.cell? ⟨w.heap.size, 0, none⟩ = some (.int .i64 i) ∧ w'.cell? ⟨w.heap.size, 1, none⟩ = some (.bool h) ∧ w'.cell? ⟨w.heap.size, 2, none⟩ = some (.string s) ∧ WR.heap.size ≤ w'.heap.size)
    (first | (go_keep; done) | ((try go_split_ands); refine ⟨?_, ?_, ?_, ?_, ?_⟩ <;> first | (go_keep; done) | (rw [Below.cell hbs (by first | omega | (simp; done) | (simp; omega))]; assumption) | (refine Only.cell hO3 (by assumption) ?_; first | (simp; done) | (simp; omega)) | exact Nat.le_trans (by assumption) hO3.size | exact Nat.le_trans (by assumption) hbs.size | (simp; omega) | fail) | fail)
    (first | (go_at_call 20; refine (same_any _ _ _ _).mono ?_; rintro e w1 ⟨rfl, hbs⟩; have hbz := hbs.size; (try simp at hbz); obtain ⟨w3, hrun3, hm3, hO3, hz3⟩ := MapIs.update (MapIs.below (w := wq) (w' := w1) hdQ.map (B := wq.heap.size) (by ((repeat (first | exact Below.refl _ _ | assumption | refine Below.alloc ?_ (by first | omega | (simp; done) | (simp; omega)) _ | refine Below.setCell ?_ (by first | omega | (simp; done) | (simp; omega)) _ | refine Below.drew ?_ | refine below_drewN ?_ _ | refine below_step (by assumption) ?_ (by first | omega | (simp; done) | (simp; omega)))); done)) hdQ.map.lt) L27 Try.underlying47 (key := .agg #[.int .i64 0, .bool h, .string (nk h s)]) hl27 (.slice A1 ps.length (cap - 1))) | fail)
  have hB1 : Below w.heap.size w w1 := hbelR.trans ((hwq.mono (by omega)).trans (Below.mono (B := wq.heap.size) (by ((repeat (first | exact Below.refl _ _ | assumption | refine Below.alloc ?_ (by first | omega | (simp; done) | (simp; omega)) _ | refine Below.setCell ?_ (by first | omega | (simp; done) | (simp; omega)) _ | refine Below.drew ?_ | refine below_drewN ?_ _ | refine below_step (by assumption) ?_ (by first | omega | (simp; done) | (simp; omega)))); done)) (by omega)))
  have hO : Only (fun b => b = D ∨ b = M) w w3 := (Only.of_below hB1 _).trans (hO3.mono (fun _ _ h => Or.inr h))
  have hD3 : w3.heap[D]? = some (.cells #[.map (some M), .int .i64 left] 49 (0, 0)) := by
    rw [hO3.block D (by have := hB1.size; omega) hDM, hB1.block D (by omega)]; exact hd.dict
  have hl3 : w3.cell? ⟨D, 1, none⟩ = some (.int .i64 left) := by rw [cell_of_row _ _ 1 _ _ _ hD3]; rfl
  have hf3 : w3.frozen? ⟨D, 1, none⟩ = false := frozen_of_row _ _ _ _ _ hD3
  have hc3 : w3.cell? ⟨b, off, none⟩ = some (.int .i64 p) := hO.cell hc0 (by simp only []; omega)
  have hbD : ¬ D = b := by omega
  go_wp2
  go_ret2
  have hO4 : Only (fun b => b = D) w3 (w3.setCell ⟨D, 1, none⟩ (.int .i64 (left - 1))) := ⟨rfl, rfl, rfl, by simp, fun k _ hk => Below.heap_setCell _ _ _ _ hk⟩
  have hOall : Only (fun b => b = D ∨ b = M) w (w3.setCell ⟨D, 1, none⟩ (.int .i64 (left - 1))) := hO.trans (hO4.mono (fun _ _ h => Or.inl h))
  refine ⟨putAt f (nv ⟨h, nk h s⟩) (.slice A1 ps.length (cap - 1)), by rw [HG.out]; rfl, ⟨?_, hm3.kept hO4 (fun e => hDM e.symm), hDlt, hMlt, fun κ' => ?_⟩, hOall⟩
  · have h1 := heap_setCell_same w3 D 1 #[.map (some M), .int .i64 left] 49 (.int .i64 (left - 1)) hD3
    rw [h1, HG.out]
    simp
  · by_cases hk : κ' = ⟨h, nk h s⟩
    · subst hk
      rw [putAt_same, HG.out]
      unfold updG
      rw [if_pos rfl]
      exact htail.only hOall (fun k hk hk2 => by omega)
    · rw [putAt_other _ _ (fun e => hk (nv_inj e))]
      unfold updG
      rw [if_neg hk]
      exact (hd.rows κ').only hOall (fun k hk hk2 => by omega)

/-- A dictionary, its map's values left open. -/
def DictE (w : World) (lo hi D M : Nat) (g : REnt → List Int) (left : Int) : Prop := ∃ f, Dict w lo hi D M f g left
theorem updG_self {g : REnt → List Int} {κ : REnt} {l : List Int} (h : g κ = l) : updG g κ l = g := by
  funext κ'; unfold updG; split
  · rename_i h1; rw [h1, h]
  · rfl
theorem take_no {lo hi D M : Nat} {g : REnt → List Int} {left : Int} (X : Ent) (w : World) (hd : DictE w lo hi D M g left) (hs : X.key.size ≤ maxLen) (hlo : lo ≤ w.heap.size) (hg : g X.nrm = []) :
    Calls Try.prog 12 #[.pointer (some ⟨D, 0, none⟩), .agg #[.int .i64 X.at_, .bool X.has, .string X.key]] w fun e w' => e = .returned (.tuple #[.int .i64 0, .bool false]) ∧ DictE w' lo hi D M g left ∧ Only (fun b => b = D ∨ b = M) w w' := by
  obtain ⟨f, hd⟩ := hd
  refine (take_none X.at_ X.has X.key w hd hs hlo hg).mono ?_
  rintro e w' ⟨f', rfl, h1, h2⟩
  have hg' : g ⟨X.has, nk X.has X.key⟩ = [] := hg
  rw [hg'] at h1 ⊢
  rw [show ([] : List Int).tail = [] from rfl, updG_self hg'] at h1
  exact ⟨rfl, ⟨f', by simpa using h1⟩, h2⟩
theorem take_yes {lo hi D M : Nat} {g : REnt → List Int} {left : Int} {p : Int} {ps : List Int} (X : Ent) (w : World) (hd : DictE w lo hi D M g left) (hs : X.key.size ≤ maxLen) (hlo : lo ≤ w.heap.size) (hg : g X.nrm = p :: ps) (hl0 : -1000000 ≤ left) (hl1 : left ≤ 1000000) :
    Calls Try.prog 12 #[.pointer (some ⟨D, 0, none⟩), .agg #[.int .i64 X.at_, .bool X.has, .string X.key]] w fun e w' => e = .returned (.tuple #[.int .i64 p, .bool true]) ∧ DictE w' lo hi D M (updG g X.nrm ps) (left - 1) ∧ Only (fun b => b = D ∨ b = M) w w' := by
  obtain ⟨f, hd⟩ := hd
  refine (take_some X.at_ X.has X.key w hd hs hlo hg hl0 hl1).mono ?_
  rintro e w' ⟨f', rfl, h1, h2⟩
  have hg' : g ⟨X.has, nk X.has X.key⟩ = p :: ps := hg
  rw [hg'] at h1 ⊢
  exact ⟨rfl, ⟨f', h1⟩, h2⟩
theorem DictE.below {w w' : World} {lo hi D M : Nat} {g : REnt → List Int} {left : Int} (h : DictE w lo hi D M g left) (hO : Below w.heap.size w w') : DictE w' lo hi D M g left := by
  obtain ⟨f, h⟩ := h; exact ⟨f, h.below hO⟩
theorem DictE.only {w w' : World} {lo hi D M : Nat} {g : REnt → List Int} {left : Int} {S : Nat → Prop} (h : DictE w lo hi D M g left) (hO : Only S w w') (hS : ∀ k, S k → hi ≤ k) (hlo : lo ≤ hi) : DictE w' lo hi D M g left := by
  obtain ⟨f, h⟩ := h; exact ⟨f, h.only hO hS hlo⟩
end Go.Proofs.Ytddnphidmpidcaa
