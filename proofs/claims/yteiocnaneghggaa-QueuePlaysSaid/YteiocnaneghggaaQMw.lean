import Derived.Test.YteiocnaneghggaaQM2
import Derived.WalkMore
import Derived.Deep.RegionHeld3
namespace Go.Proofs.Yteiocnaneghggaa
open Go Go.RowKit

/-- the i-th list -/
def nth (xss : List (List Th)) (i : Nat) : List Th := xss.getD i []
theorem nth_get {xss : List (List Th)} {i : Nat} {xs : List Th} (h : xss[i]? = some xs) : nth xss i = xs := by unfold nth; rw [List.getD_eq_getElem?_getD, h]; rfl
/-- the first k lists -/
def upto (xss : List (List Th)) (k i : Nat) : List Th := if i < k then nth xss i else []
theorem upto_succ (xss : List (List Th)) (k : Nat) : upto xss (k + 1) = upd (upto xss k) k (nth xss k) := by
  funext i
  unfold upto upd
  by_cases h : i = k
  · subst h; rw [if_pos (by omega), if_pos rfl]
  · rw [if_neg h]
    by_cases h2 : i < k
    · show _ = (if i < k then nth xss i else [])
      rw [if_pos (by omega), if_pos h2]
    · show _ = (if i < k then nth xss i else [])
      rw [if_neg (by omega), if_neg h2]
theorem upto_nil (xss : List (List Th)) (k : Nat) : upd (upto xss k) k [] = upto xss k := by
  funext i
  unfold upto upd
  by_cases h : i = k
  · subst h; rw [if_pos rfl, if_neg (by omega)]
  · rw [if_neg h]

theorem allOf_nth (xss : List (List Th)) : allOf xss.length (nth xss) = xss.flatten := by
  unfold allOf
  rw [List.flatMap_def]
  refine congrArg List.flatten ?_
  apply List.ext_getElem?
  intro i
  rw [List.getElem?_map]
  by_cases h : i < xss.length
  · obtain ⟨xs, hxs⟩ := get_lt h
    rw [List.getElem?_range h, hxs, Option.map_some, nth_get hxs]
  · rw [List.getElem?_eq_none (by simpa using h), List.getElem?_eq_none (by omega)]
    rfl
theorem merging_start {xss : List (List Th)} {c : Nat} {w2 : World} {B : Nat} {S : List Hd.It} (hL : Lined xss.length (nth xss)) (hH : Heads xss.length (nth xss) S) (hR : ∀ t ∈ S, Rd Th.enc 2 w2 B (.slice t.x.ra t.x.rn t.x.rc) ((nth xss t.x.list.toNat).drop 1)) (hS : S.length ≤ xss.length) : Merging xss c w2 B S (nth xss) [] :=
  ⟨hH, hL, hR, by rw [List.nil_append, allOf_nth], List.Pairwise.nil, fun o h => absurd h (by simp), hS⟩

theorem Hd.QI.tight {w : World} {q c : Nat} {S : List Hd.It} {no : Nat} {F : Nat → Prop} (h : Hd.QI w q c S no F) : Hd.QI w q c S no (fun k => F k ∧ k < w.heap.size) := by
  obtain ⟨hh, v, L, h1, h2, h3, h4, h5, h6, fq, fh, fv, fc, nc⟩ := h.ex
  exact ⟨hh, v, L, h1, h2, h3, h4, h5, h6, ⟨fq, (Array.getElem?_eq_some_iff.1 h1).1⟩, ⟨fh, h2.lt⟩, fun k hk => ⟨fv k hk, (h2.2.1.lt k hk).2⟩, fc, fun e => nc e.1⟩

/-- behind 'h, e := q.Take()' and 'out = append(out, h.x)' -/
theorem out_step {w1 w2 w3 wb : World} {q c no : Nat} {S' : List Hd.It} {F : Nat → Prop} {ov v5 : Value} {out : List Th} {x : Th} {hl : Int} {hs : Value}
    (Q3 : Hd.QI w3 q c S' no F) (hb23 : Below w1.heap.size w2 w3) (hFc : ∀ j, F j → w1.heap.size ≤ j) (hFo : ∀ j, F j → ov.ownBlock ≠ some j) (hFl : ∀ j, F j → j < w3.heap.size) (hco : ov.ownBlock ≠ some c) (hown3 : Own Th.enc 2 24 w3 w1.heap.size ov out) (hz : w1.heap.size ≤ w3.heap.size)
    (hO5 : Only (fun k => ov.ownBlock = some k) ((w3.alloc (.cells #[.int .i64 x.rank, .int .i64 x.id, .int .i64 hl, hs] 93)).alloc (.cells #[.int .i64 x.rank, .int .i64 x.id] 24)) wb)
    (hb5 : Below w1.heap.size ((w3.alloc (.cells #[.int .i64 x.rank, .int .i64 x.id, .int .i64 hl, hs] 93)).alloc (.cells #[.int .i64 x.rank, .int .i64 x.id] 24)) wb)
    (hloc : v5.ownBlock = ov.ownBlock ∨ v5.ownBlock = some ((w3.alloc (.cells #[.int .i64 x.rank, .int .i64 x.id, .int .i64 hl, hs] 93)).alloc (.cells #[.int .i64 x.rank, .int .i64 x.id] 24)).heap.size) :
    wb.heap[w3.heap.size]? = some (.cells #[.int .i64 x.rank, .int .i64 x.id, .int .i64 hl, hs] 93 (0, 0)) ∧ w3.heap.size < wb.heap.size ∧
    Hid (Hd.QI wb q c S' no F ∧ Below w1.heap.size w2 wb ∧ ∀ j, F j → w1.heap.size ≤ j ∧ j < wb.heap.size ∧ v5.ownBlock ≠ some j) := by
  have hz5 := hO5.size
  simp only [heap_size_alloc'] at hz5
  have hb34 : Below w3.heap.size w3 ((w3.alloc (.cells #[.int .i64 x.rank, .int .i64 x.id, .int .i64 hl, hs] 93)).alloc (.cells #[.int .i64 x.rank, .int .i64 x.id] 24)) := by ((repeat (first | exact Below.refl _ _ | assumption | refine Below.alloc ?_ (by first | omega | (simp; done) | (simp; omega)) _ | refine Below.setCell ?_ (by first | omega | (simp; done) | (simp; omega)) _ | refine Below.drew ?_ | refine below_drewN ?_ _)); done)
  refine ⟨?_, by omega, ⟨(Q3.below hb34).only hO5 (fun j hj e => hFo j hj e) hco, hb23.trans ((hb34.mono hz).trans hb5), fun j hj => ⟨hFc j hj, by have := hFl j hj; omega, fun e => ?_⟩⟩⟩
  · refine (hO5.block w3.heap.size (by simp; omega) (fun e => ?_)).trans ((heap_alloc_old _ _ (by simp)).trans (heap_alloc_new _ _))
    have := (hown3.lt _ e).2
    omega
  · rcases hloc with h | h
    · exact hFo j hj (h ▸ e)
    · rw [h] at e
      have := hFl j hj
      cases e
      simp only [heap_size_alloc'] at this
      omega

/-- one put: its contract, for a head of list i with the rest in the slice sA -/
theorem slice_1 (b off n cap : Nat) (h1 : 1 ≤ n) (h2 : n ≤ cap) : ∃ sA, (∀ W, Sem.run Try.prog (Instr.sliceAt 41 (.slice (some ⟨b, off, none⟩) n cap) (some (.int .i64 1)) none none) W = .ok (.slice sA (n - 1) (cap - 1)) W) ∧ ∀ (w : World) (B : Nat) (xs : List Th), Rd Th.enc 2 w B (.slice (some ⟨b, off, none⟩) n cap) xs → Rd Th.enc 2 w B (.slice sA (n - 1) (cap - 1)) (xs.drop 1) := by
  refine ⟨_, fun W => slice_from b off n 1 cap h1 h2 W, fun w B xs h => h.drop h1 h2⟩

set_option maxHeartbeats 8000000 in
set_option maxRecDepth 100000 in
theorem merge_any {v : Value} {xss : List (List Th)} (w : World) (hx : RdLL w w.heap.size v xss) (hn : xss.length ≤ 20) (hl : ∀ xs ∈ xss, xs.length ≤ 1000) (hsum : xss.flatten.length ≤ 1000) (hLined : fallsB xss = false → Lined xss.length (nth xss)) :
   Calls Try.prog 23 #[.func (.func 17) #[] #[], v] w fun e w' => ((fallsB xss = true ∧ e = .returned (.tuple #[.slice none 0 0, .int .i64 14])) ∨ (fallsB xss = false ∧ ∃ u out, e = .returned (.tuple #[u, .int .i64 0]) ∧ Rd Th.enc 2 w' w'.heap.size u out ∧ out.Perm xss.flatten ∧ out.Pairwise KL)) ∧ Below w.heap.size w w' := by
  obtain ⟨W0, hW0⟩ : ∃ W0 : World, W0 = w.alloc (.cells #[.func (.func 17) #[] #[]] 40) := ⟨_, rfl⟩
  have hb0 : Below w.heap.size w W0 := by rw [hW0]; ((repeat (first | exact Below.refl _ _ | assumption | refine Below.alloc ?_ (by first | omega | (simp; done) | (simp; omega)) _ | refine Below.setCell ?_ (by first | omega | (simp; done) | (simp; omega)) _ | refine Below.drew ?_ | refine below_drewN ?_ _)); done)
  have hz0 : W0.heap.size = w.heap.size + 1 := by rw [hW0]; simp
  have hC : Hd.OrdC W0 w.heap.size := by unfold Hd.OrdC; rw [hW0]; exact heap_alloc_new _ _
  have c0 : W0.cell? ⟨w.heap.size, 0, none⟩ = some (.func (.func 17) #[] #[]) := by rw [cell_of_row _ _ _ _ _ _ hC]; rfl
  have hx0 := hx.below hb0 (Nat.le_refl _)
  have hnil := fn_some 17 #[] #[] W0
  subst hW0
  go_enter Try.func23, Try.ntmps23
  go_wp2_with fail
  go_step3
  go_wp2_with fail
  refine (contains_any _ hC hx0 (by omega) (fun xs hm => Nat.le_trans (hl xs hm) (by omega))).mono ?_
  rintro e w1 ⟨rfl, hb1⟩
  have hz1 := hb1.size
  have hC1 := hC.below hb1
  have hb01 := hb0.trans (hb1.mono (by omega))
  cases hfl : fallsB xss
  · have HLN := Lib.hid (hLined hfl)
    have HFL := Lib.hid hfl
    clear hfl hLined
    have hx1 := hx0.below hb1 (by omega)
    have e40 := Hd.fn_some 40 #[] #[.pointer (some ⟨w.heap.size, 0, none⟩)] w1
    go_wp2_with fail
    have hnew := Hd.new_any w.heap.size w1 hC1
    unfold Hd.ovT at hnew
    refine hnew.mono ?_
    rintro e w2 ⟨q, hq, rfl, Q, hb2⟩
    have hz2 := hb2.size
    have hx2 := hx1.below hb2 (by omega)
    have hb02 := hb01.trans (hb2.mono (by omega))
    obtain ⟨vs, hv, hlen, hel⟩ := hx2
    have HVL := Lib.hid hlen
    have hvn : vs.length ≤ 20 := by omega
    clear hlen hx1 hx0 hx hnew e40 hnil c0
    have hv' := hv
    obtain ⟨A, cap, rfl, h1, h2, -⟩ := hv
    unfold maxLen at h2
    have hwc : w.heap.size < w1.heap.size := by omega
    go_wp2_with fail
    go_loopw [8, 9, 25] (fun _ _ i wr => ∃ (k no : Nat) (S : List Hd.It) (F : Nat → Prop), k ≤ vs.length ∧ i = .int .i64 k ∧ Hd.QI wr q w.heap.size S no F ∧ no ≤ k ∧ S.length ≤ k ∧ (∀ j, F j → w1.heap.size ≤ j) ∧ Hid (Heads xss.length (upto xss k) S) ∧ Hid (∀ t ∈ S, Rd Th.enc 2 w2 w.heap.size (.slice t.x.ra t.x.rn t.x.rc) ((nth xss t.x.list.toNat).drop 1)) ∧ Below w1.heap.size w2 wr) (fun _ _ i _ => vs.length - (intOf i).toNat)
    case atStart =>
      refine ⟨0, 0, [], _, Nat.zero_le _, rfl, Q, Nat.le_refl _, Nat.le_refl _, fun j h => h, ⟨fun t h => absurd h (by simp), fun i _ hne => ?_, List.nodup_nil⟩, fun t h => absurd h (by simp), Below.refl _ _⟩
      exact absurd rfl (by unfold upto at hne; rw [if_neg (by omega)] at hne; exact hne)
    case round =>
      obtain ⟨k, no, S, F, hk, rfl, Q, hno, hSl, hF, hH, hR, hbel⟩ := hrel
      have hsz := hbel.size
      by_cases hlt : k < vs.length
      · obtain ⟨U, hU⟩ := get_lt hlt
        have hkx : k < xss.length := by rw [← HVL.out]; exact hlt
        obtain ⟨xs, hxs⟩ := get_lt hkx
        have hnx := nth_get hxs
        have hxl := hl xs (List.mem_of_getElem? hxs)
        have hrx := hel k U xs hU hxs
        obtain ⟨bv, offv, rfl, hbv, hcv⟩ := (hv'.below hbel (by omega)).at_ hU
        have cU : wr.cell? ⟨bv, offv + k, none⟩ = some U := by simpa using hcv k _ hU 0 _ rfl
        clear hcv
        have hrx' := hrx
        obtain ⟨AU, capU, rfl, hu1, hu2, -⟩ := hrx
        unfold maxLen at hu2
        have HKX := Lib.hid hkx
        cases hxc : xs with
        | nil =>
          subst hxc
          have hH2 : Hid (Heads xss.length (upto xss (k + 1)) S) := by
            unfold Hid
            rw [upto_succ, hnx, upto_nil]
            exact hH.out
          clear hxs hU hnx hrx' hkx
          go_wp2_with fail
          go_roundw
          case rel => exact ⟨k + 1, no, S, F, by omega, by go_num, Q, by omega, by omega, hF, hH2, hR, hbel⟩
          case measure => simp [intOf]; omega
        | cons x0 rs =>
          subst hxc
          obtain ⟨b, off, rfl, hbb, hcb⟩ := hrx'.at_ (k := 0) (x := x0) rfl
          obtain ⟨sA, hs1, hs2⟩ := slice_1 b off (x0 :: rs).length capU (by simp) hu1
          have hdrop := hs2 _ _ _ hrx'
          have n1 : (x0 :: rs).length - 1 = rs.length := by simp
          have n2 : (x0 :: rs).length = rs.length + 1 := by simp
          rw [n1] at hs1 hdrop
          rw [n2] at hs1 hu1 cU hxl
          have b0 : w2.cell? ⟨b, off, none⟩ = some (.int .i64 x0.rank) := by simpa using hcb 0 _ rfl 0 _ rfl
          have b1 : w2.cell? ⟨b, off + 1, none⟩ = some (.int .i64 x0.id) := by simpa using hcb 0 _ rfl 1 _ rfl
          obtain ⟨hd, hhd⟩ : ∃ hd : Hd.Th, hd = ⟨x0.rank, x0.id, (k : Int), sA, rs.length, capU - 1, by omega, by omega⟩ := ⟨_, rfl⟩
          have hput : ∀ wa, Below wr.heap.size wr wa → Calls Try.prog 41 #[.pointer (some ⟨q, 0, none⟩), hd.val] wa fun e w' => e = .returned (.int .i64 0) ∧ Hd.QI w' q w.heap.size (S ++ [⟨hd, no⟩]) (no + 1) (fun j => F j ∨ wa.heap.size ≤ j) ∧ Only F wa w' :=
            fun wa hb => Hd.put_any (Hd.to_H _) (Q.below hb) hd (by omega) (by omega)
          have hval : hd.val = .agg #[.int .i64 x0.rank, .int .i64 x0.id, .int .i64 (k : Int), .slice sA rs.length (capU - 1)] := by rw [hhd]; rfl
          rw [hval] at hput
          have KEEP0 : ∀ wa, Below wr.heap.size wr wa → wa.cell? ⟨b, off, none⟩ = some (.int .i64 x0.rank) ∧ wa.cell? ⟨b, off + 1, none⟩ = some (.int .i64 x0.id) := by
            intro wa hb
            have h0 := hbel.trans (hb.mono (by omega))
            exact ⟨Below.cell_some h0 b0 (show b < w1.heap.size by omega), Below.cell_some h0 b1 (show b < w1.heap.size by omega)⟩
          have hFB : ∀ wa wb, Below wr.heap.size wr wa → Only F wa wb → Below w1.heap.size w2 wb := by
            intro wa wb hb hO
            have := hb.size
            exact (hbel.trans (hb.mono (by omega))).trans (hO.below (by omega) (fun j hj hf => by have := hF j hf; omega))
          have KEEP1 : ∀ wa wb, Below wr.heap.size wr wa → Only F wa wb → wb.cell? ⟨b, off, none⟩ = some (.int .i64 x0.rank) ∧ wb.cell? ⟨b, off + 1, none⟩ = some (.int .i64 x0.id) := by
            intro wa wb hb hO
            have h0 := hFB wa wb hb hO
            exact ⟨Below.cell_some h0 b0 (show b < w1.heap.size by omega), Below.cell_some h0 b1 (show b < w1.heap.size by omega)⟩
          have FIN : ∀ wa wb, Below wr.heap.size wr wa → Hd.QI wb q w.heap.size (S ++ [⟨hd, no⟩]) (no + 1) (fun j => F j ∨ wa.heap.size ≤ j) → Only F wa wb → Hid (∃ F2 : Nat → Prop, Hd.QI wb q w.heap.size (S ++ [⟨hd, no⟩]) (no + 1) F2 ∧ (∀ j, F2 j → w1.heap.size ≤ j) ∧ Below w1.heap.size w2 wb) := by
            intro wa wb hb Q2 hO
            have := hb.size
            exact ⟨_, Q2, fun j hj => by rcases hj with h | h; exact hF j h; omega, hFB wa wb hb hO⟩
          have hH2 : Hid (Heads xss.length (upto xss (k + 1)) (S ++ [⟨hd, no⟩])) := by
            unfold Hid
            rw [upto_succ, hnx]
            have := heads_put (i := k) (rem := upto xss k) (by rw [upto_nil]; exact hH.out) (t := ⟨hd, no⟩) (rs := rs) hkx (by rw [hhd])
            rw [hhd] at this ⊢
            exact this
          have hR2 : Hid (∀ t ∈ S ++ [(⟨hd, no⟩ : Hd.It)], Rd Th.enc 2 w2 w.heap.size (.slice t.x.ra t.x.rn t.x.rc) ((nth xss t.x.list.toNat).drop 1)) := by
            intro t ht
            rcases List.mem_append.1 ht with h | h
            · exact hR.out t h
            · rw [List.mem_singleton] at h
              subst h
              rw [hhd]
              simp only [Int.toNat_natCast, hnx]
              exact hdrop
          have hSl2 : (S ++ [(⟨hd, no⟩ : Hd.It)]).length = S.length + 1 := by simp
          have bA := (KEEP0 wr (Below.refl _ _)).1
          have bB := (KEEP0 wr (Below.refl _ _)).2
          clear hH hR hcb hxs hU hnx hrx' hkx hs2 hdrop b0 b1 hval hhd n1 n2 hFB
          go_wp2_with fail
          go_region_held3 (fun w' => w'.cell? ⟨b, off, none⟩ = some (.int .i64 x0.rank) ∧ w'.cell? ⟨b, off + 1, none⟩ = some (.int .i64 x0.id))
            (first | (refine KEEP0 _ ?_; ((repeat (first | exact Below.refl _ _ | assumption | refine Below.alloc ?_ (by first | omega | (simp; done) | (simp; omega)) _ | refine Below.setCell ?_ (by first | omega | (simp; done) | (simp; omega)) _ | refine Below.drew ?_ | refine below_drewN ?_ _)); done)) | (refine KEEP1 _ _ ?_ hO1; ((repeat (first | exact Below.refl _ _ | assumption | refine Below.alloc ?_ (by first | omega | (simp; done) | (simp; omega)) _ | refine Below.setCell ?_ (by first | omega | (simp; done) | (simp; omega)) _ | refine Below.drew ?_ | refine below_drewN ?_ _)); done)) | go_keep)
            (first | (go_at_call 41; refine (hput _ (by ((repeat (first | exact Below.refl _ _ | assumption | refine Below.alloc ?_ (by first | omega | (simp; done) | (simp; omega)) _ | refine Below.setCell ?_ (by first | omega | (simp; done) | (simp; omega)) _ | refine Below.drew ?_ | refine below_drewN ?_ _)); done))).mono ?_; rintro e w3 ⟨rfl, Q3, hO1⟩; have hfin := FIN _ _ (by ((repeat (first | exact Below.refl _ _ | assumption | refine Below.alloc ?_ (by first | omega | (simp; done) | (simp; omega)) _ | refine Below.setCell ?_ (by first | omega | (simp; done) | (simp; omega)) _ | refine Below.drew ?_ | refine below_drewN ?_ _)); done)) Q3 hO1; clear Q3))
          go_wp2_with fail
          go_roundw
          case rel =>
            obtain ⟨F2, Q2, hF2, hb2'⟩ := hfin.out
            exact ⟨k + 1, no + 1, _, F2, by omega, by go_num, Q2, by omega, by omega, hF2, hH2, hR2, hb2'⟩
          case measure => simp [intOf]; omega
      · obtain rfl : k = vs.length := by omega
        have hHn : Hid (Heads xss.length (nth xss) S) := by
          have h0 := hH.out
          rw [HVL.out] at h0
          refine ⟨fun t ht => ?_, fun i hi hne => h0.all i hi (by unfold upto; rw [if_pos hi]; exact hne), h0.one⟩
          obtain ⟨i, rs, hi, h1, h2⟩ := h0.head t ht
          unfold upto at h2
          rw [if_pos hi] at h2
          exact ⟨i, rs, hi, h1, h2⟩
        have hM := Lib.hid (merging_start (c := w.heap.size) HLN.out hHn.out hR.out (by have := HVL.out; omega))
        clear hH hR hHn HLN
        obtain ⟨wo, hwo⟩ : ∃ wo : World, wo = wr := ⟨_, rfl⟩
        rw [← hwo] at Q hbel hsz
        go_wp2_with fail
        rw [← hwo]
        clear hwo
        go_step3
        go_wp2_with fail
        go_loopw [10, 11, 12] (fun ov _ _ wr => ∃ (no : Nat) (S : List Hd.It) (F : Nat → Prop) (rem : Nat → List Th) (out : List Th), Hd.QI wr q w.heap.size S no F ∧ no ≤ 20 + out.length ∧ (∀ j, F j → w1.heap.size ≤ j ∧ j < wr.heap.size ∧ ov.ownBlock ≠ some j) ∧ Own Th.enc 2 24 wr w1.heap.size ov out ∧ Hid (Merging xss w.heap.size w2 w.heap.size S rem out) ∧ Below w1.heap.size w2 wr) (fun ov _ _ _ => 1001 - lenOf ov)
        case atStart => exact ⟨no, S, _, nth xss, [], Q.tight, by simp; omega, fun j hj => ⟨hF j hj.1, hj.2, by simp [Value.ownBlock]⟩, Own.nil _ _ _ _ _, hM, hbel⟩
        case round =>
          obtain ⟨no, S, F, rem, out, Q, hno, hF, hown, hM, hbel⟩ := hrel
          have hsz := hbel.size
          have hol : out.length ≤ 1000 := Nat.le_trans hM.out.size hsum
          have hSl : S.length ≤ 20 := Nat.le_trans hM.out.few hn
          go_wp2_with fail
          refine (Hd.take_any (Hd.to_H _) Q (by omega)).mono ?_
          rintro e w3 (⟨m, S', hle, hpm, rfl, Q3, hO3⟩ | ⟨rfl, rfl, hb3⟩)
          · rw [show m.x.val = .agg #[.int .i64 m.x.rank, .int .i64 m.x.id, .int .i64 m.x.list, .slice m.x.ra m.x.rn m.x.rc] from rfl]
            obtain ⟨i, rs, hi, hmi, hri, hrd⟩ := hM.out.head hle.1
            have hz3 := hO3.size
            have hb23 : Below w1.heap.size w2 w3 := hbel.trans (hO3.below (by omega) (fun j hj hf => by have := (hF j hf).1; omega))
            have hown3 := hown.kept hO3 (fun k hk hf => (hF k hf).2.2 hk)
            have hFc : ∀ j, F j → w1.heap.size ≤ j := fun j hj => (hF j hj).1
            have hFo : ∀ j, F j → u10.ownBlock ≠ some j := fun j hj => (hF j hj).2.2
            have hFl : ∀ j, F j → j < w3.heap.size := fun j hj => Nat.lt_of_lt_of_le (hF j hj).2.1 hz3
            have hco : u10.ownBlock ≠ some w.heap.size := fun e => by have := (hown.lt _ e).1; omega
            have hle2 := Lib.hid hle.2
            have HRI := Lib.hid hri
            have HPM := Lib.hid hpm
            clear hle hpm hF hri hown Q hO3
            cases rs with
            | nil =>
              have hrest : m.x.rn = 0 := by obtain ⟨_, _, e0, _⟩ := hrd; simp only [Value.slice.injEq] at e0; exact e0.2.1
              have hM2 := Lib.hid (hM.out.last hle2.out HPM.out hi hmi HRI.out)
              clear hM hle2 HRI HPM hmi hrd
              go_wp2_with (at_builtin; refine wpList_append_one _ (by rfl) _ _ _ (by rfl) Th.enc Th.enc_len Th.enc_one T41 w1.heap.size _ _ (by rfl) (hown3.below (by ((repeat (first | exact Below.refl _ _ | assumption | refine Below.alloc ?_ (by first | omega | (simp; done) | (simp; omega)) _ | refine Below.setCell ?_ (by first | omega | (simp; done) | (simp; omega)) _ | refine Below.drew ?_ | refine below_drewN ?_ _)); done))) ⟨m.x.rank, m.x.id⟩ _ #[.int .i64 m.x.rank, .int .i64 m.x.id] (by rfl) (by rfl) (heap_alloc_new2 _ _ _) (by omega) (by simp; omega) ?_; intro v5 w5 hown5 hb5 hO5 hloc5; have ⟨g5, hz35, hfin⟩ := out_step (x := ⟨m.x.rank, m.x.id⟩) Q3 hb23 hFc hFo hFl hco hown3 (by omega) hO5 hb5 hloc5; have k3 : w5.cell? ⟨w3.heap.size, 3, none⟩ = some (.slice m.x.ra 0 m.x.rc) := by (rw [cell_of_row _ _ _ _ _ _ g5]; rfl))
              go_roundw
              case rel =>
                obtain ⟨Q5, hb5', hF5⟩ := hfin.out
                exact ⟨no, S', F, _, _, Q5, by simp; omega, hF5, hown5, hM2, hb5'⟩
              case measure => obtain ⟨A5, cap5, rfl⟩ := hown5.len_val; obtain ⟨A6, cap6, rfl⟩ := hown3.len_val; simp [lenOf]; omega
            | cons y0 rs' =>
              obtain ⟨b, off, hA, hbb, hcb⟩ := hrd.at_ (k := 0) (x := y0) rfl
              have hrn : m.x.rn = rs'.length + 1 := by obtain ⟨_, _, e0, _⟩ := hrd; simp only [Value.slice.injEq] at e0; exact e0.2.1
              have hrc1 : rs'.length + 1 ≤ m.x.rc := by obtain ⟨_, _, e0, e1, _⟩ := hrd; simp only [Value.slice.injEq] at e0; rw [e0.2.2]; exact e1
              have hrc2 : m.x.rc ≤ maxLen := by obtain ⟨_, _, e0, _, e1, _⟩ := hrd; simp only [Value.slice.injEq] at e0; rw [e0.2.2]; exact e1
              rw [hA, hrn] at hrd ⊢
              obtain ⟨sA, hs1, hs2⟩ := slice_1 b off (rs'.length + 1) m.x.rc (by omega) hrc1
              have hdrop := hs2 _ _ _ hrd
              have n1 : rs'.length + 1 - 1 = rs'.length := by omega
              rw [n1] at hs1 hdrop
              simp only [List.drop_succ_cons, List.drop_zero] at hdrop
              unfold maxLen at hrc2
              have b0 : w2.cell? ⟨b, off, none⟩ = some (.int .i64 y0.rank) := by simpa using hcb 0 _ rfl 0 _ rfl
              have b1 : w2.cell? ⟨b, off + 1, none⟩ = some (.int .i64 y0.id) := by simpa using hcb 0 _ rfl 1 _ rfl
              obtain ⟨hd, hhd⟩ : ∃ hd : Hd.Th, hd = ⟨y0.rank, y0.id, m.x.list, sA, rs'.length, m.x.rc - 1, m.x.lo, m.x.hi⟩ := ⟨_, rfl⟩
              have hM2 := Lib.hid (hM.out.next (t := ⟨hd, no⟩) hle2.out HPM.out hi hmi (rs := rs') (by rw [HRI.out, hhd]) (by rw [hhd]; exact hmi) (by rw [hhd]; exact hdrop))
              have hval : hd.val = .agg #[.int .i64 y0.rank, .int .i64 y0.id, .int .i64 m.x.list, .slice sA rs'.length (m.x.rc - 1)] := by rw [hhd]; rfl
              have hS'l : S'.length ≤ 20 := by have := HPM.out.length_eq; simp at this; omega
              clear hM hle2 HRI HPM hmi hrd hcb hs2 hdrop hA hrn n1 hhd
              go_wp2_with (at_builtin; refine wpList_append_one _ (by rfl) _ _ _ (by rfl) Th.enc Th.enc_len Th.enc_one T41 w1.heap.size _ _ (by rfl) (hown3.below (by ((repeat (first | exact Below.refl _ _ | assumption | refine Below.alloc ?_ (by first | omega | (simp; done) | (simp; omega)) _ | refine Below.setCell ?_ (by first | omega | (simp; done) | (simp; omega)) _ | refine Below.drew ?_ | refine below_drewN ?_ _)); done))) ⟨m.x.rank, m.x.id⟩ _ #[.int .i64 m.x.rank, .int .i64 m.x.id] (by rfl) (by rfl) (heap_alloc_new2 _ _ _) (by omega) (by simp; omega) ?_; intro v5 w5 hown5 hb5 hO5 hloc5; have ⟨g5, hz35, hfin⟩ := out_step (x := ⟨m.x.rank, m.x.id⟩) Q3 hb23 hFc hFo hFl hco hown3 (by omega) hO5 hb5 hloc5; have k3 : w5.cell? ⟨w3.heap.size, 3, none⟩ = some (.slice (some ⟨b, off, none⟩) (rs'.length + 1) m.x.rc) := by (rw [cell_of_row _ _ _ _ _ _ g5]; rfl))
              have k2 : w5.cell? ⟨w3.heap.size, 2, none⟩ = some (.int .i64 m.x.list) := by rw [cell_of_row _ _ _ _ _ _ g5]; rfl
              obtain ⟨Q5, hb25, hF5⟩ := hfin.out
              have hput : ∀ wa, Below w5.heap.size w5 wa → Calls Try.prog 41 #[.pointer (some ⟨q, 0, none⟩), hd.val] wa fun e w' => e = .returned (.int .i64 0) ∧ Hd.QI w' q w.heap.size (S' ++ [⟨hd, no⟩]) (no + 1) (fun j => F j ∨ wa.heap.size ≤ j) ∧ Only F wa w' :=
                fun wa hb => Hd.put_any (Hd.to_H _) (Q5.below hb) hd (by omega) (by omega)
              rw [hval] at hput
              have hSS : ∀ wb, Below w1.heap.size w2 wb → wb.heap[w3.heap.size]? = w5.heap[w3.heap.size]? → wb.cell? ⟨b, off, none⟩ = some (.int .i64 y0.rank) ∧ wb.cell? ⟨b, off + 1, none⟩ = some (.int .i64 y0.id) ∧ wb.cell? ⟨w3.heap.size, 2, none⟩ = some (.int .i64 m.x.list) ∧ wb.cell? ⟨w3.heap.size, 3, none⟩ = some (.slice (some ⟨b, off, none⟩) (rs'.length + 1) m.x.rc) := by
                intro wb hb he
                rw [g5] at he
                exact ⟨Below.cell_some hb b0 (show b < w1.heap.size by omega), Below.cell_some hb b1 (show b < w1.heap.size by omega), by rw [cell_of_row _ _ _ _ _ _ he]; rfl, by rw [cell_of_row _ _ _ _ _ _ he]; rfl⟩
              have hz5 := hb25.size
              have KEEP0 := fun wa (hb : Below w5.heap.size w5 wa) => hSS wa (hb25.trans (hb.mono (by omega))) (hb.block _ hz35)
              have hFB : ∀ wa wb, Below w5.heap.size w5 wa → Only F wa wb → Below w1.heap.size w2 wb := fun wa wb hb hO => by
                have := hb.size
                exact (hb25.trans (hb.mono (by omega))).trans (hO.below (by omega) (fun j hj hf => by have := hFc j hf; omega))
              have KEEP1 := fun wa wb (hb : Below w5.heap.size w5 wa) (hO : Only F wa wb) => hSS wb (hFB wa wb hb hO) ((hO.block _ (Nat.lt_of_lt_of_le hz35 hb.size) (fun hf => by have := hFl _ hf; omega)).trans (hb.block _ hz35))
              have FIN : ∀ wa wb, Below w5.heap.size w5 wa → Hd.QI wb q w.heap.size (S' ++ [⟨hd, no⟩]) (no + 1) (fun j => F j ∨ wa.heap.size ≤ j) → Only F wa wb → Hid (∃ F2 : Nat → Prop, Hd.QI wb q w.heap.size (S' ++ [⟨hd, no⟩]) (no + 1) F2 ∧ (∀ j, F2 j → w1.heap.size ≤ j ∧ j < wb.heap.size ∧ v5.ownBlock ≠ some j) ∧ Own Th.enc 2 24 wb w1.heap.size v5 (out ++ [⟨m.x.rank, m.x.id⟩]) ∧ Below w1.heap.size w2 wb) := by
                intro wa wb hb Q2 hO
                have hzb := hb.size
                have ho5 := hown5.lt
                refine ⟨_, Q2.tight, fun j hj => ?_, (hown5.below hb).kept hO (fun k hk hf => (hF5 k hf).2.2 hk), hFB wa wb hb hO⟩
                rcases hj.1 with h | h
                · exact ⟨(hF5 j h).1, hj.2, (hF5 j h).2.2⟩
                · exact ⟨by omega, hj.2, fun e => by have := (ho5 j e).2; omega⟩
              have ks := KEEP0 w5 (Below.refl _ _)
              obtain ⟨ks0, ks1, ks2, ks3⟩ := ks
              clear hfin hb5 hO5 hloc5 Q5 Q3 hval g5 b0 b1 hF5
              go_wp2_with fail
              go_region_held3 (fun w' => w'.cell? ⟨b, off, none⟩ = some (.int .i64 y0.rank) ∧ w'.cell? ⟨b, off + 1, none⟩ = some (.int .i64 y0.id) ∧ w'.cell? ⟨w3.heap.size, 2, none⟩ = some (.int .i64 m.x.list) ∧ w'.cell? ⟨w3.heap.size, 3, none⟩ = some (.slice (some ⟨b, off, none⟩) (rs'.length + 1) m.x.rc))
                (first | (refine KEEP0 _ ?_; ((repeat (first | exact Below.refl _ _ | assumption | refine Below.alloc ?_ (by first | omega | (simp; done) | (simp; omega)) _ | refine Below.setCell ?_ (by first | omega | (simp; done) | (simp; omega)) _ | refine Below.drew ?_ | refine below_drewN ?_ _)); done)) | (refine KEEP1 _ _ ?_ hO1; ((repeat (first | exact Below.refl _ _ | assumption | refine Below.alloc ?_ (by first | omega | (simp; done) | (simp; omega)) _ | refine Below.setCell ?_ (by first | omega | (simp; done) | (simp; omega)) _ | refine Below.drew ?_ | refine below_drewN ?_ _)); done)) | go_keep)
                (first | (go_at_call 41; refine (hput _ (by ((repeat (first | exact Below.refl _ _ | assumption | refine Below.alloc ?_ (by first | omega | (simp; done) | (simp; omega)) _ | refine Below.setCell ?_ (by first | omega | (simp; done) | (simp; omega)) _ | refine Below.drew ?_ | refine below_drewN ?_ _)); done))).mono ?_; rintro e w6 ⟨rfl, Q6, hO1⟩; have hfin := FIN _ _ (by ((repeat (first | exact Below.refl _ _ | assumption | refine Below.alloc ?_ (by first | omega | (simp; done) | (simp; omega)) _ | refine Below.setCell ?_ (by first | omega | (simp; done) | (simp; omega)) _ | refine Below.drew ?_ | refine below_drewN ?_ _)); done)) Q6 hO1; clear Q6))
              go_wp2_with fail
              go_roundw
              case rel =>
                obtain ⟨F2, Q7, hF7, hown7, hb7⟩ := hfin.out
                exact ⟨no + 1, _, F2, _, _, Q7, by simp; omega, hF7, hown7, hM2, hb7⟩
              case measure => obtain ⟨A5, cap5, rfl⟩ := hown5.len_val; obtain ⟨A6, cap6, rfl⟩ := hown3.len_val; simp [lenOf]; omega
          · have hdone := Lib.hid hM.out.done
            have hrd := ((hown.below hb3).rd Th.enc_len (by unfold maxLen; omega))
            have hbw3 : Below w.heap.size w w3 := (hb02.trans (hbel.mono (by omega))).trans (hb3.mono (by omega))
            have hz4 := hbw3.size
            go_wp2_with fail
            rw [Exit.noGoto_ret]
            go_ret2
            exact ⟨Or.inr ⟨HFL.out, _, out, rfl, Rd.next hrd (by ((repeat (first | exact Below.refl _ _ | assumption | refine Below.alloc ?_ (by first | omega | (simp; done) | (simp; omega)) _ | refine Below.setCell ?_ (by first | omega | (simp; done) | (simp; omega)) _ | refine Below.drew ?_ | refine below_drewN ?_ _)); done)), hdone.out⟩, by ((repeat (first | exact Below.refl _ _ | assumption | refine Below.alloc ?_ (by first | omega | (simp; done) | (simp; omega)) _ | refine Below.setCell ?_ (by first | omega | (simp; done) | (simp; omega)) _ | refine Below.drew ?_ | refine below_drewN ?_ _)); done)⟩
  · have HFL := Lib.hid hfl
    clear hfl
    go_wp2_with fail
    rw [Exit.noGoto_ret]
    go_ret2
    exact ⟨Or.inl ⟨HFL.out, rfl⟩, hb01⟩
end Go.Proofs.Yteiocnaneghggaa
