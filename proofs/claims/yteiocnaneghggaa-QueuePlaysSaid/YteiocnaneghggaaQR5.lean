import Derived.Test.YteiocnaneghggaaQR3
import Derived.Test.YteiocnaneghggaaQR4
import Derived.Test.YteiocnaneghggaaQM
namespace Go.Proofs.Yteiocnaneghggaa
open Go Go.RowKit

theorem Own.based {α : Type} {enc : α → List Value} {size base base' : Nat} {e : TypeId} {w : World} {v : Value} {xs : List α} (h : Own enc size e w base v xs) (hb : base' ≤ base) : Own enc size e w base' v xs := by
  refine ⟨h.1, ?_⟩
  rcases h.2 with hn | ⟨g, cap, cur, hv, hb0, rest⟩
  · exact Or.inl hn
  · exact Or.inr ⟨g, cap, cur, hv, Nat.le_trans hb hb0, rest⟩

set_option maxHeartbeats 4000000 in
theorem out_own {B : Nat} {v : Value} {xs : List Th} (w : World) (hx : Rd Th.enc 2 w B v xs) (hB : B ≤ w.heap.size) (hl : xs.length ≤ 100000) {k : Nat} (hk : k < xs.length) :
   Calls Try.prog 20 #[v, .int .i64 k] w fun e w' => ∃ u, e = .returned u ∧ Own Th.enc 2 24 w' w.heap.size u (xs.eraseIdx k) ∧ Below w.heap.size w w' := by
  have hx' := hx
  obtain ⟨X, hX⟩ := get_lt hk
  obtain ⟨A, cap, rfl, h1, h2, -⟩ := hx
  obtain ⟨b, off, rfl, hb, -⟩ := hx'.at_ hX
  have ht := hx'.take (k := k) (by omega)
  have hd := hx'.drop (k := k + 1) (by omega) h1
  have s1 := slice_to (some ⟨b, off, none⟩) xs.length k cap (by omega)
  have s2 := slice_from b off xs.length (k + 1) cap (by omega) h1
  have he : Hid (xs.take k ++ xs.drop (k + 1) = xs.eraseIdx k) := by unfold Hid; rw [List.eraseIdx_eq_take_drop_succ]
  have hlt : (xs.take k).length ≤ 100000 := by rw [List.length_take]; omega
  have hld : (xs.drop (k + 1)).length ≤ 100000 := by rw [List.length_drop]; omega
  have hle : (xs.take k ++ xs.drop (k + 1)).length ≤ 200000 := by rw [List.length_append]; omega
  unfold maxLen at h2
  have S1 := s1 w
  clear s1
  rw [show ((k + 1 : Nat) : Int) = (k : Int) + 1 by omega] at s2
  generalize hsv : (if cap = k + 1 then some (⟨b, off, none⟩ : Addr) else some ⟨b, off + (k + 1) * 2, none⟩) = sA at s2 hd
  clear hsv
  go_enter Try.func20, Try.ntmps20
  go_wp2_with (first | (at_builtin; refine wpList_append_rd _ (by rfl) _ _ _ (by rfl) Th.enc Th.enc_len Th.enc_one T41 w.heap.size _ [] (xs.take k) (by rfl) (Own.nil _ _ _ _ _) _ (by rfl) ht (by simp; omega) (Nat.le_refl _) ?_; intro v1 w1 hown1 hb1 hO1 hloc1; have S2 := s2 w1) | (at_builtin; refine wpList_append_rd _ (by rfl) _ _ _ (by rfl) Th.enc Th.enc_len Th.enc_one T41 w.heap.size _ (xs.take k) (xs.drop (k + 1)) (by rfl) hown1 _ (by rfl) (hd.below hb1 hB) (by omega) (Nat.le_trans (Nat.le_refl _) hb1.size) ?_; intro v2 w2 hown2 hb2 hO2 hloc2))
  go_ret
  exact ⟨_, rfl, by rw [← he.out]; exact hown2, hb1.trans hb2⟩

set_option maxHeartbeats 4000000 in
theorem made_own {B : Nat} {v : Value} {l : List Int} (w : World) (hx : Rd encI 1 w B v l) (hB : B ≤ w.heap.size) (hl : l.length ≤ 1000) {f : Nat} (hf : f ≤ 100000) :
   Calls Try.prog 21 #[v, .int .i64 f] w fun e w' => ∃ u, e = .returned u ∧ Own Th.enc 2 24 w' w.heap.size u (madeL l f) ∧ Below w.heap.size w w' := by
  have hx' := hx
  obtain ⟨A, cap, rfl, h1, h2, -⟩ := hx
  unfold maxLen at h2
  go_enter Try.func21, Try.ntmps21
  go_wp2_with fail
  go_loopw [5, 6] (fun out i wr => ∃ k : Nat, k ≤ l.length ∧ i = .int .i64 k ∧ Own Th.enc 2 24 wr w.heap.size out ((madeL l f).take k) ∧ Below w.heap.size w wr) (fun _ i _ => l.length - (intOf i).toNat)
  case atStart => exact ⟨0, Nat.zero_le _, rfl, by rw [List.take_zero]; exact Own.nil _ _ _ _ _, Below.refl _ _⟩
  case round =>
    obtain ⟨k, hk, rfl, hown, hbel⟩ := hrel
    have hml := madeL_len l f
    have hsz := hbel.size
    by_cases hlt : k < l.length
    · obtain ⟨r, hr⟩ := get_lt hlt
      have HN := Lib.hid (take_snoc (madeL_get (f := f) hr))
      obtain ⟨b, off, rfl, hb, hc⟩ := (hx'.below hbel hB).at_ hr
      have c1 : wr.cell? ⟨b, off + k, none⟩ = some (.int .i64 r) := by simpa using hc k _ hr 0 _ rfl
      clear hc hr
      have htl : ((madeL l f).take k).length ≤ 1000 := by rw [List.length_take]; omega
      clear hml
      go_wp2_with (at_builtin; refine wpList_append_one _ (by rfl) _ _ _ (by rfl) Th.enc Th.enc_len Th.enc_one T41 w.heap.size _ _ (by rfl) (hown.below (by ((repeat (first | exact Below.refl _ _ | assumption | refine Below.alloc ?_ (by first | omega | (simp; done) | (simp; omega)) _ | refine Below.setCell ?_ (by first | omega | (simp; done) | (simp; omega)) _ | refine Below.drew ?_ | refine below_drewN ?_ _)); done))) ⟨r, (f : Int) + (k : Int)⟩ _ #[.int .i64 r, .int .i64 ((f : Int) + (k : Int))] (by rfl) (by rfl) (heap_alloc_new _ _) (by omega) (by simp; omega) ?_; intro v3 w3 hown3 hb3 hO3 hloc3)
      have hb3' : Below w.heap.size wr w3 := Below.trans (by ((repeat (first | exact Below.refl _ _ | assumption | refine Below.alloc ?_ (by first | omega | (simp; done) | (simp; omega)) _ | refine Below.setCell ?_ (by first | omega | (simp; done) | (simp; omega)) _ | refine Below.drew ?_ | refine below_drewN ?_ _)); done)) hb3
      go_roundw
      case rel => exact ⟨k + 1, by omega, by go_num, by rw [HN.out]; exact hown3, hbel.trans hb3'⟩
      case measure => simp [intOf]; omega
    · rw [take_len_le (by omega)] at hown
      clear hml
      go_wp2_with fail
      go_ret
      exact ⟨_, rfl, hown, hbel⟩

theorem heap_size_alloc'' (w : World) (o : Obj) : (w.alloc o).heap.size = w.heap.size + 1 := by simp

/-! ### the reference's merging -/
def IdL (a b : Th) : Prop := a.id < b.id
theorem first_least {xs : List Th} {i : Nat} {x : Th} (hF : FirstTo xs xs.length i x) (hid : xs.Pairwise IdL) : ∀ y ∈ xs.eraseIdx i, KL x y := by
  intro y hy
  obtain ⟨j, hji, hj⟩ := List.mem_eraseIdx_iff_getElem?.1 hy
  obtain ⟨hi, hx, hall⟩ := hF
  have hjl := (List.getElem?_eq_some_iff.1 hj).1
  obtain ⟨h1, h2⟩ := hall j y hjl hj
  rcases Nat.lt_or_ge j i with h | h
  · exact Or.inl (h1 h)
  · have hlt : i < j := by omega
    have := List.pairwise_iff_getElem.1 hid i j hi hjl hlt
    rw [(List.getElem?_eq_some_iff.1 hx).2, (List.getElem?_eq_some_iff.1 hj).2] at this
    unfold IdL at this
    unfold KL
    omega
theorem erase_perm {α : Type} {xs : List α} {i : Nat} {x : α} (hx : xs[i]? = some x) : (x :: xs.eraseIdx i).Perm xs := by
  obtain ⟨h, rfl⟩ := List.getElem?_eq_some_iff.1 hx
  have e : xs = xs.take i ++ xs[i] :: xs.drop (i + 1) := by rw [← List.drop_eq_getElem_cons h, List.take_append_drop]
  rw [List.eraseIdx_eq_take_drop_succ]
  exact List.perm_middle.symm.trans (by rw [← e])

/-- where the reference's merging stands -/
structure Picking (all out rest : List Th) : Prop where
  perm : (out ++ rest).Perm all
  sorted : out.Pairwise KL
  below : ∀ o ∈ out, ∀ y ∈ rest, KL o y
  ids : rest.Pairwise IdL
theorem Picking.start {all : List Th} (h : all.Pairwise IdL) : Picking all [] all := ⟨List.Perm.refl _, by simp, by simp, h⟩
theorem Picking.next {all out rest : List Th} (h : Picking all out rest) {i : Nat} {x : Th} (hF : FirstTo rest rest.length i x) : Picking all (out ++ [x]) (rest.eraseIdx i) := by
  have hp := erase_perm hF.2.1
  refine ⟨?_, ?_, ?_, h.ids.sublist (List.eraseIdx_sublist _ _)⟩
  · rw [List.append_assoc]
    exact (List.Perm.append_left out hp).trans h.perm
  · rw [List.pairwise_append]
    refine ⟨h.sorted, by simp, fun a ha b hb => ?_⟩
    rw [List.mem_singleton] at hb
    subst hb
    exact h.below a ha _ (hp.subset (List.mem_cons_self ..))
  · intro o ho y hy
    rcases List.mem_append.1 ho with h' | h'
    · exact h.below o h' y (hp.subset (List.mem_cons_of_mem _ hy))
    · rw [List.mem_singleton] at h'
      subst h'
      exact first_least hF h.ids y hy
theorem Picking.size {all out rest : List Th} (h : Picking all out rest) : out.length + rest.length = all.length := by
  have := h.perm.length_eq
  rwa [List.length_append] at this
theorem flatten_take_snoc {α : Type} {xss : List (List α)} {k : Nat} {xs : List α} (h : xss[k]? = some xs) : (xss.take (k + 1)).flatten = (xss.take k).flatten ++ xs := by
  rw [take_snoc h]; simp
theorem flatten_take_le {α : Type} (xss : List (List α)) (k : Nat) : (xss.take k).flatten.length ≤ xss.flatten.length := by
  have h := congrArg List.flatten (List.take_append_drop k xss)
  rw [List.flatten_append] at h
  have := congrArg List.length h
  rw [List.length_append] at this
  omega
def lenOfV : Value → Nat
  | .slice _ n _ => n
  | _ => 0

set_option maxHeartbeats 4000000 in
set_option maxRecDepth 100000 in
theorem refmerge_any {v : Value} {xss : List (List Th)} (w : World) (hx : RdLL w w.heap.size v xss) (hsum : xss.flatten.length ≤ 1000) (hid : xss.flatten.Pairwise IdL) :
   Calls Try.prog 25 #[v] w fun e w' => (∃ u out, e = .returned u ∧ Rd Th.enc 2 w' w'.heap.size u out ∧ out.Perm xss.flatten ∧ out.Pairwise KL) ∧ Below w.heap.size w w' := by
  obtain ⟨vs, hv, hlen, hel⟩ := hx
  have HL := Lib.hid hlen
  clear hlen
  have hv' := hv
  obtain ⟨A, cap, rfl, h1, h2, -⟩ := hv
  unfold maxLen at h2
  go_enter Try.func25, Try.ntmps25
  go_wp2_with fail
  go_loopw [3, 4] (fun al i wr => ∃ k : Nat, k ≤ vs.length ∧ i = .int .i64 k ∧ Own Th.enc 2 24 wr w.heap.size al ((xss.take k).flatten) ∧ Below w.heap.size w wr) (fun _ i _ => vs.length - (intOf i).toNat)
  case atStart => exact ⟨0, Nat.zero_le _, rfl, by rw [List.take_zero]; exact Own.nil _ _ _ _ _, Below.refl _ _⟩
  case round =>
    obtain ⟨k, hk, rfl, hown, hbel⟩ := hrel
    have hsz := hbel.size
    by_cases hlt : k < vs.length
    · obtain ⟨U, hU⟩ := get_lt hlt
      obtain ⟨xs, hxs⟩ := get_lt (show k < xss.length by rw [← HL.out]; exact hlt)
      obtain ⟨b, off, rfl, hb, hc⟩ := (hv'.below hbel (Nat.le_refl _)).at_ hU
      have c1 : wr.cell? ⟨b, off + k, none⟩ = some U := by simpa using hc k _ hU 0 _ rfl
      have hrx := (hel k U xs hU hxs).below hbel (Nat.le_refl _)
      have HN := Lib.hid (flatten_take_snoc hxs)
      have hfl := flatten_take_le xss (k + 1)
      rw [flatten_take_snoc hxs, List.length_append] at hfl
      clear hc hU hxs
      go_wp2_with (at_builtin; refine wpList_append_rd _ (by rfl) _ _ _ (by rfl) Th.enc Th.enc_len Th.enc_one T41 w.heap.size _ _ xs (by rfl) hown _ (by rfl) hrx (by omega) hsz ?_; intro v3 w3 hown3 hb3 hO3 hloc3)
      go_roundw
      case rel => exact ⟨k + 1, by omega, by go_num, by rw [HN.out]; exact hown3, hbel.trans hb3⟩
      case measure => simp [intOf]; omega
    · rw [take_len_le (by rw [← HL.out]; omega)] at hown
      go_wp2_with fail
      go_loopw [3, 5, 6] (fun al out _ wr => ∃ (rest o : List Th), Own Th.enc 2 24 wr w.heap.size al rest ∧ Own Th.enc 2 24 wr w.heap.size out o ∧ (∀ j, al.ownBlock = some j → out.ownBlock ≠ some j) ∧ Hid (Picking xss.flatten o rest) ∧ Below w.heap.size w wr) (fun al _ _ _ => lenOfV al)
      case atStart => exact ⟨_, [], hown, Own.nil _ _ _ _ _, by simp [Value.ownBlock], Picking.start hid, hbel⟩
      case round =>
        rename_i al out _ _
        obtain ⟨rest, o, hal, hou, hdis, hP, hbel2⟩ := hrel
        have hsz2 := hbel2.size
        have hsz3 := hP.out.size
        have hrl : rest.length ≤ 1000 := by omega
        have hol : o.length ≤ 1000 := by omega
        clear hsz3
        have hrd := hal.rd Th.enc_len (by unfold maxLen; omega)
        obtain ⟨A2, cap2, rfl⟩ := hal.len_val
        by_cases hr : 0 < rest.length
        · go_wp2_with fail
          refine (first_any wr hrd (Nat.le_refl _) (by omega)).mono ?_
          rintro e w4 ⟨⟨h0, rfl⟩ | ⟨i, x, hF, rfl⟩, hb4⟩
          · rw [h0] at hr; simp at hr
          have hz4 := hb4.size
          have hi := hF.1
          have hP2 := Lib.hid (hP.out.next hF)
          have hal4 := hal.below hb4
          have hou4 := hou.below hb4
          obtain ⟨b, off, rfl, hb, hc⟩ := (hrd.below hb4 (Nat.le_refl _)).at_ hF.2.1
          have c1 : w4.cell? ⟨b, off + i * 2, none⟩ = some (.int .i64 x.rank) := hc i _ hF.2.1 0 _ rfl
          have c2 : w4.cell? ⟨b, off + i * 2 + 1, none⟩ = some (.int .i64 x.id) := hc i _ hF.2.1 1 _ rfl
          clear hc hF hal hou hP
          go_wp2_with (at_builtin; refine wpList_append_one _ (by rfl) _ _ _ (by rfl) Th.enc Th.enc_len Th.enc_one T41 w.heap.size _ o (by rfl) (hou4.below (by ((repeat (first | exact Below.refl _ _ | assumption | refine Below.alloc ?_ (by first | omega | (simp; done) | (simp; omega)) _ | refine Below.setCell ?_ (by first | omega | (simp; done) | (simp; omega)) _ | refine Below.drew ?_ | refine below_drewN ?_ _)); done))) x _ #[.int .i64 x.rank, .int .i64 x.id] (by rfl) (by rfl) (heap_alloc_new _ _) (by omega) (by simp; omega) ?_; intro v5 w5 hou5 hb5 hO5 hloc5)
          have hz5 := hO5.size
          simp only [heap_size_alloc''] at hz5 hloc5
          have hal5 := (hal4.below (w' := w4.alloc (.cells #[.int .i64 x.rank, .int .i64 x.id] 24)) (by ((repeat (first | exact Below.refl _ _ | assumption | refine Below.alloc ?_ (by first | omega | (simp; done) | (simp; omega)) _ | refine Below.setCell ?_ (by first | omega | (simp; done) | (simp; omega)) _ | refine Below.drew ?_ | refine below_drewN ?_ _)); done))).kept hO5 hdis
          have hb45 : Below w.heap.size w4 w5 := Below.trans (by ((repeat (first | exact Below.refl _ _ | assumption | refine Below.alloc ?_ (by first | omega | (simp; done) | (simp; omega)) _ | refine Below.setCell ?_ (by first | omega | (simp; done) | (simp; omega)) _ | refine Below.drew ?_ | refine below_drewN ?_ _)); done)) hb5
          have hdis5 : ∀ j, (Value.slice (some ⟨b, off, none⟩) rest.length cap2).ownBlock = some j → v5.ownBlock ≠ some j := by
            intro j hj e
            rcases hloc5 with h | h
            · exact hdis j hj (h ▸ e)
            · have := (hal4.lt j hj).2; rw [h] at e; cases e; omega
          have hlt5 := hou5.lt
          have hrd5 := hal5.rd Th.enc_len (by unfold maxLen; omega)
          clear hloc5 hO5 hb5 hal4 hou4 hdis c1 c2
          go_wp2_with fail
          refine (out_own w5 hrd5 (Nat.le_refl _) (by omega) hi).mono ?_
          rintro e w6 ⟨u, rfl, hal6, hb6⟩
          have hou6 := hou5.below hb6
          have hll := hal6.len_val
          have hlt6 := hal6.lt
          have hle := List.length_eraseIdx_of_lt hi
          have HLE := Lib.hid hle
          clear hle
          go_wp2_with fail
          go_roundw
          case rel =>
            refine ⟨_, _, hal6.based (by omega), hou6, fun j hj e => ?_, hP2, (hbel2.trans (hb4.mono hsz2)).trans (hb45.trans (hb6.mono (by omega)))⟩
            have h1 := (hlt5 j e).2
            have h2 := (hlt6 j hj).1
            omega
          case measure =>
            obtain ⟨A6, cap6, rfl⟩ := hll
            simp only [lenOfV, HLE.out]
            omega
        · have hr0 : rest = [] := List.eq_nil_of_length_eq_zero (by omega)
          subst hr0
          have hrdo := hou.rd Th.enc_len (by unfold maxLen; omega)
          have hd := Lib.hid (show o.Perm xss.flatten ∧ o.Pairwise KL from ⟨by simpa using hP.out.perm, hP.out.sorted⟩)
          clear hP
          go_wp2_with fail
          go_ret
          exact ⟨⟨_, o, rfl, hrdo, hd.out⟩, hbel2⟩
end Go.Proofs.Yteiocnaneghggaa
