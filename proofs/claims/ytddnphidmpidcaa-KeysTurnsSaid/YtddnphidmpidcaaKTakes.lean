import Derived.Test.YtddnphidmpidcaaKP2
import Derived.Laws.MakeOwn
namespace Go.Proofs.Ytddnphidmpidcaa
open Go Go.RowKit

def blankE : Ent := ⟨0, false, ⟨#[]⟩⟩
theorem TT_blank (n : Nat) : TT (List.replicate n blankE) (List.replicate n blankE) = (List.range n).map (fun (i : Nat) => (i : Int)) := by
  have key : ∀ i, i < n → (TT (List.replicate n blankE) (List.replicate n blankE))[i]? = some (i : Int) := by
    intro i
    induction i using Nat.strongRecOn with
    | _ i ih =>
      intro hi
      have hx : (List.replicate n blankE)[i]? = some blankE := by simp [hi]
      have hT := TT_at (List.replicate n blankE) hx
      generalize hTT : TT (List.replicate n blankE) (List.replicate n blankE) = T at *
      have hmem : ∀ p, p ∈ T.take i ↔ ∃ j : Nat, j < i ∧ p = (j : Int) := by
        intro p
        rw [List.mem_take_iff_getElem]
        constructor
        · rintro ⟨j, hj, rfl⟩
          have h1 : j < i := by omega
          refine ⟨j, h1, ?_⟩
          have := ih j h1 (by omega)
          rw [List.getElem?_eq_getElem (by omega)] at this
          exact Option.some.inj this
        · rintro ⟨j, hj, rfl⟩
          have := ih j hj (by omega)
          obtain ⟨h1, h2⟩ := List.getElem?_eq_some_iff.1 this
          exact ⟨j, by omega, h2⟩
      have hin : (i : Int) ∈ stG (List.replicate n blankE) (T.take i) blankE.nrm := (mem_stG _ _ _ _).2 ⟨⟨i, blankE, hx, rfl, rfl⟩, fun h => by
        obtain ⟨j, hj, e⟩ := (hmem _).1 h; omega⟩
      have hsort := stG_sorted (List.replicate n blankE) (T.take i) blankE.nrm
      cases h : stG (List.replicate n blankE) (T.take i) blankE.nrm with
      | nil => rw [h] at hin; simp at hin
      | cons a l =>
        rw [hT, h]
        rw [h] at hin hsort
        have ha : a ∈ stG (List.replicate n blankE) (T.take i) blankE.nrm := by rw [h]; simp
        obtain ⟨⟨j, y, hj, _, rfl⟩, hno⟩ := (mem_stG _ _ _ _).1 ha
        have hji : ¬ j < i := fun hlt => hno ((hmem _).2 ⟨j, hlt, rfl⟩)
        rcases List.mem_cons.1 hin with e | e
        · simp [← e]
        · have := (List.pairwise_cons.1 hsort).1 _ e
          omega
  apply List.ext_getElem?
  intro i
  rcases Nat.lt_or_ge i n with h | h
  · rw [key i h, List.getElem?_map, List.getElem?_range h]; rfl
  · rw [List.getElem?_eq_none (by rw [TT_len]; simpa using h), List.getElem?_eq_none (by simpa using h)]

theorem Rd.blk {α : Type} (enc : α → List Value) (size : Nat) {w : World} {g : Nat} {cs : Array Value} {e : TypeId} (xs : List α) (hg : w.heap[g]? = some (.cells cs e (0, 0)))
    (hcs : ∀ (i : Nat) (x : α), xs[i]? = some x → ∀ (j : Nat) (u : Value), (enc x)[j]? = some u → cs[i * size + j]? = some u) (n : Nat) (hn : n = xs.length) (hm : n ≤ maxLen) :
    Rd enc size w w.heap.size (.slice (some ⟨g, 0, none⟩) n n) xs := by
  subst hn
  refine ⟨_, _, rfl, Nat.le_refl _, hm, fun _ => ⟨g, 0, rfl, (Array.getElem?_eq_some_iff.1 hg).1, fun i x hx j u hu => ?_⟩⟩
  rw [cell_of_row _ _ _ _ _ _ hg, Nat.zero_add]
  exact hcs i x hx j u hu

/-- make([]Entry, n) -/
theorem make22 (n : Nat) (hn : n ≤ 40) : ∃ MC : Array Value, (∀ W : World, Sem.run Try.prog (Instr.makeSlice 22 (.int .i64 (n : Int)) (.int .i64 (n : Int))) W = .ok (.slice (some ⟨W.heap.size, 0, none⟩) n n) (W.alloc (.cells MC 27))) ∧
    ∀ W : World, Rd Ent.enc 3 (W.alloc (.cells MC 27)) (W.alloc (.cells MC 27)).heap.size (.slice (some ⟨W.heap.size, 0, none⟩) n n) (List.replicate n blankE) := by
  obtain ⟨ht, i, z, hi, hz, hsize, hby, hzs, hsz, _⟩ := T22
  have hz0 : z = .agg #[.int .i64 0, .bool false, .string ⟨#[]⟩] := by
    have h1 : (Try.prog.info? 27).map (fun i => i.zero) = some (some (.agg #[.int .i64 0, .bool false, .string ⟨#[]⟩])) := by kernel_rfl
    rw [hi] at h1
    simp [hz] at h1
    exact h1
  refine ⟨madeCells z.cells (n * 3), fun W => ?_, fun W => ?_⟩
  · have hr := run_make (P := Try.prog) W 22 27 i z ht hi hz .i64 .i64 n n (by omega) (Int.le_refl _) (by rw [hby]; omega) (by omega)
    simp only [Int.toNat_natCast, hsize] at hr
    exact hr
  · refine Rd.blk Ent.enc 3 (List.replicate n blankE) (heap_alloc_new _ _) ?_ n (by simp) (by unfold maxLen; omega)
    intro q x hq j u hu
    have hqn : q < n := by
      rcases Nat.lt_or_ge q n with h | h
      · exact h
      · rw [List.getElem?_eq_none (by simpa using h)] at hq; cases hq
    obtain rfl : x = blankE := by
      rw [List.getElem?_replicate, if_pos hqn] at hq; exact (Option.some.inj hq).symm
    have hj : j < 3 := (List.getElem?_eq_some_iff.1 hu).1
    subst hz0
    have hlt : q * 3 + j < n * 3 := by omega
    have hmod : (q * 3 + j) % 3 = j := by omega
    simp only [madeCells, Value.cells]
    rw [Array.getElem?_map, Array.getElem?_range, if_pos hlt]
    simp only [Option.map_some, List.size_toArray, List.length_cons, List.length_nil, Nat.zero_add, Nat.reduceAdd, hmod]
    rcases j with _ | _ | _ | j
    · exact hu
    · exact hu
    · exact hu
    · omega

theorem DictE.left_cell {w : World} {lo hi D M : Nat} {g : REnt → List Int} {left : Int} (h : DictE w lo hi D M g left) : w.cell? ⟨D, 1, none⟩ = some (.int .i64 left) := by
  obtain ⟨f, h⟩ := h
  rw [cell_of_row _ _ 1 _ _ _ h.dict]; rfl

set_option maxHeartbeats 4000000 in
set_option maxRecDepth 100000 in
theorem takes_walk {v v' : Value} {xs ys : List Ent} (w : World) (hx : Rd Ent.enc 3 w w.heap.size v xs) (hy : Rd Ent.enc 3 w w.heap.size v' ys) (hkx : ∀ x ∈ xs, x.key.size ≤ maxLen) (hky : ∀ x ∈ ys, x.key.size ≤ maxLen) :
   Calls Try.prog 4 #[v, v'] w fun e w' => e = .returned (.bool true) ∧ Below w.heap.size w w' := by
  have hx' := hx
  have hx0 := hx
  have hy' := hy
  obtain ⟨A, cap, rfl, h1, h2, -⟩ := hx
  obtain ⟨A', cap', rfl, h1', h2', -⟩ := hy
  unfold maxLen at h2 h2'
  by_cases hlx : xs.length ≤ 40
  · by_cases hly : ys.length ≤ 40
    · have hw : Below w.heap.size w w := Below.refl _ _
      obtain ⟨MC, hmk, hMC⟩ := make22 xs.length hlx
      go_enter Try.func4, Try.ntmps4
      go_wp2_with fail
      refine (new_any _ hy' (Nat.le_refl _) (by omega) hky).mono ?_
      rintro e w1 ⟨D, M, f, lo, rfl, hd, hD, hM, hlo, hDM, hb1⟩
      have hdE : DictE w1 lo w1.heap.size D M (plc ys) ys.length := ⟨f, hd⟩
      have hDlt := hd.dlt
      have hMlt := hd.mlt
      clear hd
      (replace hw := Below.trans hw (Below.mono hb1 (Below.size hw)); replace hx' := Rd.next hx' hb1; replace hy' := Rd.next hy' hb1)
      go_wp2_with fail
      refine (take_nil _ _ _ _).mono ?_
      rintro e w2 ⟨rfl, hb2⟩
      replace hdE := hdE.below hb2
      have hwz1 := hb2.size
      (replace hw := Below.trans hw (Below.mono hb2 (Below.size hw)); replace hx' := Rd.next hx' hb2; replace hy' := Rd.next hy' hb2)
      go_wp2_with fail
      refine (len_nil _).mono ?_
      rintro e w3 ⟨rfl, rfl⟩
      go_wp2_with fail
      refine (plain_any _ hx' (Nat.le_refl _) (by omega)).mono ?_
      rintro e w4 ⟨v4, rfl, hr4, hb4⟩
      replace hdE := hdE.below hb4
      have hwz2 := hb4.size
      (replace hw := Below.trans hw (Below.mono hb4 (Below.size hw)); replace hx' := Rd.next hx' hb4; replace hy' := Rd.next hy' hb4)
      go_wp2_with fail
      refine (plain_any _ hy' (Nat.le_refl _) (by omega)).mono ?_
      rintro e w5 ⟨v5, rfl, hr5, hb5⟩
      replace hdE := hdE.below hb5
      have hwz3 := hb5.size
      (replace hw := Below.trans hw (Below.mono hb5 (Below.size hw)); replace hx' := Rd.next hx' hb5; replace hy' := Rd.next hy' hb5; replace hr4 := Rd.next hr4 hb5)
      go_wp2_with fail
      refine (refAlign_lo _ hr4 hr5 (Nat.le_refl _) (by simp; omega)).mono ?_
      rw [align_is_ref]
      rintro e w6 ⟨v6, rfl, hrc, hb6, hv6⟩
      replace hdE := hdE.below hb6
      have hwz4 := hb6.size
      (replace hw := Below.trans hw (Below.mono hb6 (Below.size hw)); replace hx' := Rd.next hx' hb6; replace hy' := Rd.next hy' hb6)
      change Rd encI 1 w6 w6.heap.size v6 (TT xs ys) at hrc
      have hrc' := hrc
      obtain ⟨At, capt, rfl, ht1, ht2, -⟩ := hrc
      unfold maxLen at ht2
      have HTL := Lib.hid (TT_len xs ys)
      go_wp2_with fail
      clear hy' hr5
      have hg0 : plc ys = stG ys ((TT xs ys).take 0) := by rw [List.take_zero, stG_nil]
      rw [hg0] at hdE
      clear hg0
      have hlo6 : ∀ q, At.elim none (fun a => some a.block) = some q → w5.heap.size ≤ q := fun q hq => hv6 q (by
        cases At with
        | none => simp at hq
        | some a => simpa [Value.ownBlock] using hq)
      have HLO := Lib.hid hlo6
      clear hlo6 hv6
      go_loopw [10, 11] (fun lf i wr => ∃ (k : Nat) (left : Int), k ≤ xs.length ∧ i = .int .i64 k ∧ lf = .int .i64 left ∧ -(k : Int) ≤ left ∧ left ≤ 40 ∧ DictE wr lo w1.heap.size D M (stG ys ((TT xs ys).take k)) left ∧ Below w.heap.size w wr ∧ Rd encI 1 wr wr.heap.size (.slice At (TT xs ys).length capt) (TT xs ys) ∧ w1.heap.size ≤ wr.heap.size) (fun _ i _ => xs.length - (intOf i).toNat)
      case atStart => exact ⟨0, ys.length, Nat.zero_le _, rfl, rfl, by omega, by omega, hdE, hw, hrc', by omega⟩
      case round =>
        obtain ⟨k, left, hk, rfl, rfl, hl0, hl1, hdk, hbel, hrk, hsz6⟩ := hrel
        have hsz := hbel.size
        by_cases hlt : k < xs.length
        · obtain ⟨X, hxk⟩ := get_lt hlt
          have HX := Lib.hid hxk
          have hlt2 : k < (TT xs ys).length := by rw [TT_len]; exact hlt
          obtain ⟨t, htk⟩ := get_lt hlt2
          have HK := Lib.hid htk
          have htt := TT_at ys hxk
          rw [htk] at htt
          have ht' := Option.some.inj htt
          have hkey := hkx X (List.mem_of_getElem? hxk)
          obtain ⟨b, off, rfl, hb, hc⟩ := hrk.at_ htk
          have hlo6 : w5.heap.size ≤ b := HLO.out b rfl
          obtain ⟨bx, offx, rfl, hbx, hcx⟩ := (hx0.below hbel (Nat.le_refl _)).at_ hxk
          have c0 : wr.cell? ⟨bx, offx + k * 3, none⟩ = some (.int .i64 X.at_) := hcx k _ HX.out 0 _ rfl
          have c1 : wr.cell? ⟨bx, offx + k * 3 + 1, none⟩ = some (.bool X.has) := hcx k _ HX.out 1 _ rfl
          have c2 : wr.cell? ⟨bx, offx + k * 3 + 2, none⟩ = some (.string X.key) := hcx k _ HX.out 2 _ rfl
          have c3 : wr.cell? ⟨b, off + k, none⟩ = some (.int .i64 t) := by simpa using hc k _ htk 0 _ rfl
          clear hc hcx hxk htk htt
          cases hg : stG ys ((TT xs ys).take k) X.nrm with
          | nil =>
            rw [hg] at ht'
            obtain rfl : t = -1 := ht'
            have HG := Lib.hid hg
            clear hg
            go_wp2_with fail
            refine (take_no X _ hdk hkey (by omega) HG.out).mono ?_
            rintro e w7 ⟨rfl, hd7, hO7⟩
            have c3' := hO7.cell c3 (by simp only []; have := hlo6; omega)
            have cl := hd7.left_cell
            have hB7 : Below w.heap.size w w7 := hbel.trans (hO7.below hsz (fun q _ hh => by omega))
            have hr7 : Rd encI 1 w7 w7.heap.size _ (TT xs ys) := (hrk.onlyLo hO7 (fun q hq hh => by have := HLO.out q hq; omega)).more hO7.size
            have hz7 := hO7.size
            go_wp2_with fail
            refine (len_any D left _ cl).mono ?_
            rintro e w8 ⟨rfl, rfl⟩
            go_wp2_with fail
            go_roundw
            case rel => exact ⟨k + 1, left, by omega, by go_num, rfl, by omega, by omega, by rw [take_snoc HK.out, stG_none]; exact hd7, hB7, hr7, by omega⟩
            case measure => simp [intOf]; omega
          | cons p ps =>
            rw [hg] at ht'
            obtain rfl : t = p := ht'
            have hp0 : 0 ≤ t := by
              have : t ∈ stG ys ((TT xs ys).take k) X.nrm := by rw [hg]; simp
              obtain ⟨⟨q, _, _, _, e⟩, _⟩ := (mem_stG _ _ _ _).1 this
              omega
            have HG := Lib.hid hg
            clear hg
            go_wp2_with fail
            refine (take_yes X _ hdk hkey (by omega) HG.out (by omega) (by omega)).mono ?_
            rintro e w7 ⟨rfl, hd7, hO7⟩
            have c3' := hO7.cell c3 (by simp only []; have := hlo6; omega)
            have cl := hd7.left_cell
            have hB7 : Below w.heap.size w w7 := hbel.trans (hO7.below hsz (fun q _ hh => by omega))
            have hr7 : Rd encI 1 w7 w7.heap.size _ (TT xs ys) := (hrk.onlyLo hO7 (fun q hq hh => by have := HLO.out q hq; omega)).more hO7.size
            have hz7 := hO7.size
            go_wp2_with fail
            refine (len_any D (left - 1) _ cl).mono ?_
            rintro e w8 ⟨rfl, rfl⟩
            go_wp2_with fail
            go_roundw
            case rel => exact ⟨k + 1, (left - 1), by omega, by go_num, rfl, by omega, by omega, by rw [take_snoc HK.out, stG_some HG.out]; exact hd7, hB7, hr7, by omega⟩
            case measure => simp [intOf]; omega
        · have hkb : ∀ x ∈ List.replicate xs.length blankE, x.key.size ≤ maxLen := by
            intro x hx1
            rw [(List.mem_replicate.1 hx1).2]
            exact Nat.zero_le _
          have hRM := hMC wr
          have hbelM : Below w.heap.size w (wr.alloc (.cells MC 27)) := by ((repeat (first | exact Below.refl _ _ | assumption | refine Below.alloc ?_ (by first | omega | (simp; done) | (simp; omega)) _ | refine Below.setCell ?_ (by first | omega | (simp; done) | (simp; omega)) _ | refine Below.drew ?_ | refine below_drewN ?_ _)); done)
          clear hMC hrk hx' hrc' hdk
          go_wp2_with fail
          refine (align_any _ hRM hRM (Nat.le_refl _) (by simp; omega) (by simp; omega) hkb hkb).mono ?_
          rintro e w7 ⟨v7, rfl, hr7, hb7⟩
          change Rd encI 1 w7 w7.heap.size v7 (TT (List.replicate xs.length blankE) (List.replicate xs.length blankE)) at hr7
          rw [TT_blank] at hr7
          have hB7 := hbelM.trans (hb7.mono hbelM.size)
          have hr7' := hr7
          obtain ⟨A7, cap7, rfl, h71, h72, -⟩ := hr7
          simp only [List.length_map, List.length_range] at hr7' h71 ⊢
          unfold maxLen at h72
          go_wp2_with fail
          go_loopw [16] (fun i wr => ∃ (k : Nat), k ≤ xs.length ∧ i = .int .i64 k ∧ wr = w7) (fun i _ => xs.length - (intOf i).toNat)
          case atStart => exact ⟨0, Nat.zero_le _, rfl, rfl⟩
          case round =>
            obtain ⟨k, hk, rfl, rfl⟩ := hrel
            by_cases hlt : k < xs.length
            · have hget : ((List.range xs.length).map (fun (i : Nat) => (i : Int)))[k]? = some (k : Int) := by simp [hlt]
              obtain ⟨b, off, rfl, hb, hc⟩ := hr7'.at_ hget
              have c1 : wr.cell? ⟨b, off + k, none⟩ = some (.int .i64 k) := by simpa using hc k _ hget 0 _ rfl
              clear hc hget
              go_wp2_with fail
              go_roundw
              case rel => exact ⟨k + 1, by omega, by go_num, trivial⟩
              case measure => simp [intOf]; omega
            · go_wp2_with fail
              refine (awake_any _).mono ?_
              rintro e w12 ⟨rfl, hb12⟩
              go_wp2_with fail
              go_ret
              exact ⟨rfl, hB7.trans (hb12.mono hB7.size)⟩
    · have hd : (40 : Int) < ys.length := by omega
      go_enter Try.func4, Try.ntmps4
      go_wp2_with fail
      refine (awake_any _).mono ?_
      rintro e w12 ⟨rfl, hb12⟩
      go_wp2_with fail
      go_ret
      exact ⟨rfl, hb12⟩
  · have hd : (40 : Int) < xs.length := by omega
    go_enter Try.func4, Try.ntmps4
    go_wp2_with fail
    refine (awake_any _).mono ?_
    rintro e w12 ⟨rfl, hb12⟩
    go_wp2_with fail
    go_ret
    exact ⟨rfl, hb12⟩
end Go.Proofs.Ytddnphidmpidcaa
