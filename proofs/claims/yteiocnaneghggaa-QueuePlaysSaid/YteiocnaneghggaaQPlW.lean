import Derived.Test.YteiocnaneghggaaQPl
namespace Go.Proofs.Yteiocnaneghggaa
open Go Go.RowKit

theorem peek_none {w : World} {q : Nat} {kk : Bool} {no : Nat} {F : Nat → Prop} (Q : QI w q kk [] no F) : Calls Try.prog 10 #[.pointer (some ⟨q, 0, none⟩)] w fun e w' => e = .returned (.tuple #[.agg #[.int .i64 0, .int .i64 0], .int .i64 16]) ∧ Below w.heap.size w w' := by
  refine (peek_any (to_O kk) Q).mono ?_
  rintro e w' ⟨⟨m, h, _⟩ | ⟨_, h⟩, hb⟩
  · exact absurd h.1 (by simp)
  · exact ⟨h, hb⟩

set_option maxHeartbeats 8000000 in
set_option maxRecDepth 100000 in
theorem plays_walk {v : Value} {ops : List OpC} (w : World) (hx : Rd encO 2 w w.heap.size v ops) : Calls Try.prog 5 #[v] w fun e w' => e = .returned (.bool true) ∧ Below w.heap.size w w' := by
  have hx' := hx
  obtain ⟨A, cap, rfl, h1, h2, -⟩ := hx
  unfold maxLen at h2
  have hnew := new_any false w
  unfold ovT at hnew
  simp only [Bool.false_eq_true, if_false] at hnew
  by_cases hn : ops.length ≤ 100
  · have hd : decide ((100 : Int) < ops.length) = false := decide_eq_false (by omega)
    go_enter Try.func5, Try.ntmps5
    go_wp2_with fail
    refine hnew.mono ?_
    rintro e w1 ⟨q, hq, rfl, Q1, hb1⟩
    clear hnew
    have hz1 := hb1.size
    go_wp2_with fail
    go_loopw [5, 6, 7, 8, 9, 10] (fun row i _ _ _ _ wr => ∃ (k no : Nat) (S : List It) (F : Nat → Prop) (rv : Value), rv = row ∧ k ≤ ops.length ∧ i = .int .i64 k ∧ Hid (no ≤ k ∧ S.length ≤ k) ∧ Playing w wr q no S F rv ∧ Below w.heap.size w wr) (fun _ i _ _ _ _ _ => ops.length - (intOf i).toNat)
    case atStart => exact ⟨0, 0, [], _, _, rfl, Nat.zero_le _, rfl, ⟨Nat.le_refl _, Nat.le_refl _⟩, ⟨Q1.tight, Own.nil _ _ _ _ _, fun j hj => hj, by simp [Value.ownBlock], InRow.nil⟩, hb1⟩
    case round =>
      obtain ⟨k, no, S, F, rv, rfl, hk, rfl, hno, hP, hbel⟩ := hrel
      have hsz := hbel.size
      by_cases hlt : k < ops.length
      · obtain ⟨⟨a, r⟩, hop⟩ := get_lt hlt
        obtain ⟨b, off, rfl, hb, hc⟩ := (hx'.below hbel (Nat.le_refl _)).at_ hop
        have c0 : wr.cell? ⟨b, off + k * 2, none⟩ = some (.int .i64 a) := hc k _ hop 0 _ rfl
        have c1 : wr.cell? ⟨b, off + k * 2 + 1, none⟩ = some (.int .i64 r) := hc k _ hop 1 _ rfl
        obtain ⟨hno1, hSl⟩ := hno.out
        have hSl2 : (S.map It.x).length ≤ 100 := by rw [List.length_map]; omega
        clear hc hop hno
        by_cases ha0 : a = 0
        · subst ha0
          have hbw : b < wr.heap.size := by omega
          obtain ⟨W, hW⟩ : ∃ W, W = (wr.alloc (.cells #[.int .i64 r, .int .i64 (k : Int)] 24)).alloc (.cells #[.int .i64 r, .int .i64 (k : Int)] 24) := ⟨_, rfl⟩
          have hbW : Below wr.heap.size wr W := by rw [hW]; ((repeat (first | exact Below.refl _ _ | assumption | refine Below.alloc ?_ (by first | omega | (simp; done) | (simp; omega)) _ | refine Below.setCell ?_ (by first | omega | (simp; done) | (simp; omega)) _ | refine Below.drew ?_ | refine below_drewN ?_ _)); done)
          have gY : W.heap[wr.heap.size]? = some (.cells #[.int .i64 r, .int .i64 (k : Int)] 24 (0, 0)) := by rw [hW]; exact (heap_alloc_old _ _ (by simp)).trans (heap_alloc_new _ _)
          have gX : W.heap[wr.heap.size + 1]? = some (.cells #[.int .i64 r, .int .i64 (k : Int)] 24 (0, 0)) := by rw [hW]; exact heap_alloc_new2 _ _ _
          have hzW : W.heap.size = wr.heap.size + 2 := by rw [hW]; simp
          have hPW := hP.below hbW
          have hoW := hPW.own
          have hrl := hP.own.lt
          have ST : ∀ v8 w8, Own Th.enc 2 24 w8 w.heap.size v8 (S.map It.x ++ [⟨r, (k : Int)⟩]) → Only (fun k => rv.ownBlock = some k) W w8 → (v8.ownBlock = rv.ownBlock ∨ v8.ownBlock = some W.heap.size) → w8.cell? ⟨wr.heap.size, 0, none⟩ = some (.int .i64 r) ∧ w8.cell? ⟨wr.heap.size, 1, none⟩ = some (.int .i64 (k : Int)) ∧ wr.heap.size < w8.heap.size ∧ w.heap.size ≤ w8.heap.size ∧ Hid (QI w8 q false S no F ∧ Below w.heap.size w w8) := by
            intro v8 w8 i1 i2 i3
            have hs8 := i2.size
            have g8 := (i2.block wr.heap.size (by omega) (fun hf => by have := (hrl _ hf).2; omega)).trans gY
            refine ⟨by rw [cell_of_row _ _ _ _ _ _ g8]; rfl, by rw [cell_of_row _ _ _ _ _ _ g8]; rfl, by omega, by omega, hPW.que.only i2 (fun k hf hk => hPW.apart k hk hf), ?_⟩
            exact (hbel.trans (hbW.mono hsz)).trans (i2.below (by omega) (fun j hj hf => by have := (hrl j hf).1; omega))
          have hwW : w.heap.size ≤ W.heap.size := by omega
          have HP := Lib.hid hP
          clear gY hrl hPW hzW hP
          go_wp2_with (at_builtin; rw [← hW]; refine wpList_append_one W (by rfl) _ _ _ (by rfl) Th.enc Th.enc_len Th.enc_one T41 w.heap.size _ (S.map It.x) (by rfl) hoW ⟨r, (k : Int)⟩ _ #[.int .i64 r, .int .i64 (k : Int)] (by rfl) (by rfl) gX (by omega) hwW ?_; intro v8 w8 hown8 hb8 hO8 hloc8; obtain ⟨y0, y1, hlt8, hN8, hfin8⟩ := ST v8 w8 hown8 hO8 hloc8)
          have hp := put_any (to_O false) hfin8.out.1 ⟨r, (k : Int)⟩ (by omega) (by omega)
          unfold Th.val at hp
          refine hp.mono ?_
          rintro e w9 ⟨rfl, Q9, hO9⟩
          clear hp
          have hb9 := hfin8.out.2.trans (hO9.below (by omega) (fun j hj hf => by have := (HP.out.inF j hf).1; omega))
          have hP9 := Lib.hid (HP.out.put hbW hown8 hO8 hloc8 Q9 hO9 hsz)
          have hq9 := qlen_any Q9
          obtain ⟨A8, cap8, rfl⟩ := hown8.len_val
          obtain ⟨nn, hnn⟩ : ∃ nn, nn = S.length + 1 := ⟨_, rfl⟩
          rw [show (S ++ [(⟨⟨r, (k : Int)⟩, (no : Int)⟩ : It)]).length = nn by rw [hnn]; simp] at hq9
          rw [show (S.map It.x ++ [(⟨r, (k : Int)⟩ : Th)]).length = nn by rw [hnn]; simp] at hP9 ⊢
          have hnn2 : Hid (no + 1 ≤ k + 1 ∧ (S ++ [(⟨⟨r, (k : Int)⟩, (no : Int)⟩ : It)]).length ≤ k + 1) := ⟨by omega, by simp; omega⟩
          clear hown8 hb8 hO8 hloc8 Q9 hO9 hnn HP hoW gX
          go_wp2_with fail
          refine hq9.mono ?_
          rintro e w10 ⟨rfl, hb10⟩
          clear hq9
          go_wp2_with fail
          go_roundw
          case rel => exact ⟨k + 1, no + 1, _, _, _, rfl, by omega, by go_num, hnn2, hP9.out.below hb10, hb9.trans (hb10.mono hb9.size)⟩
          case measure => simp [intOf]; omega
        · have ha0' : (a == 0) = false := by simp [ha0]
          have hnx : Hid (no ≤ k + 1 ∧ S.length ≤ k + 1) := ⟨by omega, by omega⟩
          have hrd := hP.own.rd Th.enc_len (by simp only [maxLen]; omega)
          have hfi := first_any wr hrd (Nat.le_refl _) (by omega)
          obtain ⟨Ar, cr, rfl⟩ := hP.own.len_val
          rw [List.length_map] at hP hrd hfi ⊢
          have HP := Lib.hid hP
          have hbw : b < wr.heap.size := by omega
          clear hP hSl2
          go_wp2_with fail
          refine hfi.mono ?_
          rintro e w3 ⟨⟨hS, rfl⟩ | ⟨i, x, hF, rfl⟩, hb3⟩
          · obtain rfl : S = [] := by simpa using hS
            clear hS hfi hrd
            have hP3 := Lib.hid (HP.out.below hb3)
            have hpk := peek_none hP3.out.que
            have c0' := Below.cell_some hb3 c0 hbw
            have hz3 := hb3.size
            go_wp2_with fail
            refine hpk.mono ?_
            rintro e w4 ⟨rfl, hb4⟩
            clear hpk
            have hz4 := hb4.size
            have c0'' := Below.cell_some hb4 c0' (show b < w3.heap.size by omega)
            have hb34 := hb3.trans (hb4.mono hz3)
            have hbw4 : b < w4.heap.size := by omega
            by_cases ha1 : a = 1
            · have ha1' : (a == 1) = true := by simp [ha1]
              have hb5 : Below w4.heap.size w4 (w4.alloc (.cells #[.int .i64 0, .int .i64 0] 24)) := by ((repeat (first | exact Below.refl _ _ | assumption | refine Below.alloc ?_ (by first | omega | (simp; done) | (simp; omega)) _ | refine Below.setCell ?_ (by first | omega | (simp; done) | (simp; omega)) _ | refine Below.drew ?_ | refine below_drewN ?_ _)); done)
              have g5 := heap_alloc_new w4 (.cells #[.int .i64 0, .int .i64 0] 24)
              have htk := take_none ((hP3.out.below hb4).below hb5).que
              clear ha1
              go_wp2_with fail
              refine htk.mono ?_
              rintro e w6 ⟨rfl, hb6⟩
              clear htk
              have hz6 := hb6.size
              simp only [heap_size_alloc''] at hz6
              have g6 := (hb6.block w4.heap.size (by simp)).trans g5
              have k0 : w6.cell? ⟨w4.heap.size, 0, none⟩ = some (.int .i64 0) := by rw [cell_of_row _ _ _ _ _ _ g6]; rfl
              have k1 : w6.cell? ⟨w4.heap.size, 1, none⟩ = some (.int .i64 0) := by rw [cell_of_row _ _ _ _ _ _ g6]; rfl
              have f0 : w6.frozen? ⟨w4.heap.size, 0, none⟩ = false := frozen_of_row _ _ _ _ _ g6
              have f1 : w6.frozen? ⟨w4.heap.size, 1, none⟩ = false := frozen_of_row _ _ _ _ _ g6
              have hb36 : Below wr.heap.size wr w6 := hb34.trans ((hb5.trans (hb6.mono hb5.size)).mono (by omega))
              have hlt46 : w4.heap.size < w6.heap.size := by omega
              clear g5 g6 hb5 hb6
              go_wp2_with fail
              have hbF : Below wr.heap.size wr ((w6.setCell ⟨w4.heap.size, 0, none⟩ (.int .i64 0)).setCell ⟨w4.heap.size, 1, none⟩ (.int .i64 0)) := by ((repeat (first | exact Below.refl _ _ | assumption | refine Below.alloc ?_ (by first | omega | (simp; done) | (simp; omega)) _ | refine Below.setCell ?_ (by first | omega | (simp; done) | (simp; omega)) _ | refine Below.drew ?_ | refine below_drewN ?_ _)); done)
              go_roundw
              case rel => exact ⟨k + 1, no, [], F, _, rfl, by omega, by go_num, hnx, HP.out.below hbF, hbel.trans (hbF.mono hsz)⟩
              case measure => simp [intOf]; omega
            · have ha1' : (a == 1) = false := by simp [ha1]
              go_wp2_with fail
              have hbF : Below wr.heap.size wr (w4.alloc (.cells #[.int .i64 0, .int .i64 0] 24)) := by ((repeat (first | exact Below.refl _ _ | assumption | refine Below.alloc ?_ (by first | omega | (simp; done) | (simp; omega)) _ | refine Below.setCell ?_ (by first | omega | (simp; done) | (simp; omega)) _ | refine Below.drew ?_ | refine below_drewN ?_ _)); done)
              go_roundw
              case rel => exact ⟨k + 1, no, [], F, _, rfl, by omega, by go_num, hnx, HP.out.below hbF, hbel.trans (hbF.mono hsz)⟩
              case measure => simp [intOf]; omega
          · obtain ⟨y, hy, rfl, hly⟩ := HP.out.inrow.first (by rw [List.length_map]; exact hF)
            have hiS : i < S.length := (List.getElem?_eq_some_iff.1 hy).1
            have hxi : (S.map It.x)[i]? = some y.x := by rw [List.getElem?_map, hy]; rfl
            have HY := Lib.hid hy
            have HL := Lib.hid hly
            have HXI := Lib.hid hxi
            have hP3 := Lib.hid (HP.out.below hb3)
            have hSne : S ≠ [] := fun e => by rw [e] at hiS; simp at hiS
            have hpk := peek_some hP3.out.que hSne
            have c0' := Below.cell_some hb3 c0 hbw
            have hz3 := hb3.size
            have hrl : ∀ j, (Value.slice Ar S.length cr).ownBlock = some j → j < wr.heap.size := fun j hj => (HP.out.own.lt j hj).2
            have hHRL := Lib.hid hrl
            clear hfi hF hy hly hxi hrl
            go_wp2_with fail
            refine hpk.mono ?_
            rintro e w4 ⟨⟨m, hm, rfl⟩, hb4⟩
            obtain rfl := HP.out.inrow.one hm HL.out
            clear hpk hm
            have hz4 := hb4.size
            have c0'' := Below.cell_some hb4 c0' (show b < w3.heap.size by omega)
            have hb34 := hb3.trans (hb4.mono hz3)
            have hbw4 : b < w4.heap.size := by omega
            have hP4 := Lib.hid (hP3.out.below hb4)
            have hb5 : Below w4.heap.size w4 (w4.alloc (.cells #[.int .i64 m.x.rank, .int .i64 m.x.id] 24)) := by ((repeat (first | exact Below.refl _ _ | assumption | refine Below.alloc ?_ (by first | omega | (simp; done) | (simp; omega)) _ | refine Below.setCell ?_ (by first | omega | (simp; done) | (simp; omega)) _ | refine Below.drew ?_ | refine below_drewN ?_ _)); done)
            have g5 := heap_alloc_new w4 (.cells #[.int .i64 m.x.rank, .int .i64 m.x.id] 24)
            have hz5 : (w4.alloc (.cells #[.int .i64 m.x.rank, .int .i64 m.x.id] 24)).heap.size = w4.heap.size + 1 := by simp
            have hP5 := Lib.hid (hP4.out.below hb5)
            by_cases ha1 : a = 1
            · have ha1' : (a == 1) = true := by simp [ha1]
              have htk := take_some hP5.out.que (by omega) hSne
              clear ha1 hP3 hP4 hSne
              go_wp2_with fail
              refine htk.mono ?_
              rintro e w6 ⟨m2, S', hm2, hp, rfl, Q6, hO6⟩
              obtain rfl := HP.out.inrow.one hm2 HL.out
              clear htk
              have hz6 := hO6.size
              rw [hz5] at hz6
              have hFw : ∀ j, F j → j < wr.heap.size := fun j hj => (HP.out.inF j hj).2
              have g6 := (hO6.block w4.heap.size (by rw [hz5]; omega) (fun hf => by have := hFw _ hf; omega)).trans g5
              have k0 : w6.cell? ⟨w4.heap.size, 0, none⟩ = some (.int .i64 m2.x.rank) := by rw [cell_of_row _ _ _ _ _ _ g6]; rfl
              have k1 : w6.cell? ⟨w4.heap.size, 1, none⟩ = some (.int .i64 m2.x.id) := by rw [cell_of_row _ _ _ _ _ _ g6]; rfl
              have f0 : w6.frozen? ⟨w4.heap.size, 0, none⟩ = false := frozen_of_row _ _ _ _ _ g6
              have f1 : w6.frozen? ⟨w4.heap.size, 1, none⟩ = false := frozen_of_row _ _ _ _ _ g6
              have hown6 := hP5.out.own.kept hO6 (fun j hj hf => HP.out.apart j hj hf)
              have hrd6 := hown6.rd Th.enc_len (by rw [List.length_map]; simp only [maxLen]; omega)
              have hbr6 : Below w.heap.size wr w6 := ((hb34.trans (hb5.mono (by omega))).mono hsz).trans (hO6.below (by omega) (fun j hj hf => by have := (HP.out.inF j hf).1; omega))
              have c06 := Below.cell_some hbr6 c0 hb
              obtain ⟨b2, off2, rfl, hb2, hc2⟩ := hrd6.at_ HXI.out
              have hb2w : b2 < w4.heap.size := by have := hHRL.out b2 rfl; omega
              have r0 : w6.cell? ⟨b2, off2 + i * 2, none⟩ = some (.int .i64 m2.x.rank) := hc2 i _ HXI.out 0 _ rfl
              have r1 : w6.cell? ⟨b2, off2 + i * 2 + 1, none⟩ = some (.int .i64 m2.x.id) := hc2 i _ HXI.out 1 _ rfl
              have hlt46 : w4.heap.size < w6.heap.size := by omega
              have hbw6 : b < w6.heap.size := by omega
              have hb26 : b2 < w6.heap.size := by omega
              have hi0 : decide ((i : Int) < 0) = false := decide_eq_false (by omega)
              have ST : ∀ W, Only (fun k => k = w4.heap.size) w6 W → Own Th.enc 2 24 W w.heap.size (.slice (some ⟨b2, off2, none⟩) S.length cr) (S.map It.x) ∧ QI W q false S' no F ∧ Below w.heap.size wr W := fun W hO =>
                ⟨hown6.kept hO (fun j hj e => by have := hHRL.out j hj; omega), Q6.only hO (fun j hf e => by have := hFw j hf; omega), hbr6.trans (hO.below (by omega) (fun j hj e => by omega))⟩
              have hST := Lib.hid ST
              have HQ := Lib.hid hp
              clear hc2 ST hrd6 hown6 hbr6 g6 hm2 hp Q6 hO6 hb5 g5 hz5 hP5
              go_wp2_with fail
              go_quiet (fail)
              obtain ⟨W, hW⟩ : ∃ W, W = ((w6.setCell ⟨w4.heap.size, 0, none⟩ (.int .i64 m2.x.rank)).setCell ⟨w4.heap.size, 1, none⟩ (.int .i64 m2.x.id)).drewN nq := ⟨_, rfl⟩
              have hOW : Only (fun k => k = w4.heap.size) w6 W := by rw [hW]; exact ((only_setCell _ _ _ _).trans (only_setCell _ _ _ _)).drewN nq
              obtain ⟨ownW, QW, bW⟩ := hST.out W hOW
              have hrdW := ownW.rd Th.enc_len (by rw [List.length_map]; simp only [maxLen]; omega)
              have hout := out_own W hrdW (Nat.le_refl _) (by rw [List.length_map]; omega) (by rw [List.length_map]; exact hiS)
              have hzW := hOW.size
              have hrp := rest_perm HY.out HQ.out
              have hne8 : ((S.map It.x).eraseIdx i).length = S'.length := by rw [← map_erase, List.length_map]; exact hrp.length_eq.symm
              have hS'l : S'.length ≤ k := by
                have := hrp.length_eq
                have h2 := List.length_eraseIdx_le S i
                omega
              have HRP := Lib.hid hrp
              have HNE := Lib.hid hne8
              have HO := Lib.hid (show Only (fun k => k = w4.heap.size) w6 W ∧ QI W q false S' no F ∧ Below w.heap.size wr W from ⟨hOW, QW, bW⟩)
              have hWlt : b < W.heap.size := by omega
              have c0W : W.cell? ⟨b, off + k * 2, none⟩ = some (.int .i64 a) := Below.cell_some bW c0 hb
              clear hST hrp hne8 hOW ownW QW bW hrdW
              rw [← hW]
              clear hW
              go_wp2_with fail
              refine hout.mono ?_
              rintro e w8 ⟨u, rfl, hu, hb8⟩
              clear hout
              have hz8 := hb8.size
              have hul := hu.lt
              have Q8 := HO.out.2.1.below hb8
              have hb8r := HO.out.2.2.trans (hb8.mono (by have := HO.out.2.2.size; omega))
              have hq8 := qlen_any Q8
              obtain ⟨A8, c8, rfl⟩ := hu.len_val
              rw [HNE.out] at hul ⊢
              have hP8 : Hid (Playing w w8 q no (S.eraseIdx i) F (.slice A8 S'.length c8)) := by
                refine ⟨Q8.perm HRP.out, ?_, fun j hj => ⟨(HP.out.inF j hj).1, by have := hFw j hj; omega⟩, fun j hj hf => by have := (hul j hj).1; have := hFw j hf; omega, HP.out.inrow.out i⟩
                rw [map_erase, ← HNE.out]
                exact hu.based (by omega)
              have hnx2 : Hid (no ≤ k + 1 ∧ (S.eraseIdx i).length ≤ k + 1) := ⟨by omega, by rw [← HRP.out.length_eq]; omega⟩
              obtain ⟨nn, hnn⟩ : ∃ nn, nn = S'.length := ⟨_, rfl⟩
              rw [← hnn] at hP8 hq8 ⊢
              clear hu hul Q8 hnn hS'l
              go_wp2_with fail
              refine hq8.mono ?_
              rintro e w9 ⟨rfl, hb9⟩
              clear hq8
              go_wp2_with fail
              go_roundw
              case rel => exact ⟨k + 1, no, _, F, _, rfl, by omega, by go_num, hnx2, hP8.out.below hb9, hbel.trans (hb8r.trans (hb9.mono (by omega)))⟩
              case measure => simp [intOf]; omega
            · have ha1' : (a == 1) = false := by simp [ha1]
              have hrd5 := hP5.out.own.rd Th.enc_len (by rw [List.length_map]; simp only [maxLen]; omega)
              obtain ⟨b2, off2, rfl, hb2, hc2⟩ := (hP4.out.own.rd Th.enc_len (by rw [List.length_map]; simp only [maxLen]; omega)).at_ HXI.out
              have hb2w : b2 < w4.heap.size := by have := hHRL.out b2 rfl; omega
              have r0 : w4.cell? ⟨b2, off2 + i * 2, none⟩ = some (.int .i64 m.x.rank) := hc2 i _ HXI.out 0 _ rfl
              have r1 : w4.cell? ⟨b2, off2 + i * 2 + 1, none⟩ = some (.int .i64 m.x.id) := hc2 i _ HXI.out 1 _ rfl
              have hi0 : decide ((i : Int) < 0) = false := decide_eq_false (by omega)
              clear hc2 hrd5 hSne hP3 g5
              go_wp2_with fail
              go_quiet (fail)
              have hbD : Below (w4.alloc (.cells #[.int .i64 m.x.rank, .int .i64 m.x.id] 24)).heap.size (w4.alloc (.cells #[.int .i64 m.x.rank, .int .i64 m.x.id] 24)) ((w4.alloc (.cells #[.int .i64 m.x.rank, .int .i64 m.x.id] 24)).drewN nq) := below_drewN (Below.refl _ _) _
              have hP6 := Lib.hid (hP5.out.below hbD)
              have hb6r := (hb34.trans (hb5.mono (by omega))).trans (hbD.mono (by rw [hz5]; omega))
              have hql := qlen_any hP6.out.que
              obtain ⟨nn, hnn⟩ : ∃ nn, nn = S.length := ⟨_, rfl⟩
              rw [← hnn] at hql hP6 ⊢
              clear hP5 hP4 hbD hb5 hnn HP hHRL
              go_wp2_with fail
              refine hql.mono ?_
              rintro e w9 ⟨rfl, hb9⟩
              clear hql
              have hb9r := hb6r.trans (hb9.mono (by have := hb6r.size; omega))
              go_wp2_with fail
              go_roundw
              case rel => exact ⟨k + 1, no, S, F, _, rfl, by omega, by go_num, hnx, hP6.out.below hb9, hbel.trans (hb9r.mono hsz)⟩
              case measure => simp [intOf]; omega
      · go_wp2_with fail
        refine (awake_any _).mono ?_
        rintro e w6 ⟨rfl, hb6⟩
        go_wp2_with fail
        go_ret
        exact ⟨rfl, hbel.trans (hb6.mono hsz)⟩
  · have hd : decide ((100 : Int) < ops.length) = true := decide_eq_true (by omega)
    go_enter Try.func5, Try.ntmps5
    go_wp2_with fail
    refine hnew.mono ?_
    rintro e w1 ⟨q, hq, rfl, Q1, hb1⟩
    clear hnew
    go_wp2_with fail
    refine (awake_any _).mono ?_
    rintro e w6 ⟨rfl, hb6⟩
    go_wp2_with fail
    go_ret
    exact ⟨rfl, hb1.trans (hb6.mono hb1.size)⟩
end Go.Proofs.Yteiocnaneghggaa
