import Derived.Test.YteiocnaneghggaaQMg
import Derived.WalkMore
namespace Go.Proofs.Yteiocnaneghggaa
open Go Go.RowKit

theorem fallsB_mks {lss : List (List Int)} {r : Bool} (h : r = true ↔ ∀ (j : Nat) (l : List Int), j < lss.length → lss[j]? = some l → RisesP (madeL l (100 * (j : Int)))) : fallsB (mks lss) = !r := by
  cases r
  · rw [Bool.not_false, ← Bool.not_eq_false, fallsB_false]
    intro hall
    have := h.2 (fun j l _ hl => hall _ (List.mem_of_getElem? (mks_get hl)))
    cases this
  · rw [Bool.not_true, fallsB_false]
    intro xs hx
    obtain ⟨j, hj⟩ := List.mem_iff_getElem?.1 hx
    obtain ⟨l, hl, rfl⟩ := mks_inv hj
    exact h.1 rfl j l (List.getElem?_eq_some_iff.1 hl).1 hl

set_option maxHeartbeats 8000000 in
set_option maxRecDepth 100000 in
theorem merges_walk {v : Value} {lss : List (List Int)} (w : World) (hx : RdLI w w.heap.size v lss) : Calls Try.prog 7 #[v] w fun e w' => e = .returned (.bool true) ∧ Below w.heap.size w w' := by
  obtain ⟨vs, hv, hlen, hel⟩ := hx
  have HL := Lib.hid hlen
  clear hlen
  have hv' := hv
  obtain ⟨A, cap, rfl, h1, h2, -⟩ := hv
  unfold maxLen at h2
  by_cases hn : vs.length ≤ 10
  · have hd : decide ((10 : Int) < vs.length) = false := decide_eq_false (by omega)
    go_enter Try.func7, Try.ntmps7
    go_wp2_with fail
    go_loopw [3, 4, 5, 6] (fun li ri i _ wr => ∃ (k : Nat) (r : Bool) (ss : List SV) (lv : Value), lv = li ∧ k ≤ vs.length ∧ ri = .bool r ∧ i = .int .i64 k ∧ Making lss wr w.heap.size k li ss ∧ Hid (r = true ↔ ∀ (j : Nat) (l : List Int), j < k → lss[j]? = some l → RisesP (madeL l (100 * (j : Int)))) ∧ Hid (∀ (j : Nat) (l : List Int), j < k → lss[j]? = some l → l.length ≤ 40) ∧ Below w.heap.size w wr) (fun _ _ i _ _ => vs.length - (intOf i).toNat)
    case atStart => exact ⟨0, true, [], _, rfl, Nat.zero_le _, rfl, rfl, Making.nil _ _ _, by unfold Hid; simp, by unfold Hid; simp, Below.refl _ _⟩
    case round =>
      obtain ⟨k, r, ss, lv, rfl, hk, rfl, rfl, hM, hR, hF, hbel⟩ := hrel
      have hsz := hbel.size
      by_cases hlt : k < vs.length
      · obtain ⟨U, hU⟩ := get_lt hlt
        obtain ⟨l, hl⟩ := get_lt (show k < lss.length by rw [← HL.out]; exact hlt)
        obtain ⟨b, off, rfl, hb, hc⟩ := (hv'.below hbel (Nat.le_refl _)).at_ hU
        have c1 : wr.cell? ⟨b, off + k, none⟩ = some U := by simpa using hc k _ hU 0 _ rfl
        have hrl := (hel k U l hU hl).below hbel (Nat.le_refl _)
        have hrl' := hrl
        obtain ⟨AU, capU, rfl, hU1, hU2, -⟩ := hrl
        have HLk := Lib.hid hl
        clear hc hU hl
        by_cases h40 : l.length ≤ 40
        · have hd2 : decide ((40 : Int) < l.length) = false := decide_eq_false (by omega)
          have hm := made_own (f := 100 * k) wr hrl' hsz (by omega) (by omega)
          rw [show ((100 * k : Nat) : Int) = 100 * (k : Int) by omega] at hm
          have hF2 : Hid (∀ (j : Nat) (l : List Int), j < k + 1 → lss[j]? = some l → l.length ≤ 40) := by
            intro j l' hj hl'
            by_cases e : j = k
            · subst e
              rw [HLk.out] at hl'; cases hl'; exact h40
            · exact hF.out j l' (by omega) hl'
          go_wp2_with fail
          refine hm.mono ?_
          rintro e w4 ⟨u4, rfl, hown4, hb4⟩
          clear hm
          have hz4 := hb4.size
          obtain ⟨A4, cap4, rfl⟩ := hown4.len_val
          have hM4 := hM.below hb4
          have hrd4 := hown4.rd Th.enc_len (by rw [madeL_len]; simp only [maxLen]; omega)
          have hvl : ∀ b, lv.ownBlock = some b → b < wr.heap.size := fun b hb => (hM.own.lt b hb).2
          have hss : ss.length ≤ 1000 := by rw [hM.len]; omega
          have hml : (madeL l (100 * (k : Int))).length ≤ 100000 := by rw [madeL_len]; omega
          obtain ⟨m, hm⟩ : ∃ m, m = (madeL l (100 * (k : Int))).length := ⟨_, rfl⟩
          rw [← hm] at hml
          have HM := Lib.hid hm
          rw [← hm] at hown4 hrd4 ⊢
          clear hm hM
          have hT : Hid (∀ r' : Bool, (r' = true ↔ (r = true ∧ RisesP (madeL l (100 * (k : Int))))) → (r' = true ↔ ∀ (j : Nat) (l : List Int), j < k + 1 → lss[j]? = some l → RisesP (madeL l (100 * (j : Int))))) := by
            intro r' hr'
            rw [hr']
            constructor
            · rintro ⟨h1, h2⟩ j l' hj hl'
              by_cases e : j = k
              · subst e
                rw [HLk.out] at hl'; cases hl'; exact h2
              · exact hR.out.1 h1 j l' (by omega) hl'
            · intro h
              exact ⟨hR.out.2 (fun j l' hj hl' => h j l' (by omega) hl'), h k l (by omega) HLk.out⟩
          clear hR
          cases r
          all_goals
            go_wp2_with (at_builtin; refine wpList_append_one _ (by rfl) _ _ _ (by rfl) encS encS_len encS_one T50 w.heap.size _ ss (by rfl) (hM4.own.below (by ((repeat (first | exact Below.refl _ _ | assumption | refine Below.alloc ?_ (by first | omega | (simp; done) | (simp; omega)) _ | refine Below.setCell ?_ (by first | omega | (simp; done) | (simp; omega)) _ | refine Below.drew ?_ | refine below_drewN ?_ _)); done))) ⟨A4, m, cap4⟩ _ #[.slice A4 m cap4] (by rfl) (by rfl) (heap_alloc_new _ _) (by omega) (by simp; omega) ?_; intro v5 w5 hown5 hb5 hO5 hloc5)
            have hM5 := Lib.hid (Making.more hM4 HLk.out (s := ⟨A4, m, cap4⟩) (n := wr.heap.size) hown4 hsz hvl hown5 (Only.trans (Only.of_below (show Below w4.heap.size w4 (w4.alloc (.cells #[.slice A4 m cap4] 41)) by ((repeat (first | exact Below.refl _ _ | assumption | refine Below.alloc ?_ (by first | omega | (simp; done) | (simp; omega)) _ | refine Below.setCell ?_ (by first | omega | (simp; done) | (simp; omega)) _ | refine Below.drew ?_ | refine below_drewN ?_ _)); done)) _) hO5) (by
              rcases hloc5 with h | h
              · exact Or.inl h
              · exact Or.inr ⟨_, h, by simp⟩))
            have hb45 : Below w.heap.size w4 w5 := Below.trans (by ((repeat (first | exact Below.refl _ _ | assumption | refine Below.alloc ?_ (by first | omega | (simp; done) | (simp; omega)) _ | refine Below.setCell ?_ (by first | omega | (simp; done) | (simp; omega)) _ | refine Below.drew ?_ | refine below_drewN ?_ _)); done)) hb5
            have hb05 := (hbel.trans (hb4.mono hsz)).trans hb45
          · clear hO5 hloc5 hown5 hb5 hrd4 hM4
            go_roundw
            case rel => exact ⟨k + 1, false, _, _, rfl, by omega, rfl, by go_num, hM5.out, hT.out false (by simp), hF2, hb05⟩
            case measure => simp [intOf]; omega
          · have hrd5 : Rd Th.enc 2 w5 w5.heap.size (.slice A4 m cap4) (madeL l (100 * (k : Int))) := by
              refine (hM5.out.each k ⟨A4, m, cap4⟩ l ?_ HLk.out).1.rd Th.enc_len (by rw [← HM.out]; simp only [maxLen]; omega)
              rw [List.getElem?_append_right (by rw [hM4.len]; exact Nat.le_refl _), hM4.len]
              simp
            have hri := rises_any w5 hrd5 (Nat.le_refl _) (by rw [← HM.out]; omega)
            clear hO5 hloc5 hown5 hb5 hrd4 hM4 hrd5
            have hsz5 := hb05.size
            refine hri.mono ?_
            rintro e w6 ⟨rfl, hb6⟩
            have hM6 := Lib.hid (hM5.out.below hb6)
            obtain ⟨r', hr'⟩ : ∃ r', r' = risesB (madeL l (100 * (k : Int))) := ⟨_, rfl⟩
            have hT' := Lib.hid (hT.out r' (by rw [hr', risesB_true]; simp))
            rw [← hr']
            clear hri hM5 hr' hT
            go_wp2_with fail
            go_roundw
            case rel => exact ⟨k + 1, r', _, _, rfl, by omega, rfl, by go_num, hM6.out, hT', hF2, hb05.trans (hb6.mono hsz5)⟩
            case measure => simp [intOf]; omega
        · have hd2 : decide ((40 : Int) < l.length) = true := decide_eq_true (by omega)
          clear hR hF hM
          go_wp2_with fail
          refine (awake_any _).mono ?_
          rintro e w7 ⟨rfl, hb7⟩
          go_wp2_with fail
          go_ret
          exact ⟨rfl, hbel.trans (hb7.mono hsz)⟩
      · obtain rfl : k = vs.length := by omega
        have hk40 : ∀ l ∈ lss, l.length ≤ 40 := by
          intro l hl
          obtain ⟨j, hj⟩ := List.mem_iff_getElem?.1 hl
          exact hF.out j l (by have := (List.getElem?_eq_some_iff.1 hj).1; have := HL.out; omega) hj
        have hll : lss.length ≤ 10 := by have := HL.out; omega
        have hfb := Lib.hid (fallsB_mks (by rw [← HL.out]; exact hR.out))
        rw [HL.out] at hM
        have hrdL := hM.done (by omega) (fun l hl => Nat.le_trans (hk40 l hl) (by omega))
        have hrows := mks_rows hk40
        have hfl : (mks lss).flatten.length ≤ 400 := by
          have := flatten_le (n := 40) (mks lss) (fun xs hx => by
            obtain ⟨j, hj⟩ := List.mem_iff_getElem?.1 hx
            obtain ⟨l, hl, rfl⟩ := mks_inv hj
            rw [madeL_len]
            exact hk40 l (List.mem_of_getElem? hl))
          rw [mks_len] at this
          have h2 : lss.length * 40 ≤ 10 * 40 := Nat.mul_le_mul_right _ hll
          omega
        have hle : ∀ xs ∈ mks lss, xs.length ≤ 1000 := by
          intro xs hx
          obtain ⟨j, hj⟩ := List.mem_iff_getElem?.1 hx
          obtain ⟨l, hl, rfl⟩ := mks_inv hj
          rw [madeL_len]
          have := hk40 l (List.mem_of_getElem? hl)
          omega
        have hmg := merge_any wr hrdL (by rw [mks_len]; omega) hle (by omega) hrows.lined
        have hrows' := Lib.hid hrows
        have hle' := Lib.hid hle
        clear hM hR hF hk40 hrows hle
        obtain ⟨AL, capL, rfl⟩ : ∃ A cap, lv = .slice A (mks lss).length cap := by
          obtain ⟨vs', ⟨A, cap, h1, -⟩, h2, -⟩ := hrdL
          exact ⟨A, cap, by rw [h1, h2]⟩
        cases r
        all_goals
          go_wp2_with fail
          refine hmg.mono ?_
          clear hmg
        · rintro e w8 ⟨⟨hf, rfl⟩ | ⟨hf, -⟩, hb8⟩
          · clear hf
            go_wp2_with fail
            refine (awake_any _).mono ?_
            rintro e w9 ⟨rfl, hb9⟩
            go_wp2_with fail
            go_ret
            exact ⟨rfl, hbel.trans ((hb8.mono hsz).trans (hb9.mono (Nat.le_trans hsz hb8.size)))⟩
          · have := hfb.out
            rw [hf] at this
            cases this
        · rintro e w8 ⟨⟨hf, -⟩ | ⟨hf, u, out, rfl, hru, hpo, hso⟩, hb8⟩
          · have := hfb.out
            rw [hf] at this
            cases this
          · have href := refmerge_any w8 ((hrdL.below hb8 (Nat.le_refl _)).more hb8.size) (by omega) hrows'.out.flat
            have hru' := hru
            obtain ⟨Au, capu, rfl, -⟩ := hru
            have hpo' := Lib.hid hpo
            have hso' := Lib.hid hso
            have hb08 := hbel.trans (hb8.mono hsz)
            clear hpo hso hf
            go_wp2_with fail
            refine href.mono ?_
            rintro e w9 ⟨⟨u9, out9, rfl, hr9, hp9, hs9⟩, hb9⟩
            have heq := Lib.hid (kl_unique _ _ hso'.out hs9 (hpo'.out.trans hp9.symm))
            have hth := things_any w9 (hru'.next hb9) hr9 (Nat.le_refl _)
            rw [decide_eq_true heq.out] at hth
            have hb09 := hb08.trans (hb9.mono hb08.size)
            clear hp9 hs9 href
            go_wp2_with fail
            refine hth.mono ?_
            rintro e w10 ⟨rfl, hb10⟩
            have hb010 := hb09.trans (hb10.mono hb09.size)
            clear hth
            go_wp2_with fail
            refine (awake_any _).mono ?_
            rintro e w11 ⟨rfl, hb11⟩
            go_wp2_with fail
            go_ret
            exact ⟨rfl, hb010.trans (hb11.mono hb010.size)⟩
  · have hd : decide ((10 : Int) < vs.length) = true := decide_eq_true (by omega)
    go_enter Try.func7, Try.ntmps7
    go_wp2_with fail
    refine (awake_any _).mono ?_
    rintro e w7 ⟨rfl, hb7⟩
    go_wp2_with fail
    go_ret
    exact ⟨rfl, hb7⟩
end Go.Proofs.Yteiocnaneghggaa
