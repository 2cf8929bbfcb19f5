import Derived.Test.YtddnphidmpidcaaKW8
namespace Go.Proofs.Ytddnphidmpidcaa
open Go Go.RowKit

/-- the first place, from k on, that was not taken and matches -/
def refAt (out : List Int) (v : REnt) : List REnt → Nat → Int
  | [], _ => -1
  | s :: ss, k => if (k : Int) ∉ out ∧ REnt.mat v s = true then (k : Int) else refAt out v ss (k + 1)
def refL (ss : List REnt) : List REnt → List Int → List Int
  | [], out => out
  | v :: vs, out => refL ss vs (out ++ [refAt out v ss 0])

/-- as 'RetRd', and the block is the call's own -/
def RetLo {α : Type} (enc : α → List Value) (size : Nat) (w : World) (xs : List α) (e : Ending) (w' : World) : Prop :=
  ∃ v, e = .returned v ∧ Rd enc size w' w'.heap.size v xs ∧ Below w.heap.size w w' ∧ ∀ b, v.ownBlock = some b → w.heap.size ≤ b
theorem Rd.onlyLo {α : Type} {enc : α → List Value} {size B : Nat} {w w' : World} {v : Value} {xs : List α} (h : Rd enc size w B v xs) {S : Nat → Prop} (hO : Only S w w') (hS : ∀ b, v.ownBlock = some b → ¬ S b) : Rd enc size w' B v xs := by
  obtain ⟨A, cap, h0, h1, h2, h3⟩ := h
  refine ⟨A, cap, h0, h1, h2, fun hne => ?_⟩
  obtain ⟨b, off, hA, hb, hc⟩ := h3 hne
  exact ⟨b, off, hA, hb, fun i x hx j u hu => hO.cell (hc i x hx j u hu) (hS b (by rw [h0, hA]; rfl))⟩

/-- the search, so far -/
def Seek (out : List Int) (v : REnt) (ss : List REnt) (k : Nat) (at_ : Int) : Prop :=
  (at_ = -1 ∧ refAt out v ss 0 = refAt out v (ss.drop k) k) ∨ (0 ≤ at_ ∧ refAt out v ss 0 = at_)

set_option maxHeartbeats 2000000 in
theorem refAlign_lo {B : Nat} {v v' : Value} {xs ys : List REnt} (w : World) (hx : Rd REnt.enc 2 w B v xs) (hy : Rd REnt.enc 2 w B v' ys) (hB : B ≤ w.heap.size) (hlx : xs.length ≤ 100) :
   Calls Try.prog 14 #[v, v'] w (RetLo encI 1 w (refL ys xs [])) := by
  have hx' := hx
  have hy' := hy
  obtain ⟨A, cap, rfl, h1, h2, -⟩ := hx
  obtain ⟨A', cap', rfl, h1', h2', -⟩ := hy
  unfold maxLen at h2 h2'
  go_enter Try.func14, Try.ntmps14
  go_wp2_with fail
  go_loopw [5, 6] (fun out i wr => ∃ (k : Nat) (os : List Int), k ≤ xs.length ∧ i = .int .i64 k ∧ Own encI 1 3 wr w.heap.size out os ∧ os.length = k ∧ Hid (refL ys xs [] = refL ys (xs.drop k) os) ∧ Below w.heap.size w wr ∧ w.heap.size ≤ wr.heap.size) (fun _ i _ => xs.length - (intOf i).toNat)
  case atStart => exact ⟨0, [], Nat.zero_le _, rfl, Own.nil _ _ _ _ _, rfl, rfl, Below.refl _ _, Nat.le_refl _⟩
  case round =>
    obtain ⟨k, os, hk, rfl, hown, hos, hres, hbel, hsz⟩ := hrel
    obtain ⟨Ao, capo, rfl⟩ := hown.len_val
    have hosl : os.length ≤ 100 := by omega
    have HOS := Lib.hid hos
    clear hos
    by_cases hlt : k < xs.length
    · obtain ⟨X, hxk⟩ := get_lt hlt
      have HX := Lib.hid hxk
      clear hxk
      go_wp2_with fail
      obtain ⟨wo, rfl⟩ : ∃ wo : World, wo = wr := ⟨_, rfl⟩
      go_loopw [7, 8] (fun a j wr => ∃ (m : Nat) (at_ : Int), m ≤ ys.length ∧ j = .int .i64 m ∧ a = .int .i64 at_ ∧ Hid (Seek os X ys m at_) ∧ Below wo.heap.size wo wr) (fun _ j _ => ys.length - (intOf j).toNat)
      case atStart => exact ⟨0, -1, Nat.zero_le _, rfl, rfl, Or.inl ⟨rfl, rfl⟩, Below.refl _ _⟩
      case round =>
        obtain ⟨m, at_, hm, rfl, rfl, hseek, hbel2⟩ := hrel
        have hsz2 := hbel2.size
        rcases hseek with ⟨rfl, hat⟩ | ⟨hge, hat⟩
        · by_cases hlm : m < ys.length
          · obtain ⟨Y, hym⟩ := get_lt hlm
            have HY := Lib.hid hym
            have HAT := Lib.hid hat
            clear hym hat
            go_wp2_with fail
            obtain ⟨wi, rfl⟩ : ∃ wi : World, wi = wr := ⟨_, rfl⟩
            go_loopw [9, 10] (fun fr j wr => ∃ (n : Nat), n ≤ os.length ∧ j = .int .i64 n ∧ fr = .bool (decide ((m : Int) ∉ os.take n)) ∧ Below wo.heap.size wo wr) (fun _ j _ => os.length - (intOf j).toNat)
            case atStart => exact ⟨0, Nat.zero_le _, rfl, by simp, hbel2⟩
            case round =>
              obtain ⟨n, hn, rfl, rfl, hbel3⟩ := hrel
              have hsz3 := hbel3.size
              by_cases hln : n < os.length
              · obtain ⟨O, hon⟩ := get_lt hln
                have HO := Lib.hid hon
                have hown' := hown.below hbel3
                obtain ⟨bo, offo, hAo, hbo, hco⟩ := (hown'.rd encI_len (by simp [maxLen]; omega)).at_ hon
                subst hAo
                have c1 : wr.cell? ⟨bo, offo + n, none⟩ = some (.int .i64 O) := by simpa using hco n _ hon 0 _ rfl
                clear hco hon
                by_cases hfr : (m : Int) ∈ os.take n
                · have hd : decide ((m : Int) ∉ os.take n) = false := by simp [hfr]
                  have hd2 : decide ((m : Int) ∉ os.take (n + 1)) = false := by rw [take_snoc HO.out]; simp [hfr]
                  rw [hd]
                  have HD2 := Lib.hid hd2
                  clear hd hd2 hfr
                  go_wp2_with fail
                  go_roundw
                  case rel => exact ⟨n + 1, by omega, by go_num, by rw [HD2.out], hbel3⟩
                  case measure => simp [intOf]; omega
                · have hd : decide ((m : Int) ∉ os.take n) = true := by simp [hfr]
                  rw [hd]
                  by_cases hO : O = (m : Int)
                  · have hd2 : decide ((m : Int) ∉ os.take (n + 1)) = false := by rw [take_snoc HO.out]; simp [hO]
                    have hb : (O != (m : Int)) = false := by simp [hO]
                    have HD2 := Lib.hid hd2
                    clear hd hd2 hfr hO
                    go_wp2_with fail
                    go_roundw
                    case rel => exact ⟨n + 1, by omega, by go_num, by rw [HD2.out], hbel3⟩
                    case measure => simp [intOf]; omega
                  · have hd2 : decide ((m : Int) ∉ os.take (n + 1)) = true := by rw [take_snoc HO.out]; simp [hfr]; exact fun e => hO e.symm
                    have hb : (O != (m : Int)) = true := by simp [hO]
                    have HD2 := Lib.hid hd2
                    clear hd hd2 hfr hO
                    go_wp2_with fail
                    go_roundw
                    case rel => exact ⟨n + 1, by omega, by go_num, by rw [HD2.out], hbel3⟩
                    case measure => simp [intOf]; omega
              · have hno : os.take n = os := take_len_le (by omega)
                have hbw := hbel.trans (hbel3.mono hsz)
                obtain ⟨bx, offx, rfl, hbx, hcx⟩ := (hx'.below hbw hB).at_ HX.out
                obtain ⟨by_, offy, rfl, hby, hcy⟩ := (hy'.below hbw hB).at_ HY.out
                obtain ⟨xh, xk⟩ := X
                obtain ⟨yh, yk⟩ := Y
                have e1 := Ext.cell (B := wr.heap.size) (hcx k _ HX.out 0 _ rfl) (by simp only []; omega)
                have e2 := Ext.cell (B := wr.heap.size) (hcx k _ HX.out 1 _ rfl) (by simp only []; omega)
                have e3 := Ext.cell (B := wr.heap.size) (hcy m _ HY.out 0 _ rfl) (by simp only []; omega)
                have e4 := Ext.cell (B := wr.heap.size) (hcy m _ HY.out 1 _ rfl) (by simp only []; omega)
                simp only [Nat.add_zero] at e1 e3
                rw [hno]
                have hstep : refAt os ⟨xh, xk⟩ (ys.drop m) m = if (m : Int) ∉ os ∧ REnt.mat ⟨xh, xk⟩ ⟨yh, yk⟩ = true then (m : Int) else refAt os ⟨xh, xk⟩ (ys.drop (m + 1)) (m + 1) := by rw [drop_get HY.out]; rfl
                clear hcx hcy hno hx' hy'
                by_cases hfr : (m : Int) ∈ os
                · have hd : decide ((m : Int) ∉ os) = false := by simp [hfr]
                  rw [hd]
                  rw [if_neg (fun h => h.1 hfr)] at hstep
                  have HS := Lib.hid hstep
                  clear hd hstep hfr
                  go_wp2_with fail
                  (refine wp_region_ext (wr.heap.size) (by kernel_rfl) (by kernel_rfl) ?_; (repeat (go_big_quiet_step ((go_at_call 21; exact Calls.ext_of (Nat.le_refl _) (match_any _ _ _ _ _))))); refine wpQuiet_nil ?_; intro wq hw1; obtain ⟨u0, hw2⟩ := hw1; have hwq := u0.below; rw [← hw2] at hwq; clear hw2 u0)
                  go_wp2_with fail
                  go_roundw
                  case rel => exact ⟨m + 1, -1, by omega, by go_num, rfl, Or.inl ⟨rfl, HAT.out.trans HS.out⟩, hbel3.trans (hwq.mono hsz3)⟩
                  case measure => simp [intOf]; omega
                · have hd : decide ((m : Int) ∉ os) = true := by simp [hfr]
                  rw [hd]
                  cases hm0 : matchB xh yh xk yk
                  · rw [if_neg (fun h => by have := h.2; unfold REnt.mat at this; rw [hm0] at this; cases this)] at hstep
                    have HS := Lib.hid hstep
                    clear hd hstep hfr
                    go_wp2_with fail
                    (refine wp_region_ext (wr.heap.size) (by kernel_rfl) (by kernel_rfl) ?_; (repeat (go_big_quiet_step ((go_at_call 21; exact Calls.ext_of (Nat.le_refl _) (match_any _ _ _ _ _))))); refine wpQuiet_nil ?_; intro wq hw1; obtain ⟨u0, hw2⟩ := hw1; have hwq := u0.below; rw [← hw2] at hwq; clear hw2 u0)
                    go_wp2_with fail
                    go_roundw
                    case rel => exact ⟨m + 1, -1, by omega, by go_num, rfl, Or.inl ⟨rfl, HAT.out.trans HS.out⟩, hbel3.trans (hwq.mono hsz3)⟩
                    case measure => simp [intOf]; omega
                  · rw [if_pos ⟨hfr, hm0⟩] at hstep
                    have HS := Lib.hid hstep
                    clear hd hstep hfr
                    go_wp2_with fail
                    (refine wp_region_ext (wr.heap.size) (by kernel_rfl) (by kernel_rfl) ?_; (repeat (go_big_quiet_step ((go_at_call 21; exact Calls.ext_of (Nat.le_refl _) (match_any _ _ _ _ _))))); refine wpQuiet_nil ?_; intro wq hw1; obtain ⟨u0, hw2⟩ := hw1; have hwq := u0.below; rw [← hw2] at hwq; clear hw2 u0)
                    go_wp2_with fail
                    go_roundw
                    case rel => exact ⟨m + 1, m, by omega, by go_num, rfl, Or.inr ⟨by omega, HAT.out.trans HS.out⟩, hbel3.trans (hwq.mono hsz3)⟩
                    case measure => simp [intOf]; omega
          · rw [drop_nil_of (by omega)] at hat
            have HAT : Hid (refAt os X ys 0 = -1) := hat
            clear hat
            go_wp2_with (at_builtin; (refine wpList_append_one _ (by rfl) _ _ _ (by rfl) encI encI_len encI_one T28 w.heap.size _ _ (by rfl) ((hown.below hbel2).below (by ((repeat (first | exact Below.refl _ _ | assumption | refine Below.alloc ?_ (by first | omega | (simp; done) | (simp; omega)) _ | refine Below.setCell ?_ (by first | omega | (simp; done) | (simp; omega)) _ | refine Below.drew ?_ | refine below_drewN ?_ _)); done))) (-1) _ #[.int .i64 (-1)] (by rfl) (by rfl) (heap_alloc_new _ _) (by omega) (by simp; omega) ?_); intro v1 w3 hown3 hb3 hO3 hloc3)
            have hb3' : Below w.heap.size wr w3 := Below.trans (by ((repeat (first | exact Below.refl _ _ | assumption | refine Below.alloc ?_ (by first | omega | (simp; done) | (simp; omega)) _ | refine Below.setCell ?_ (by first | omega | (simp; done) | (simp; omega)) _ | refine Below.drew ?_ | refine below_drewN ?_ _)); done)) hb3
            go_roundw
            case rel => exact ⟨k + 1, os ++ [(-1)], by omega, by go_num, hown3, by simp [HOS.out], by rw [hres.out, drop_get HX.out, refL]; unfold Hid; rw [HAT.out], hbel.trans ((hbel2.mono hsz).trans hb3'), by have := hb3'.size; omega⟩
            case measure => simp [intOf]; omega
        · have HAT := Lib.hid hat
          clear hat
          by_cases hlm : m < ys.length
          all_goals
            go_wp2_with (at_builtin; (refine wpList_append_one _ (by rfl) _ _ _ (by rfl) encI encI_len encI_one T28 w.heap.size _ _ (by rfl) ((hown.below hbel2).below (by ((repeat (first | exact Below.refl _ _ | assumption | refine Below.alloc ?_ (by first | omega | (simp; done) | (simp; omega)) _ | refine Below.setCell ?_ (by first | omega | (simp; done) | (simp; omega)) _ | refine Below.drew ?_ | refine below_drewN ?_ _)); done))) at_ _ #[.int .i64 at_] (by rfl) (by rfl) (heap_alloc_new _ _) (by omega) (by simp; omega) ?_); intro v1 w3 hown3 hb3 hO3 hloc3)
            have hb3' : Below w.heap.size wr w3 := Below.trans (by ((repeat (first | exact Below.refl _ _ | assumption | refine Below.alloc ?_ (by first | omega | (simp; done) | (simp; omega)) _ | refine Below.setCell ?_ (by first | omega | (simp; done) | (simp; omega)) _ | refine Below.drew ?_ | refine below_drewN ?_ _)); done)) hb3
            go_roundw
            case rel => exact ⟨k + 1, os ++ [at_], by omega, by go_num, hown3, by simp [HOS.out], by rw [hres.out, drop_get HX.out, refL]; unfold Hid; rw [HAT.out], hbel.trans ((hbel2.mono hsz).trans hb3'), by have := hb3'.size; omega⟩
            case measure => simp [intOf]; omega
    · go_wp2_with fail
      go_ret
      have h0 := hres.out
      rw [drop_nil_of (by omega), refL] at h0
      rw [h0]
      exact ⟨_, rfl, hown.rd encI_len (by simp [maxLen]; omega), hbel, fun b hb => (Own.lt hown b hb).1⟩
theorem refAlign_any {B : Nat} {v v' : Value} {xs ys : List REnt} (w : World) (hx : Rd REnt.enc 2 w B v xs) (hy : Rd REnt.enc 2 w B v' ys) (hB : B ≤ w.heap.size) (hlx : xs.length ≤ 100) :
   Calls Try.prog 14 #[v, v'] w (RetRd encI 1 w (refL ys xs [])) :=
  (refAlign_lo w hx hy hB hlx).mono fun _ _ ⟨v, h1, h2, h3, _⟩ => ⟨v, h1, h2, h3⟩
end Go.Proofs.Ytddnphidmpidcaa
