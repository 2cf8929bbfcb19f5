import Derived.Test.YteiocnaneghggaaQSo
namespace Go.Proofs.Yteiocnaneghggaa
open Go Go.RowKit

theorem peek_some {w : World} {q : Nat} {kk : Bool} {S : List It} {no : Nat} {F : Nat → Prop} (Q : QI w q kk S no F) (hS : S ≠ []) : Calls Try.prog 10 #[.pointer (some ⟨q, 0, none⟩)] w fun e w' => (∃ m, Least kk S m ∧ e = .returned (.tuple #[.agg #[.int .i64 m.x.rank, .int .i64 m.x.id], .int .i64 0])) ∧ Below w.heap.size w w' := by
  refine (peek_any (to_O kk) Q).mono ?_
  rintro e w' ⟨h | ⟨h, _⟩, hb⟩
  · exact ⟨h, hb⟩
  · exact absurd h hS
theorem take_none {w : World} {q : Nat} {kk : Bool} {no : Nat} {F : Nat → Prop} (Q : QI w q kk [] no F) : Calls Try.prog 9 #[.pointer (some ⟨q, 0, none⟩)] w fun e w' => e = .returned (.tuple #[.agg #[.int .i64 0, .int .i64 0], .int .i64 16]) ∧ Below w.heap.size w w' := by
  refine (take_any (to_O kk) Q (by simp)).mono ?_
  rintro e w' (⟨m, S', h, _⟩ | ⟨_, h⟩)
  · exact absurd h.1 (by simp)
  · exact h

/-- where the taking stands: S is left, g what was seen, lb the last one -/
structure Sorting (l : List Int) (wr : World) (g lb i : Nat) (S : List It) : Prop where
  left : Left l S
  len : S.length + i = l.length
  seen : ∃ cs : Array Value, wr.heap[g]? = some (.cells cs 3 (0, 0)) ∧ ∀ t ∈ S, ∀ j : Nat, t.no = (j : Int) → cs[j]? = some (.int .i64 0)
  last : ∃ a b : Int, wr.heap[lb]? = some (.cells #[.int .i64 a, .int .i64 b] 24 (0, 0)) ∧ (0 < i → ∀ t ∈ S, a < t.x.rank ∨ (a = t.x.rank ∧ b < t.x.id))

theorem three_stores {W : World} {g lb j : Nat} {cs : Array Value} {a b : Value} (hg : W.heap[g]? = some (.cells cs 3 (0, 0))) (hl : W.heap[lb]? = some (.cells #[a, b] 24 (0, 0))) (hne : g ≠ lb) (x y z : Value) :
    (((W.setCell ⟨g, j, none⟩ x).setCell ⟨lb, 0, none⟩ y).setCell ⟨lb, 1, none⟩ z).heap[g]? = some (.cells (cs.setIfInBounds j x) 3 (0, 0)) ∧
    (((W.setCell ⟨g, j, none⟩ x).setCell ⟨lb, 0, none⟩ y).setCell ⟨lb, 1, none⟩ z).heap[lb]? = some (.cells #[y, z] 24 (0, 0)) ∧
    Only (fun k => k = g ∨ k = lb) W (((W.setCell ⟨g, j, none⟩ x).setCell ⟨lb, 0, none⟩ y).setCell ⟨lb, 1, none⟩ z) := by
  have o1 := only_setCell W g j x
  have o2 := only_setCell (W.setCell ⟨g, j, none⟩ x) lb 0 y
  have o3 := only_setCell ((W.setCell ⟨g, j, none⟩ x).setCell ⟨lb, 0, none⟩ y) lb 1 z
  have hgl := (Array.getElem?_eq_some_iff.1 hg).1
  have hll := (Array.getElem?_eq_some_iff.1 hl).1
  have g1 := heap_setCell_same W g j cs 3 x hg
  have l1 : (W.setCell ⟨g, j, none⟩ x).heap[lb]? = some (.cells #[a, b] 24 (0, 0)) := (o1.block lb hll (fun e => hne e.symm)).trans hl
  have l2 := heap_setCell_same _ lb 0 _ 24 y l1
  have l3 := heap_setCell_same _ lb 1 _ 24 z l2
  refine ⟨?_, l3, ?_⟩
  · have s1 := o1.size
    have s2 := o2.size
    exact (o3.block g (by omega) hne).trans ((o2.block g (by omega) hne).trans g1)
  · exact ((o1.mono (fun k _ h => Or.inl h)).trans (o2.mono (fun k _ h => Or.inr h))).trans (o3.mono (fun k _ h => Or.inr h))

set_option maxHeartbeats 8000000 in
set_option maxRecDepth 100000 in
theorem sorts_walk {v : Value} {l : List Int} (w : World) (hx : Rd encI 1 w w.heap.size v l) : Calls Try.prog 6 #[v] w fun e w' => e = .returned (.bool true) ∧ Below w.heap.size w w' := by
  have hx' := hx
  obtain ⟨A, cap, rfl, h1, h2, -⟩ := hx
  unfold maxLen at h2
  have hnew := new_any false w
  unfold ovT at hnew
  simp only [Bool.false_eq_true, if_false] at hnew
  by_cases hn : l.length ≤ 100
  · have hd : decide ((100 : Int) < l.length) = false := decide_eq_false (by omega)
    go_enter Try.func6, Try.ntmps6
    go_wp2_with fail
    refine hnew.mono ?_
    rintro e w1 ⟨q, hq, rfl, Q1, hb1⟩
    clear hnew
    have hz1 := hb1.size
    go_wp2_with fail
    go_loopw [5] (fun i wr => ∃ (k : Nat) (F : Nat → Prop), k ≤ l.length ∧ i = .int .i64 k ∧ QI wr q false (itms l k) k F ∧ (∀ j, F j → w.heap.size ≤ j ∧ j < wr.heap.size) ∧ Below w.heap.size w wr) (fun i _ => l.length - (intOf i).toNat)
    case atStart => exact ⟨0, _, Nat.zero_le _, rfl, Q1.tight, fun j hj => hj, hb1⟩
    case round =>
      obtain ⟨k, F, hk, rfl, Q, hF, hbel⟩ := hrel
      have hsz := hbel.size
      by_cases hlt : k < l.length
      · obtain ⟨r, hr⟩ := get_lt hlt
        obtain ⟨b, off, rfl, hb, hc⟩ := (hx'.below hbel (Nat.le_refl _)).at_ hr
        have c1 : wr.cell? ⟨b, off + k, none⟩ = some (.int .i64 r) := by simpa using hc k _ hr 0 _ rfl
        have hp := put_any (to_O false) Q ⟨r, (k : Int)⟩ (by rw [itms_len]; omega) (by omega)
        rw [← itms_succ hr] at hp
        unfold Th.val at hp
        clear hc hr Q
        go_wp2_with fail
        refine hp.mono ?_
        rintro e w2 ⟨rfl, Q2, hO2⟩
        clear hp
        have hz2 := hO2.size
        have hb2 : Below w.heap.size w w2 := hbel.trans (hO2.below hsz (fun j hj hf => by have := hF j hf; omega))
        have Q3 := Q2.tight
        clear Q2 hO2
        go_wp2_with fail
        go_roundw
        case rel => exact ⟨k + 1, _, by omega, by go_num, Q3, fun j hj => ⟨by rcases hj.1 with h | h; exact (hF j h).1; omega, hj.2⟩, hb2⟩
        case measure => simp [intOf]; omega
      · obtain rfl : k = l.length := by omega
        obtain ⟨MC, hmk, hMC⟩ := make31 l.length (by omega)
        have hmk' := hmk wr
        clear hmk
        obtain ⟨W0, hW0⟩ : ∃ W0, W0 = (wr.alloc (.cells MC 3)).alloc (.cells #[.int .i64 0, .int .i64 0] 24) := ⟨_, rfl⟩
        have hbW : Below w.heap.size w W0 := by rw [hW0]; exact Below.trans hbel (by ((repeat (first | exact Below.refl _ _ | assumption | refine Below.alloc ?_ (by first | omega | (simp; done) | (simp; omega)) _ | refine Below.setCell ?_ (by first | omega | (simp; done) | (simp; omega)) _ | refine Below.drew ?_ | refine below_drewN ?_ _)); done))
        have hbW2 : Below wr.heap.size wr W0 := by rw [hW0]; ((repeat (first | exact Below.refl _ _ | assumption | refine Below.alloc ?_ (by first | omega | (simp; done) | (simp; omega)) _ | refine Below.setCell ?_ (by first | omega | (simp; done) | (simp; omega)) _ | refine Below.drew ?_ | refine below_drewN ?_ _)); done)
        have QW := Q.below hbW2
        have hgW : W0.heap[wr.heap.size]? = some (.cells MC 3 (0, 0)) := by rw [hW0]; exact (heap_alloc_old _ _ (by simp)).trans (heap_alloc_new _ _)
        have hlW : W0.heap[wr.heap.size + 1]? = some (.cells #[.int .i64 0, .int .i64 0] 24 (0, 0)) := by rw [hW0]; exact heap_alloc_new2 _ _ _
        have hzW : W0.heap.size = wr.heap.size + 2 := by rw [hW0]; simp
        have hst : Sorting l W0 wr.heap.size (wr.heap.size + 1) 0 (itms l l.length) := by
          refine ⟨left_all l, by rw [itms_len]; rfl, ⟨MC, hgW, fun t ht j hj => ?_⟩, ⟨0, 0, hlW, fun h => absurd h (by omega)⟩⟩
          obtain ⟨i, r, hi, rfl⟩ := (left_all l).sub t ht
          have := (List.getElem?_eq_some_iff.1 hi).1
          exact hMC j (by simp only at hj; omega)
        have HZW := Lib.hid hzW
        clear hgW hlW hMC Q hk hlt hzW
        go_wp2_with fail
        rw [← hW0]
        clear hmk' hW0
        generalize hN0 : wr.heap.size = N0 at *
        have HN0 := Lib.hid hN0
        have hwN : w.heap.size ≤ N0 := hsz
        clear hN0 hsz
        have hszW := hbW.size
        go_loopw [8, 9, 10, 11, 12] (fun i _ _ _ _ ws => ∃ (k : Nat) (S : List It), k ≤ l.length ∧ i = .int .i64 k ∧ QI ws q false S l.length F ∧ Hid (Sorting l ws N0 (N0 + 1) k S) ∧ N0 + 2 ≤ ws.heap.size ∧ Below w.heap.size w ws) (fun i _ _ _ _ _ => l.length - (intOf i).toNat)
        case atStart => exact ⟨0, itms l l.length, Nat.zero_le _, rfl, QW, hst, by rw [HZW.out]; exact Nat.le_refl _, hbW⟩
        case round =>
          obtain ⟨k, S, hk, rfl, Q, hS, hzs, hbs⟩ := hrel
          have hlen := hS.out.len
          have hbz := hbs.size
          by_cases hlt : k < l.length
          · have hne : S ≠ [] := fun e => by rw [e] at hlen; simp at hlen; omega
            have hpk := peek_some Q hne
            have HS := hS
            have HLEN := Lib.hid hlen
            have hSl : S.length ≤ 100 := by omega
            clear hlen hS
            go_wp2_with fail
            refine hpk.mono ?_
            rintro e w3 ⟨⟨m, hm, rfl⟩, hb3⟩
            clear hpk
            obtain ⟨j, r, hj, rfl⟩ := HS.out.left.sub m hm.1
            have hz3 := hb3.size
            have hb4 : Below w3.heap.size w3 (w3.alloc (.cells #[.int .i64 r, .int .i64 (j : Int)] 24)) := by ((repeat (first | exact Below.refl _ _ | assumption | refine Below.alloc ?_ (by first | omega | (simp; done) | (simp; omega)) _ | refine Below.setCell ?_ (by first | omega | (simp; done) | (simp; omega)) _ | refine Below.drew ?_ | refine below_drewN ?_ _)); done)
            have hz4 : (w3.alloc (.cells #[.int .i64 r, .int .i64 (j : Int)] 24)).heap.size = w3.heap.size + 1 := by simp
            have g4 := heap_alloc_new w3 (.cells #[.int .i64 r, .int .i64 (j : Int)] 24)
            have Q4 := (Q.below hb3).below hb4
            have htk := take_some Q4 (by omega) hne
            simp only
            go_wp2_with fail
            refine htk.mono ?_
            rintro e w5 ⟨m2, S', hm2, hp, rfl, Q5, hO5⟩
            obtain rfl := HS.out.left.one hm hm2
            have hjl := (List.getElem?_eq_some_iff.1 hj).1
            have hz5 := hO5.size
            rw [hz4] at hz5
            have hFN : ∀ i, N0 ≤ i → ¬ F i := fun i hi hf => by have := (hF i hf).2; omega
            have hO35 : Only F wr w5 := (Only.of_below hb3 F).trans ((Only.of_below hb4 F).trans hO5)
            have gp : w5.heap[w3.heap.size]? = some (.cells #[.int .i64 r, .int .i64 (j : Int)] 24 (0, 0)) := (hO5.block _ (by rw [hz4]; omega) (hFN _ (by omega))).trans g4
            have hb5 : Below w.heap.size w w5 := hbs.trans (hO35.below hbz (fun i hi hf => by have := (hF i hf).1; omega))
            obtain ⟨cs, hgs, hcs⟩ := HS.out.seen
            obtain ⟨la, lb, hgl, hll⟩ := HS.out.last
            have gs5 := (hO35.block _ (by omega) (hFN N0 (Nat.le_refl _))).trans hgs
            have gl5 := (hO35.block _ (by omega) (hFN (N0 + 1) (by omega))).trans hgl
            have hcj := hcs _ hm.1 j rfl
            have hcond := fun (h : 0 < k) => hll h _ hm.1
            have hbeh := HS.out.left.behind hm hp
            have htl := HS.out.left.take hp
            obtain ⟨b, off, rfl, hb, hc⟩ := (hx'.below hb5 (Nat.le_refl _)).at_ hj
            have kl : w5.cell? ⟨b, off + j, none⟩ = some (.int .i64 r) := by simpa using hc j _ hj 0 _ rfl
            have kp0 : w5.cell? ⟨w3.heap.size, 0, none⟩ = some (.int .i64 r) := by rw [cell_of_row _ _ _ _ _ _ gp]; rfl
            have kp1 : w5.cell? ⟨w3.heap.size, 1, none⟩ = some (.int .i64 (j : Int)) := by rw [cell_of_row _ _ _ _ _ _ gp]; rfl
            have ks : w5.cell? ⟨N0, j, none⟩ = some (.int .i64 0) := by rw [cell_of_row _ _ _ _ _ _ gs5]; exact hcj
            have ka : w5.cell? ⟨N0 + 1, 0, none⟩ = some (.int .i64 la) := by rw [cell_of_row _ _ _ _ _ _ gl5]; rfl
            have kb : w5.cell? ⟨N0 + 1, 1, none⟩ = some (.int .i64 lb) := by rw [cell_of_row _ _ _ _ _ _ gl5]; rfl
            have fs : w5.frozen? ⟨N0, j, none⟩ = false := frozen_of_row _ _ _ _ _ gs5
            have fa : w5.frozen? ⟨N0 + 1, 0, none⟩ = false := frozen_of_row _ _ _ _ _ gl5
            have fb : w5.frozen? ⟨N0 + 1, 1, none⟩ = false := frozen_of_row _ _ _ _ _ gl5
            have FIN : ∀ W : World, Below w5.heap.size w5 W → Hid (∃ S, QI (((W.setCell ⟨N0, j, none⟩ (.int .i64 1)).setCell ⟨N0 + 1, 0, none⟩ (.int .i64 r)).setCell ⟨N0 + 1, 1, none⟩ (.int .i64 (j : Int))) q false S l.length F ∧ Hid (Sorting l (((W.setCell ⟨N0, j, none⟩ (.int .i64 1)).setCell ⟨N0 + 1, 0, none⟩ (.int .i64 r)).setCell ⟨N0 + 1, 1, none⟩ (.int .i64 (j : Int))) N0 (N0 + 1) (k + 1) S) ∧ N0 + 2 ≤ (((W.setCell ⟨N0, j, none⟩ (.int .i64 1)).setCell ⟨N0 + 1, 0, none⟩ (.int .i64 r)).setCell ⟨N0 + 1, 1, none⟩ (.int .i64 (j : Int))).heap.size ∧ Below w.heap.size w (((W.setCell ⟨N0, j, none⟩ (.int .i64 1)).setCell ⟨N0 + 1, 0, none⟩ (.int .i64 r)).setCell ⟨N0 + 1, 1, none⟩ (.int .i64 (j : Int)))) := by
              intro W hbX
              have hN5 : N0 + 1 < w5.heap.size := by omega
              obtain ⟨e1, e2, e3⟩ := three_stores (W := W) (j := j) ((hbX.block N0 (by omega)).trans gs5) ((hbX.block (N0 + 1) (by omega)).trans gl5) (by omega) (.int .i64 1) (.int .i64 r) (.int .i64 (j : Int))
              have hzX := hbX.size
              have hsz3 := e3.size
              refine ⟨S', (Q5.below hbX).only e3 (fun i hi hg => hFN i (by omega) hi), ⟨htl.1, ?_, ⟨_, e1, fun t ht i hi => ?_⟩, ⟨r, j, e2, fun _ t ht => hbeh t ht⟩⟩, by omega, ?_⟩
              · have := hp.length_eq
                have h2 := HLEN.out
                simp at this
                omega
              · have hne2 : i ≠ j := fun e => htl.2 (by
                  have : t.no = (j : Int) := by rw [hi, e]
                  show (j : Int) ∈ _
                  rw [← this]
                  exact List.mem_map_of_mem ht)
                rw [Array.getElem?_setIfInBounds, if_neg (fun e => hne2 e.symm)]
                exact hcs t (hp.subset (List.mem_append_left _ ht)) i hi
              · exact hb5.trans ((hbX.mono hb5.size).trans (e3.below (by omega) (fun i hi hg => by omega)))
            have hq3 : w3.heap.size < w5.heap.size := by omega
            have hN5 : N0 + 1 < w5.heap.size := by omega
            have hN5' : N0 < w5.heap.size := by omega
            have hbw : b < w5.heap.size := by have := hb5.size; omega
            have hjn : (0 : Int) ≤ (j : Int) := by omega
            clear hc gp gs5 gl5 hcj hcs hgs hgl hll hbeh htl hp hm2 hm Q5 hO5 hO35 hb4 hz4 g4 Q4 htk hFN hb5 Q HS HLEN hj hne hz5 hbs hb3
            have hda : decide ((j : Int) < 0) = false := decide_eq_false (by omega)
            have hdb : decide (l.length ≤ j) = false := decide_eq_false (by omega)
            by_cases hk0 : k = 0
            · subst hk0
              clear hcond
              go_wp2_with fail
              simp only [List.append_eq, List.cons_append, List.nil_append]
              go_quiet (fail)
              go_wp2_with fail
              go_roundw
              case rel =>
                obtain ⟨S2, i1, i2, i3, i4⟩ := (FIN ((w5.alloc (.cells #[.int .i64 r, .int .i64 (j : Int)] 24)).drewN nq) (by ((repeat (first | exact Below.refl _ _ | assumption | refine Below.alloc ?_ (by first | omega | (simp; done) | (simp; omega)) _ | refine Below.setCell ?_ (by first | omega | (simp; done) | (simp; omega)) _ | refine Below.drew ?_ | refine below_drewN ?_ _)); done))).out
                exact ⟨0 + 1, S2, by omega, by go_num, i1, i2, i3, i4⟩
              case measure => simp [intOf]; omega
            · have hk1 : (0 : Int) < (k : Int) := by omega
              have hdk : decide ((0 : Int) < (k : Int)) = true := decide_eq_true hk1
              have hkn : 0 < k := by omega
              have hdk2 : decide (0 < k) = true := decide_eq_true hkn
              rcases hcond (by omega) with h | ⟨h, h'⟩
              · simp only at h
                have d1 : decide (r < la) = false := decide_eq_false (by omega)
                have d2 : (r == la) = false := by simp; omega
                clear hcond hk0
                go_wp2_with fail
                simp only [List.append_eq, List.cons_append, List.nil_append]
                go_quiet (fail)
                go_wp2_with fail
                go_roundw
                case rel =>
                  obtain ⟨S2, i1, i2, i3, i4⟩ := (FIN ((w5.alloc (.cells #[.int .i64 r, .int .i64 (j : Int)] 24)).drewN nq) (by ((repeat (first | exact Below.refl _ _ | assumption | refine Below.alloc ?_ (by first | omega | (simp; done) | (simp; omega)) _ | refine Below.setCell ?_ (by first | omega | (simp; done) | (simp; omega)) _ | refine Below.drew ?_ | refine below_drewN ?_ _)); done))).out
                  exact ⟨k + 1, S2, by omega, by go_num, i1, i2, i3, i4⟩
                case measure => simp [intOf]; omega
              · simp only at h h'
                subst h
                have d1 : decide (la < la) = false := decide_eq_false (by omega)
                have d2 : (la == la) = true := by simp
                have d3 : decide ((j : Int) < lb) = false := decide_eq_false (by omega)
                clear hcond hk0
                go_wp2_with fail
                simp only [List.append_eq, List.cons_append, List.nil_append]
                go_quiet (fail)
                go_wp2_with fail
                go_roundw
                case rel =>
                  obtain ⟨S2, i1, i2, i3, i4⟩ := (FIN ((w5.alloc (.cells #[.int .i64 la, .int .i64 (j : Int)] 24)).drewN nq) (by ((repeat (first | exact Below.refl _ _ | assumption | refine Below.alloc ?_ (by first | omega | (simp; done) | (simp; omega)) _ | refine Below.setCell ?_ (by first | omega | (simp; done) | (simp; omega)) _ | refine Below.drew ?_ | refine below_drewN ?_ _)); done))).out
                  exact ⟨k + 1, S2, by omega, by go_num, i1, i2, i3, i4⟩
                case measure => simp [intOf]; omega
          · obtain rfl : k = l.length := by omega
            have hS0 : S = [] := List.eq_nil_of_length_eq_zero (by omega)
            subst hS0
            have htn := take_none Q
            clear hlen hS
            go_wp2_with fail
            refine htn.mono ?_
            rintro e w3 ⟨rfl, hb3⟩
            have Q3 := Q.below hb3
            have hb03 := hbs.trans (hb3.mono hbz)
            clear htn
            have hb4 : Below w3.heap.size w3 (w3.alloc (.cells #[.int .i64 0, .int .i64 0] 24)) := by ((repeat (first | exact Below.refl _ _ | assumption | refine Below.alloc ?_ (by first | omega | (simp; done) | (simp; omega)) _ | refine Below.setCell ?_ (by first | omega | (simp; done) | (simp; omega)) _ | refine Below.drew ?_ | refine below_drewN ?_ _)); done)
            have hql := qlen_any (Q3.below hb4)
            go_wp2_with fail
            refine hql.mono ?_
            rintro e w5 ⟨rfl, hb5⟩
            have hb35 := hb4.trans (hb5.mono hb4.size)
            have hb05 := hb03.trans (hb35.mono hb03.size)
            clear hql hb35 hb5 hb4
            go_wp2_with fail
            refine (awake_any _).mono ?_
            rintro e w6 ⟨rfl, hb6⟩
            go_wp2_with fail
            go_ret
            exact ⟨rfl, hb05.trans (hb6.mono hb05.size)⟩
  · have hd : decide ((100 : Int) < l.length) = true := decide_eq_true (by omega)
    go_enter Try.func6, Try.ntmps6
    go_wp2_with fail
    refine hnew.mono ?_
    rintro e w1 ⟨q, hq, rfl, Q1, hb1⟩
    clear hnew
    go_wp2_with fail
    refine (awake_any _).mono ?_
    rintro e w6 ⟨rfl, hb6⟩
    go_wp2_with fail
    go_ret
    exact ⟨rfl, hb1.trans (hb6.mono hb1.size)⟩
end Go.Proofs.Yteiocnaneghggaa
