import Derived.Test.YteiocnaneghggaaQTu
namespace Go.Proofs.Yteiocnaneghggaa
open Go Go.RowKit

theorem Two.put1 {w wr w' : World} {q1 q2 : Nat} {S1 S2 S : List It} {no : Nat} {F1 F2 : Nat → Prop} (h : Two w wr q1 q2 S1 S2 no F1 F2) (Q : QI w' q1 false S (no + 1) (fun k => F1 k ∨ wr.heap.size ≤ k)) (hO : Only F1 wr w') (hw : w.heap.size ≤ wr.heap.size) :
    QI w' q1 false S (no + 1) (fun k => (F1 k ∨ wr.heap.size ≤ k) ∧ k < w'.heap.size) ∧ QI w' q2 true S2 no F2 ∧ (∀ j, ((F1 j ∨ wr.heap.size ≤ j) ∧ j < w'.heap.size) → ¬ F2 j) ∧ Below w.heap.size wr w' := by
  refine ⟨Q.tight, h.two.only hO (fun k h2 h1 => h.apart k h1 h2), fun j hj h2 => ?_, ?_⟩
  · rcases hj.1 with h1 | h1
    · exact h.apart j h1 h2
    · have := (h.in2 j h2).2; omega
  · exact hO.below hw (fun k hk hf => by have := (h.in1 k hf).1; omega)

theorem Two.put2 {w wr w4 w5 : World} {q1 q2 : Nat} {S1 S2 S3 S4 : List It} {no : Nat} {F1 F2 : Nat → Prop} (h : Two w wr q1 q2 S1 S2 no F1 F2) (Q1 : QI w4 q1 false S3 (no + 1) (fun k => F1 k ∨ wr.heap.size ≤ k)) (hO1 : Only F1 wr w4)
    (Q2 : QI w5 q2 true S4 (no + 1) (fun k => F2 k ∨ w4.heap.size ≤ k)) (hO2 : Only F2 w4 w5) (hw : w.heap.size ≤ wr.heap.size) :
    Two w w5 q1 q2 S3 S4 (no + 1) (fun k => (F1 k ∨ wr.heap.size ≤ k) ∧ k < w4.heap.size) (fun k => (F2 k ∨ w4.heap.size ≤ k) ∧ k < w5.heap.size) ∧ Below w.heap.size wr w5 := by
  obtain ⟨a1, a2, a3, a4⟩ := h.put1 Q1 hO1 hw
  have hs1 := hO1.size
  have hs2 := hO2.size
  refine ⟨⟨a1.only hO2 (fun k hk h2 => a3 k hk h2), Q2.tight, fun j h1 h2 => ?_, fun j hj => ⟨?_, by have := hj.2; omega⟩, fun j hj => ⟨?_, hj.2⟩⟩, a4.trans (hO2.below (by omega) (fun k hk hf => by have := (h.in2 k hf).1; omega))⟩
  · rcases h2.1 with h3 | h3
    · exact a3 j h1 h3
    · have := h1.2; omega
  · rcases hj.1 with h3 | h3
    · exact (h.in1 j h3).1
    · omega
  · rcases hj.1 with h3 | h3
    · exact (h.in2 j h3).1
    · omega

/-- the two lists of what is taken -/
structure Outs (wr : World) (N0 : Nat) (a b : Value) (ao bo : List Th) : Prop where
  one : Own Th.enc 2 24 wr N0 a ao
  two : Own Th.enc 2 24 wr N0 b bo
  apart : ∀ j, a.ownBlock = some j → b.ownBlock ≠ some j
theorem Outs.only {wr w' : World} {N0 : Nat} {a b : Value} {ao bo : List Th} {F : Nat → Prop} (h : Outs wr N0 a b ao bo) (hO : Only F wr w') (hF : ∀ j, F j → j < N0) : Outs w' N0 a b ao bo :=
  ⟨h.one.kept hO (fun k hk hf => by have := (h.one.lt k hk).1; have := hF k hf; omega), h.two.kept hO (fun k hk hf => by have := (h.two.lt k hk).1; have := hF k hf; omega), h.apart⟩
theorem Outs.below {wr w' : World} {N0 : Nat} {a b : Value} {ao bo : List Th} (h : Outs wr N0 a b ao bo) (hb : Below wr.heap.size wr w') : Outs w' N0 a b ao bo :=
  ⟨h.one.below hb, h.two.below hb, h.apart⟩
theorem Outs.put1 {W w' : World} {N0 : Nat} {a a' b : Value} {ao bo ao' : List Th} (h : Outs W N0 a b ao bo) (hown : Own Th.enc 2 24 w' N0 a' ao') (hO : Only (fun k => a.ownBlock = some k) W w') (hloc : a'.ownBlock = a.ownBlock ∨ a'.ownBlock = some W.heap.size) : Outs w' N0 a' b ao' bo :=
  ⟨hown, h.two.kept hO (fun k hk ha => h.apart k ha hk), fun j hj hb => by
    rcases hloc with e | e
    · exact h.apart j (e ▸ hj) hb
    · rw [e] at hj; cases hj; have := (h.two.lt _ hb).2; omega⟩
theorem Outs.put2 {W w' : World} {N0 : Nat} {a b b' : Value} {ao bo bo' : List Th} (h : Outs W N0 a b ao bo) (hown : Own Th.enc 2 24 w' N0 b' bo') (hO : Only (fun k => b.ownBlock = some k) W w') (hloc : b'.ownBlock = b.ownBlock ∨ b'.ownBlock = some W.heap.size) : Outs w' N0 a b' ao bo' :=
  ⟨h.one.kept hO (fun k hk hb => h.apart k hk hb), hown, fun j ha hj => by
    rcases hloc with e | e
    · exact h.apart j ha (e ▸ hj)
    · rw [e] at hj; cases hj; have := (h.one.lt _ ha).2; omega⟩
/-- blocks from N0 on change alone: the queues stay -/
theorem Two.only {w wr w' : World} {q1 q2 N0 : Nat} {S1 S2 : List It} {no : Nat} {F1 F2 G : Nat → Prop} (h : Two w wr q1 q2 S1 S2 no F1 F2) (hO : Only G wr w') (h1 : ∀ j, F1 j → j < N0) (h2 : ∀ j, F2 j → j < N0) (hG : ∀ j, G j → N0 ≤ j) : Two w w' q1 q2 S1 S2 no F1 F2 :=
  ⟨h.one.only hO (fun k hk hg => by have := h1 k hk; have := hG k hg; omega), h.two.only hO (fun k hk hg => by have := h2 k hk; have := hG k hg; omega), h.apart, fun j hj => ⟨(h.in1 j hj).1, Nat.lt_of_lt_of_le (h.in1 j hj).2 hO.size⟩, fun j hj => ⟨(h.in2 j hj).1, Nat.lt_of_lt_of_le (h.in2 j hj).2 hO.size⟩⟩

set_option maxHeartbeats 8000000 in
set_option maxRecDepth 100000 in
theorem turns_walk {v : Value} {l : List Int} (w : World) (hx : Rd encI 1 w w.heap.size v l) : Calls Try.prog 4 #[v] w fun e w' => e = .returned (.bool true) ∧ Below w.heap.size w w' := by
  have hx' := hx
  obtain ⟨A, cap, rfl, h1, h2, -⟩ := hx
  unfold maxLen at h2
  have hnew := new_any false w
  unfold ovT at hnew
  simp only [Bool.false_eq_true, if_false] at hnew
  by_cases hn : l.length ≤ 60
  · have hd : decide ((60 : Int) < l.length) = false := decide_eq_false (by omega)
    go_enter Try.func4, Try.ntmps4
    go_wp2_with fail
    refine hnew.mono ?_
    rintro e w1 ⟨q1, hq1, rfl, Q1, hb1⟩
    clear hnew
    have hz1 := hb1.size
    have hnew2 := new_any true w1
    unfold ovT at hnew2
    simp only [if_true] at hnew2
    go_wp2_with fail
    refine hnew2.mono ?_
    rintro e w2 ⟨q2, hq2, rfl, Q2, hb2⟩
    clear hnew2
    have hz2 := hb2.size
    have hb02 := hb1.trans (hb2.mono hz1)
    have hT : Two w w2 q1 q2 [] [] 0 (fun k => w.heap.size ≤ k ∧ k < w1.heap.size) (fun k => w1.heap.size ≤ k ∧ k < w2.heap.size) :=
      ⟨Q1.tight.below hb2, Q2.tight, fun j h1 h2 => by omega, fun j h => ⟨h.1, by omega⟩, fun j h => ⟨by omega, h.2⟩⟩
    have hx2 := hx'.next hb02
    clear Q1 Q2 hb1 hb2
    go_wp2_with fail
    go_loopw [7, 8] (fun i _ wr => ∃ (k : Nat), k ≤ l.length ∧ i = .int .i64 k ∧ Hid (Unlike l k) ∧ Below w2.heap.size w2 wr) (fun i _ _ => l.length - (intOf i).toNat)
    case atStart => exact ⟨0, Nat.zero_le _, rfl, fun i j r h1 h2 => absurd h2 (by omega), Below.refl _ _⟩
    case round =>
      obtain ⟨k, hk, rfl, hU, hbel⟩ := hrel
      have hsz := hbel.size
      by_cases hlt : k < l.length
      · obtain ⟨r, hr⟩ := get_lt hlt
        have HR := Lib.hid hr
        clear hr
        go_wp2_with fail
        go_loopw [8] (fun i wr => ∃ (m : Nat), m ≤ k ∧ i = .int .i64 m ∧ Hid (∀ (i : Nat) (x : Int), i < m → l[i]? = some x → x ≠ r) ∧ Below w2.heap.size w2 wr) (fun i _ => k - (intOf i).toNat)
        case atStart => exact ⟨0, Nat.zero_le _, rfl, fun i x h => absurd h (by omega), hbel⟩
        case round =>
          obtain ⟨m, hm, rfl, hV, hbel2⟩ := hrel
          have hsz2 := hbel2.size
          by_cases hmk : m < k
          · have hml : m < l.length := by omega
            obtain ⟨s, hs⟩ := get_lt hml
            obtain ⟨b, off, rfl, hb, hc⟩ := (hx2.below hbel2 (Nat.le_refl _)).at_ hs
            have c1 : wr.cell? ⟨b, off + k, none⟩ = some (.int .i64 r) := by simpa using hc k _ HR.out 0 _ rfl
            have c2 : wr.cell? ⟨b, off + m, none⟩ = some (.int .i64 s) := by simpa using hc m _ hs 0 _ rfl
            have HSS := Lib.hid hs
            clear hc hs
            by_cases hrs : r = s
            · subst hrs
              go_wp2_with fail
              go_region
              go_wp2_with fail
              refine (awake_any _).mono ?_
              rintro e w4 ⟨rfl, hb4⟩
              have hb2r : Below w2.heap.size w2 wr.drew := below_drewN hbel2 1
              have hb0r := hb02.trans (hb2r.mono hb02.size)
              go_wp2_with fail
              go_ret
              exact ⟨rfl, hb0r.trans (hb4.mono hb0r.size)⟩
            · have hV2 : Hid (∀ (i : Nat) (x : Int), i < m + 1 → l[i]? = some x → x ≠ r) := by
                intro i x hi hx
                by_cases e : i = m
                · subst e
                  rw [HSS.out] at hx
                  cases hx
                  exact fun e => hrs e.symm
                · exact hV.out i x (by omega) hx
              clear hV
              go_wp2_with fail
              go_region
              go_wp2_with fail
              go_roundw
              case rel => exact ⟨m + 1, by omega, by go_num, hV2, below_drewN hbel2 1⟩
              case measure => simp [intOf]; omega
          · have hU2 : Hid (Unlike l (k + 1)) := by
              intro i j x hij hj hi hjx
              by_cases e : j = k
              · subst e
                rw [HR.out] at hjx
                cases hjx
                exact hV.out i r (by omega) hi rfl
              · exact hU.out i j x hij (by omega) hi hjx
            clear hU hV
            go_wp2_with fail
            go_roundw
            case rel => exact ⟨k + 1, by omega, by go_num, hU2, hbel2⟩
            case measure => simp [intOf]; omega
      · obtain rfl : k = l.length := by omega
        have hTr := hT.below hbel
        have hb0r := hb02.trans (hbel.mono hb02.size)
        clear hT hbel hk hlt hsz
        go_wp2_with fail
        go_loopw [9] (fun i wr => ∃ (k : Nat) (F1 F2 : Nat → Prop), k ≤ l.length ∧ i = .int .i64 k ∧ Two w wr q1 q2 (itms l k) (itms l k) k F1 F2 ∧ Below w.heap.size w wr) (fun i _ => l.length - (intOf i).toNat)
        case atStart => exact ⟨0, _, _, Nat.zero_le _, rfl, hTr, hb0r⟩
        case round =>
          obtain ⟨k, F1, F2, hk, rfl, hT, hbel⟩ := hrel
          have hsz := hbel.size
          by_cases hlt : k < l.length
          · obtain ⟨r, hr⟩ := get_lt hlt
            obtain ⟨b, off, rfl, hb, hc⟩ := (hx'.below hbel (Nat.le_refl _)).at_ hr
            have c1 : wr.cell? ⟨b, off + k, none⟩ = some (.int .i64 r) := by simpa using hc k _ hr 0 _ rfl
            have hp := put_any (to_O false) hT.one ⟨r, (k : Int)⟩ (by rw [itms_len]; omega) (by omega)
            have HSU := Lib.hid (itms_succ hr)
            rw [← HSU.out] at hp
            unfold Th.val at hp
            have HT := Lib.hid hT
            clear hc hr hT
            go_wp2_with fail
            refine hp.mono ?_
            rintro e w4 ⟨rfl, Q4, hO4⟩
            clear hp
            obtain ⟨-, a2, -, a4⟩ := HT.out.put1 Q4 hO4 hsz
            have hp2 := put_any (to_O true) a2 ⟨r, (k : Int)⟩ (by rw [itms_len]; omega) (by omega)
            rw [← HSU.out] at hp2
            unfold Th.val at hp2
            have c2 := Below.cell_some a4 c1 hb
            clear a2 a4
            go_wp2_with fail
            refine hp2.mono ?_
            rintro e w5 ⟨rfl, Q5, hO5⟩
            clear hp2
            obtain ⟨hT5, hb5⟩ := HT.out.put2 Q4 hO4 Q5 hO5 hsz
            clear Q4 hO4 Q5 hO5
            go_wp2_with fail
            go_roundw
            case rel => exact ⟨k + 1, _, _, by omega, by go_num, hT5, hbel.trans hb5⟩
            case measure => simp [intOf]; omega
          · obtain rfl : k = l.length := by omega
            clear hTr hb0r hk hlt
            obtain ⟨N0, hN0⟩ : ∃ N0, N0 = wr.heap.size := ⟨_, rfl⟩
            have hF1 : ∀ j, F1 j → j < N0 := fun j hj => by rw [hN0]; exact (hT.in1 j hj).2
            have hF2 : ∀ j, F2 j → j < N0 := fun j hj => by rw [hN0]; exact (hT.in2 j hj).2
            have hzN : N0 ≤ wr.heap.size := by omega
            have hwN : w.heap.size ≤ N0 := by omega
            clear hN0
            go_wp2_with fail
            go_loopw [10, 11, 12, 13, 14, 15, 16] (fun av bv i _ _ _ _ wr => ∃ (k : Nat) (S1 S2 : List It) (ao bo : List Th) (a b : Value), a = av ∧ b = bv ∧ k ≤ l.length ∧ i = .int .i64 k ∧ Two w wr q1 q2 S1 S2 l.length F1 F2 ∧ Outs wr N0 a b ao bo ∧ Hid (Taking false l S1 ao) ∧ Hid (Taking true l S2 bo) ∧ Hid (ao.length = k) ∧ Hid (bo.length = k) ∧ N0 ≤ wr.heap.size ∧ Below w.heap.size w wr) (fun _ _ i _ _ _ _ _ => l.length - (intOf i).toNat)
            case atStart => exact ⟨0, _, _, [], [], _, _, rfl, rfl, Nat.zero_le _, rfl, hT, ⟨Own.nil _ _ _ _ _, Own.nil _ _ _ _ _, by simp [Value.ownBlock]⟩, Taking.start _ _, Taking.start _ _, rfl, rfl, hzN, hbel⟩
            case round =>
              obtain ⟨k, S1, S2, ao, bo, a, b, rfl, rfl, hk, rfl, hT, hO, hA, hB, hla, hlb, hzs, hbs⟩ := hrel
              have hbz := hbs.size
              by_cases hlt : k < l.length
              · have s1 := hA.out.size
                have s2 := hB.out.size
                have e1 := hla.out
                have e2 := hlb.out
                have hne1 : S1 ≠ [] := fun e => by rw [e] at s1; simp at s1; omega
                have hne2 : S2 ≠ [] := fun e => by rw [e] at s2; simp at s2; omega
                have hl1 : S1.length ≤ 60 := by omega
                have hl2 : S2.length ≤ 60 := by omega
                have hlao : ao.length ≤ 60 := by omega
                have hlbo : bo.length ≤ 60 := by omega
                clear s1 s2 e1 e2
                have htk := take_some hT.one (by omega) hne1
                have HT := Lib.hid hT
                have HO := Lib.hid hO
                clear hT hO
                go_wp2_with fail
                refine htk.mono ?_
                rintro e w4 ⟨m1, S1', hm1, hp1, rfl, Q1, hO4⟩
                clear htk
                have hz4 := hO4.size
                have hA2 := Lib.hid (hA.out.next hU.out hm1 hp1)
                have hO1 := HO.out.only hO4 hF1
                have hT1 : Two w w4 q1 q2 S1' S2 l.length F1 F2 := ⟨Q1, HT.out.two.only hO4 (fun k h2 h1 => HT.out.apart k h1 h2), HT.out.apart, fun j hj => ⟨(HT.out.in1 j hj).1, Nat.lt_of_lt_of_le (HT.out.in1 j hj).2 hz4⟩, fun j hj => ⟨(HT.out.in2 j hj).1, Nat.lt_of_lt_of_le (HT.out.in2 j hj).2 hz4⟩⟩
                have hb4 : Below w.heap.size w w4 := hbs.trans (hO4.below hbz (fun j hj hf => by have := (HT.out.in1 j hf).1; omega))
                have hb5 : Below w4.heap.size w4 (w4.alloc (.cells #[.int .i64 m1.x.rank, .int .i64 m1.x.id] 24)) := by ((repeat (first | exact Below.refl _ _ | assumption | refine Below.alloc ?_ (by first | omega | (simp; done) | (simp; omega)) _ | refine Below.setCell ?_ (by first | omega | (simp; done) | (simp; omega)) _ | refine Below.drew ?_ | refine below_drewN ?_ _)); done)
                have g5 := heap_alloc_new w4 (.cells #[.int .i64 m1.x.rank, .int .i64 m1.x.id] 24)
                have hz5 : (w4.alloc (.cells #[.int .i64 m1.x.rank, .int .i64 m1.x.id] 24)).heap.size = w4.heap.size + 1 := by simp
                have hT5 := Lib.hid (hT1.below hb5)
                have hO5 := Lib.hid (hO1.below hb5)
                have hb05 := hb4.trans (hb5.mono hb4.size)
                have htk2 := take_some hT5.out.two (by omega) hne2
                clear Q1 hO4 hp1 hm1 hA hO1 hT1 HT HO hb4 hb5 hbs
                go_wp2_with fail
                refine htk2.mono ?_
                rintro e w6 ⟨m2, S2', hm2, hp2, rfl, Q2, hO6⟩
                clear htk2
                have hz6 := hO6.size
                rw [hz5] at hz6
                have hB2 := Lib.hid (hB.out.next hU.out hm2 hp2)
                have hO6' := hO5.out.only hO6 hF2
                have hT6 : Two w w6 q1 q2 S1' S2' l.length F1 F2 := ⟨hT5.out.one.only hO6 (fun k h1 h2 => hT5.out.apart k h1 h2), Q2, hT5.out.apart, fun j hj => ⟨(hT5.out.in1 j hj).1, Nat.lt_of_lt_of_le (hT5.out.in1 j hj).2 hO6.size⟩, fun j hj => ⟨(hT5.out.in2 j hj).1, Nat.lt_of_lt_of_le (hT5.out.in2 j hj).2 hO6.size⟩⟩
                have hb6 : Below w.heap.size w w6 := hb05.trans (hO6.below hb05.size (fun j hj hf => by have := (hT5.out.in2 j hf).1; omega))
                have g6 := (hO6.block w4.heap.size (by rw [hz5]; omega) (fun hf => by have := hF2 _ hf; omega)).trans g5
                have x0 : w6.cell? ⟨w4.heap.size, 0, none⟩ = some (.int .i64 m1.x.rank) := by rw [cell_of_row _ _ _ _ _ _ g6]; rfl
                have x1 : w6.cell? ⟨w4.heap.size, 1, none⟩ = some (.int .i64 m1.x.id) := by rw [cell_of_row _ _ _ _ _ _ g6]; rfl
                have hlt46 : w4.heap.size < w6.heap.size := by omega
                clear Q2 hO6 hp2 hm2 hB hT5 hO5 hb05 g5 g6 hz5
                obtain ⟨W7, hW7⟩ : ∃ W7, W7 = (w6.alloc (.cells #[.int .i64 m2.x.rank, .int .i64 m2.x.id] 24)).alloc (.cells #[.int .i64 m1.x.rank, .int .i64 m1.x.id] 24) := ⟨_, rfl⟩
                have hbW : Below w6.heap.size w6 W7 := by rw [hW7]; ((repeat (first | exact Below.refl _ _ | assumption | refine Below.alloc ?_ (by first | omega | (simp; done) | (simp; omega)) _ | refine Below.setCell ?_ (by first | omega | (simp; done) | (simp; omega)) _ | refine Below.drew ?_ | refine below_drewN ?_ _)); done)
                have gY : W7.heap[w6.heap.size]? = some (.cells #[.int .i64 m2.x.rank, .int .i64 m2.x.id] 24 (0, 0)) := by rw [hW7]; exact (heap_alloc_old _ _ (by simp)).trans (heap_alloc_new _ _)
                have gX : W7.heap[w6.heap.size + 1]? = some (.cells #[.int .i64 m1.x.rank, .int .i64 m1.x.id] 24 (0, 0)) := by rw [hW7]; exact heap_alloc_new2 _ _ _
                have hzW : W7.heap.size = w6.heap.size + 2 := by rw [hW7]; simp
                have hO7 := hO6'.below hbW
                have hT7 := hT6.below hbW
                have hb7 : Below w.heap.size w W7 := hb6.trans (hbW.mono hb6.size)
                have hal := hO6'.one.lt
                have ST : ∀ v8 w8, Own Th.enc 2 24 w8 N0 v8 (ao ++ [m1.x]) → Only (fun k => a.ownBlock = some k) W7 w8 → (v8.ownBlock = a.ownBlock ∨ v8.ownBlock = some W7.heap.size) → w8.cell? ⟨w6.heap.size, 0, none⟩ = some (.int .i64 m2.x.rank) ∧ w8.cell? ⟨w6.heap.size, 1, none⟩ = some (.int .i64 m2.x.id) ∧ w6.heap.size < w8.heap.size ∧ N0 ≤ w8.heap.size ∧ Hid (Outs w8 N0 v8 b (ao ++ [m1.x]) bo ∧ Two w w8 q1 q2 S1' S2' l.length F1 F2 ∧ Below w.heap.size w w8) := by
                  intro v8 w8 i1 i2 i3
                  have hs8 := i2.size
                  have g8 := (i2.block w6.heap.size (by omega) (fun hf => by have := (hal _ hf).2; omega)).trans gY
                  refine ⟨by rw [cell_of_row _ _ _ _ _ _ g8]; rfl, by rw [cell_of_row _ _ _ _ _ _ g8]; rfl, by omega, by omega, hO7.put1 i1 i2 i3, hT7.only i2 hF1 hF2 (fun j hj => (hal j hj).1), ?_⟩
                  exact hb7.trans (i2.below hb7.size (fun j hj hf => by have := (hal j hf).1; omega))
                have hoa := hO7.one
                have hNW : N0 ≤ W7.heap.size := by omega
                clear hO6' hbW gY hal hO7 hT7 hb7 hT6 hb6 hzW
                go_wp2_with (first | (at_builtin; rw [← hW7]; refine wpList_append_one W7 (by rfl) _ _ _ (by rfl) Th.enc Th.enc_len Th.enc_one T41 N0 _ ao (by rfl) hoa m1.x _ #[.int .i64 m1.x.rank, .int .i64 m1.x.id] (by rfl) (by rfl) gX (by omega) hNW ?_; intro v8 w8 hown8 hb8 hO8 hloc8; obtain ⟨y0, y1, hlt68, hN8, hfin8⟩ := ST v8 w8 hown8 hO8 hloc8) | (at_builtin; refine wpList_append_one _ (by rfl) _ _ _ (by rfl) Th.enc Th.enc_len Th.enc_one T41 N0 _ bo (by rfl) (hfin8.out.1.two.below (by ((repeat (first | exact Below.refl _ _ | assumption | refine Below.alloc ?_ (by first | omega | (simp; done) | (simp; omega)) _ | refine Below.setCell ?_ (by first | omega | (simp; done) | (simp; omega)) _ | refine Below.drew ?_ | refine below_drewN ?_ _)); done))) m2.x _ #[.int .i64 m2.x.rank, .int .i64 m2.x.id] (by rfl) (by rfl) (heap_alloc_new _ _) (by omega) (by simp; omega) ?_; intro v9 w9 hown9 hb9 hO9 hloc9))
                have hb89 : Below w8.heap.size w8 (w8.alloc (.cells #[.int .i64 m2.x.rank, .int .i64 m2.x.id] 24)) := by ((repeat (first | exact Below.refl _ _ | assumption | refine Below.alloc ?_ (by first | omega | (simp; done) | (simp; omega)) _ | refine Below.setCell ?_ (by first | omega | (simp; done) | (simp; omega)) _ | refine Below.drew ?_ | refine below_drewN ?_ _)); done)
                have hO9' := (hfin8.out.1.below hb89).put2 hown9 hO9 hloc9
                have hbl := (hfin8.out.1.below hb89).two.lt
                have hT9 := (hfin8.out.2.1.below hb89).only hO9 hF1 hF2 (fun j hj => (hbl j hj).1)
                have hb9w := (hfin8.out.2.2.trans (hb89.mono hfin8.out.2.2.size)).trans (hO9.below (by have := hfin8.out.2.2.size; simp; omega) (fun j hj hf => by have := (hbl j hf).1; omega))
                have hz9 : N0 ≤ w9.heap.size := by have := hO9.size; simp at this; omega
                have hla9 : Hid ((ao ++ [m1.x]).length = k + 1) := by unfold Hid; rw [List.length_append, hla.out]; rfl
                have hlb9 : Hid ((bo ++ [m2.x]).length = k + 1) := by unfold Hid; rw [List.length_append, hlb.out]; rfl
                clear hown9 hb9 hO9 hloc9 hbl hb89 hfin8
                go_roundw
                case rel => exact ⟨k + 1, _, _, _, _, _, _, rfl, rfl, by omega, by go_num, hT9, hO9', hA2, hB2, hla9, hlb9, hz9, hb9w⟩
                case measure => simp [intOf]; omega
              · obtain rfl : k = l.length := by omega
                have s1 := hA.out.size
                have s2 := hB.out.size
                have e1 := hla.out
                have e2 := hlb.out
                have z1 : S1 = [] := List.eq_nil_of_length_eq_zero (by omega)
                have z2 : S2 = [] := List.eq_nil_of_length_eq_zero (by omega)
                subst z1 z2
                have hrev := Lib.hid (hA.out.turned hB.out)
                have hra := hO.one.rd Th.enc_len (by simp only [maxLen]; omega)
                have hrb := hO.two.rd Th.enc_len (by simp only [maxLen]; omega)
                clear s1 s2 e1 e2 hA hB
                obtain ⟨Aa, ca, rfl⟩ := hO.one.len_val
                obtain ⟨Ab, cb, rfl⟩ := hO.two.len_val
                rw [hla.out] at hra ⊢
                rw [hlb.out] at hrb ⊢
                have hT0 := Lib.hid hT
                clear hO hT hk hlt
                have hln : l.length ≤ 60 := hn
                go_wp2_with fail
                go_loopw [17] (fun i ws => ∃ (k : Nat), k ≤ l.length ∧ i = .int .i64 k ∧ Below wr.heap.size wr ws) (fun i _ => l.length - (intOf i).toNat)
                case atStart => exact ⟨0, Nat.zero_le _, rfl, Below.refl _ _⟩
                case round =>
                  obtain ⟨k, hk, rfl, hbk⟩ := hrel
                  by_cases hlt : k < l.length
                  · obtain ⟨x, hxa⟩ := get_lt (show k < ao.length by rw [hla.out]; exact hlt)
                    have hxb := hxa
                    rw [hrev.out] at hxb
                    obtain ⟨hxb, hkb⟩ := rev_get hxb
                    rw [hlb.out] at hxb
                    obtain ⟨m, hm⟩ : ∃ m, m = l.length - 1 - k := ⟨_, rfl⟩
                    rw [← hm] at hxb
                    have hbn : Below wr.heap.size wr wr := Below.refl _ _
                    obtain ⟨b1, off1, rfl, hb1, hc1⟩ := (hra.below hbk (Nat.le_refl _)).at_ hxa
                    obtain ⟨b2, off2, rfl, hb2, hc2⟩ := (hrb.below hbk (Nat.le_refl _)).at_ hxb
                    have x0 := hc1 k _ hxa 0 _ rfl
                    have x1 := hc1 k _ hxa 1 _ rfl
                    have y0 := hc2 m _ hxb 0 _ rfl
                    have y1 := hc2 m _ hxb 1 _ rfl
                    rw [Nat.add_zero] at x0 y0
                    have hml : m < l.length := by omega
                    have zz : (l.length : Int) - 1 - (k : Int) = (m : Int) := by omega
                    have HZ := Lib.hid zz
                    clear hc1 hc2 hxa hxb hm zz hkb hbn
                    go_wp2_with fail
                    have zs := HZ.out
                    have z9 : (0 : Int) ≤ (m : Int) := by omega
                    go_quiet (fail)
                    clear zs
                    go_wp2_with fail
                    go_roundw
                    case rel => exact ⟨k + 1, by omega, by go_num, below_drewN hbk _⟩
                    case measure => simp [intOf]; omega
                  · have hb0k := hbs.trans (hbk.mono hbz)
                    have hTk := Lib.hid (hT0.out.below hbk)
                    have hq1 := qlen_any hTk.out.one
                    go_wp2_with fail
                    refine hq1.mono ?_
                    rintro e w5 ⟨rfl, hb5⟩
                    have hb05 := hb0k.trans (hb5.mono hb0k.size)
                    have hq2 := qlen_any (hTk.out.below hb5).two
                    clear hq1
                    go_wp2_with fail
                    refine hq2.mono ?_
                    rintro e w6 ⟨rfl, hb6⟩
                    have hb06 := hb05.trans (hb6.mono hb05.size)
                    clear hq2
                    go_wp2_with fail
                    refine (awake_any _).mono ?_
                    rintro e w7 ⟨rfl, hb7⟩
                    go_wp2_with fail
                    go_ret
                    exact ⟨rfl, hb06.trans (hb7.mono hb06.size)⟩
  · have hd : decide ((60 : Int) < l.length) = true := decide_eq_true (by omega)
    go_enter Try.func4, Try.ntmps4
    go_wp2_with fail
    refine hnew.mono ?_
    rintro e w1 ⟨q1, hq1, rfl, Q1, hb1⟩
    clear hnew
    have hnew2 := new_any true w1
    unfold ovT at hnew2
    simp only [if_true] at hnew2
    go_wp2_with fail
    refine hnew2.mono ?_
    rintro e w2 ⟨q2, hq2, rfl, Q2, hb2⟩
    have hb02 := hb1.trans (hb2.mono hb1.size)
    clear hnew2
    go_wp2_with fail
    refine (awake_any _).mono ?_
    rintro e w6 ⟨rfl, hb6⟩
    go_wp2_with fail
    go_ret
    exact ⟨rfl, hb02.trans (hb6.mono hb02.size)⟩
end Go.Proofs.Yteiocnaneghggaa
