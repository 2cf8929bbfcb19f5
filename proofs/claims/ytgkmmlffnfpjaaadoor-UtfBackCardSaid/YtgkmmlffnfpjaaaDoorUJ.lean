import Derived.Test.YtgkmmlffnfpjaaaDoorUW9
namespace Go.Proofs.YtgkmmlffnfpjaaaDoor
open Go Go.RowKit

theorem flatMap_inv {α : Type} {enc : α → List Value} {size : Nat} (hs : ∀ x, (enc x).length = size) : ∀ (xs : List α) (j : Nat) (u : Value), (xs.flatMap enc)[j]? = some u → ∃ (i r : Nat) (x : α), xs[i]? = some x ∧ (enc x)[r]? = some u ∧ j = i * size + r
  | [], j, u, h => by simp at h
  | y :: ys, j, u, h => by
    rw [List.flatMap_cons] at h
    rcases Nat.lt_or_ge j size with hj | hj
    · rw [List.getElem?_append_left (by rw [hs]; exact hj)] at h
      exact ⟨0, j, y, rfl, h, by omega⟩
    · rw [List.getElem?_append_right (by rw [hs]; exact hj), hs] at h
      obtain ⟨i, r, x, h1, h2, h3⟩ := flatMap_inv hs ys (j - size) u h
      exact ⟨i + 1, r, x, by simpa using h1, h2, by rw [Nat.succ_mul]; omega⟩

theorem run_append_nothing {P : Program} (w : World) (base : Nat) (t ty e : TypeId) (i : TypeInfo) (size : Nat) (ht : P.underlying t = some (.slice e)) (hi : P.info? e = some i)
    (v : Value) (n c : Nat) (xs : List Value) (hown : w.ownsRow base e size v n xs) : (Builtin.append_ #[t, t] ty #[v, .slice none 0 c]).run P w = .ok v w := by
  rcases hown.2 with ⟨rfl, rfl⟩ | ⟨g, cap, cur, rfl, _, _, hnc, _⟩
  · simp [Builtin.append_, run_underlying ht, sizeOf, typeInfo, hi, Builtin.lenOf, Builtin.firstCells]
  · simp [Builtin.append_, run_underlying ht, sizeOf, typeInfo, hi, Builtin.lenOf, Builtin.firstCells, hnc, storeCells]

section
variable {α : Type} {P : Program} {ops : Array Oper} {rest : List Oper} {o : Oper} {a : Act} {Q : Exit → Act → World → Prop}
/-- 'append(out, ys...)', ys a slice that reads as a list, nil or not. -/
theorem wpList_append_rd (w : World) (hgd : o.guard = none) (s x : Operand) (t : TypeId)
    (ho : o.op = .call { callee := .builtin .append, args := #[s, x], argTypes := #[t, t] })
    (enc : α → List Value) {e : TypeId} {size bytes : Nat} (henc : ∀ y, (enc y).length = size) (h1 : ∀ y, ∀ u ∈ enc y, u.oneCell' = true) (T : SliceT P t e size bytes) (base : Nat)
    (v : Value) (xs ys : List α) (hs : a.eval s = v) (hown : Own enc size e w base v xs) (vy : Value) (hx : a.eval x = vy) {B : Nat} (hr : Rd enc size w B vy ys)
    (hlong : xs.length + ys.length ≤ 1000000) (hbase : base ≤ w.heap.size)
    (h : ∀ v' w', Own enc size e w' base v' (xs ++ ys) → Below base w w' → Only (fun k => v.ownBlock = some k) w w' → (v'.ownBlock = v.ownBlock ∨ v'.ownBlock = some w.heap.size) → wpList P ops Q rest (a.put o.dst v') w') :
    wpList P ops Q (o :: rest) a w := by
  obtain ⟨A, c, rfl, hc1, hc2, hcell⟩ := hr
  cases A with
  | some ad =>
    refine wpList_append_many w hgd s x t ho enc henc h1 T base v xs ys hs hown ad ys.length c rfl hx (fun j u hu => ?_) hlong hbase h
    have hne : ys ≠ [] := by rintro rfl; simp at hu
    obtain ⟨b, off, hA, _, hcl⟩ := hcell hne
    cases hA
    obtain ⟨i, r, y, hy, hr, rfl⟩ := flatMap_inv henc ys j u hu
    rw [Addr.add_lit, ← Nat.add_assoc]
    exact hcl i y hy r u hr
  | none =>
    have hne : ys = [] := by
      apply Classical.byContradiction
      intro hne
      obtain ⟨b, off, hA, _⟩ := hcell hne
      cases hA
    subst hne
    refine wpList_plain hgd fun K hK => ?_
    have T' := T
    obtain ⟨ht, i, z, hi, _⟩ := T'
    have hrun := run_append_nothing (P := P) w base t o.type e i size ht hi v xs.length c (xs.flatMap enc) hown
    unfold Oper.wp
    simp only [List.length_nil] at hx
    simp [execOp, ho, resolve, invoke, builtin, hs, hx, hrun, Result.andThen]
    exact hK _ _ (h v w (by simpa using hown) (Below.refl _ _) (Only.refl _ _) (Or.inl rfl))
end


/-- what Check tells -/
def CheckIs (bs : List UInt8) (e : Ending) : Prop := ∃ cs rest, Told bs cs rest ∧ ((rest = [] ∧ e = .returned (.tuple #[.int .i64 bs.length, .int .i64 0])) ∨ (rest ≠ [] ∧ chr rest = none ∧ e = .returned (.tuple #[.int .i64 (encB cs).length, .int .i64 10])))
theorem check_whole {B : Nat} {v : Value} {bs : List UInt8} {cs : List Nat} (w : World) (hx : Rd encU 1 w B v bs) (hB : B ≤ w.heap.size) (T : Tabs w) (h : Told bs cs []) :
    Calls Tryd.prog 12 #[v] w fun e w' => e = .returned (.tuple #[.int .i64 bs.length, .int .i64 0]) ∧ Below w.heap.size w w' := by
  refine (check_any w hx hB T).mono ?_
  rintro e w' ⟨⟨ds, rest, hT, hc⟩, hb⟩
  rcases hc with ⟨rfl, rfl⟩ | ⟨hne, hn, rfl⟩
  · exact ⟨rfl, hb⟩
  · exact absurd (Told.one h hT (Or.inl rfl) (Or.inr hn)).2.symm hne
theorem check_part {B : Nat} {v : Value} {bs rest : List UInt8} {cs : List Nat} (w : World) (hx : Rd encU 1 w B v bs) (hB : B ≤ w.heap.size) (T : Tabs w) (h : Told bs cs rest) (hne : rest ≠ []) (hn : chr rest = none) :
    Calls Tryd.prog 12 #[v] w fun e w' => e = .returned (.tuple #[.int .i64 (encB cs).length, .int .i64 10]) ∧ Below w.heap.size w w' := by
  refine (check_any w hx hB T).mono ?_
  rintro e w' ⟨⟨ds, rest', hT, hc⟩, hb⟩
  rcases hc with ⟨rfl, rfl⟩ | ⟨hne', hn', rfl⟩
  · exact absurd (Told.one h hT (Or.inr hn) (Or.inl rfl)).2 hne
  · obtain ⟨rfl, rfl⟩ := Told.one h hT (Or.inr hn) (Or.inr hn')
    exact ⟨rfl, hb⟩
theorem check_val {B : Nat} {v : Value} {bs : List UInt8} (w : World) (hx : Rd encU 1 w B v bs) (hB : B ≤ w.heap.size) (T : Tabs w) :
    Calls Tryd.prog 12 #[v] w fun e w' => (∃ n x : Int, e = .returned (.tuple #[.int .i64 n, .int .i64 x])) ∧ Below w.heap.size w w' := by
  refine (check_any w hx hB T).mono ?_
  rintro e w' ⟨⟨ds, rest', hT, hc⟩, hb⟩
  rcases hc with ⟨_, rfl⟩ | ⟨_, _, rfl⟩
  · exact ⟨⟨_, _, rfl⟩, hb⟩
  · exact ⟨⟨_, _, rfl⟩, hb⟩
/-- any bytes are told -/
theorem told_all (bs : List UInt8) : ∃ cs rest, Told bs cs rest ∧ Stuck rest := by
  suffices h : ∀ n (bs : List UInt8), bs.length ≤ n → ∃ cs rest, Told bs cs rest ∧ Stuck rest from h _ bs (Nat.le_refl _)
  intro n
  induction n with
  | zero =>
    intro bs h
    exact ⟨[], bs, Told.start bs, Or.inl (List.eq_nil_of_length_eq_zero (by omega))⟩
  | succ n ih =>
    intro bs h
    by_cases hne : bs = []
    · exact ⟨[], bs, Told.start bs, Or.inl hne⟩
    · cases hc : chr bs with
      | none => exact ⟨[], bs, Told.start bs, Or.inr hc⟩
      | some p =>
        obtain ⟨r, s⟩ := p
        obtain ⟨h1, h2, h3⟩ := chr_bytes hne hc
        have h4 := bytesN_len r
        have h5 : 0 < bs.length := List.length_pos_iff.2 hne
        rw [← bytesOf_len] at h4
        obtain ⟨cs, rest, hT, hS⟩ := ih (bs.drop s) (by rw [List.length_drop]; omega)
        refine ⟨r :: cs, rest, ⟨?_, fun x hx => ?_⟩, hS⟩
        · rw [encB_cons, List.append_assoc, ← hT.eq]; exact h3
        · rcases List.mem_cons.1 hx with rfl | h'
          · exact h1
          · exact hT.all x h'
theorem Told.append {a b : List UInt8} {cs ds : List Nat} {rest : List UInt8} (h : Told a cs []) (k : Told b ds rest) : Told (a ++ b) (cs ++ ds) rest := by
  refine ⟨?_, fun x hx => ?_⟩
  · rw [encB_append, List.append_assoc, ← k.eq, h.eq, List.append_nil]
  · rcases List.mem_append.1 hx with h' | h'
    · exact h.all x h'
    · exact k.all x h'

set_option maxHeartbeats 8000000 in
set_option maxRecDepth 100000 in
theorem joins_walk {v1 v2 : Value} {a b : List UInt8} (w : World) (T : Tabs w) (ha : Rd encU 1 w w.heap.size v1 a) (hb : Rd encU 1 w w.heap.size v2 b) : Calls Tryd.prog 4 #[v1, v2] w fun e w' => e = .returned (.bool true) ∧ Below w.heap.size w w' := by
  have ha' := ha
  have hb' := hb
  obtain ⟨A1, cap1, rfl, -⟩ := ha
  obtain ⟨A2, cap2, rfl, -⟩ := hb
  by_cases hl : a.length ≤ 100 ∧ b.length ≤ 100
  · obtain ⟨hla, hlb⟩ := hl
    have d1 : decide ((100 : Int) < a.length) = false := decide_eq_false (by omega)
    have d2 : decide ((100 : Int) < b.length) = false := decide_eq_false (by omega)
    go_enter Tryd.func4, Tryd.ntmps4
    go_wp2_with (first | (at_builtin; refine wpList_append_rd _ (by rfl) _ _ _ (by rfl) encU encU_len encU_one T24 w.heap.size _ [] a (by rfl) (Own.nil _ _ _ _ _) _ (by rfl) ha' (by simp; omega) (Nat.le_refl _) ?_; intro v3 w3 hown3 hb3 hO3 hloc3) | (at_builtin; refine wpList_append_rd _ (by rfl) _ _ _ (by rfl) encU encU_len encU_one T24 w.heap.size _ a b (by rfl) hown3 _ (by rfl) (hb'.below hb3 (Nat.le_refl _)) (by omega) hb3.size ?_; intro v4 w4 hown4 hb4 hO4 hloc4))
    have hb04 : Below w.heap.size w w4 := hb3.trans hb4
    have T4 : Tabs w4 := T.below hb04
    have har := ha'.next hb04
    have hbr := hb'.next hb04
    have hab : Rd encU 1 w4 w4.heap.size v4 (a ++ b) := hown4.rd encU_len (by rw [List.length_append]; simp only [maxLen]; omega)
    obtain ⟨A4, cap4, rfl⟩ := hown4.len_val
    obtain ⟨cs, ra, hTa, hSa⟩ := told_all a
    obtain ⟨ds, rb, hTb, hSb⟩ := told_all b
    have hlab : (a ++ b).length = a.length + b.length := List.length_append
    have HLAB := Lib.hid hlab
    rw [hlab] at hab ⊢
    clear ha' hb' hown3 hb3 hO3 hloc3 hown4 hb4 hO4 hloc4
    by_cases hra : ra = []
    · subst hra
      have hc1 := check_whole w4 har (Nat.le_refl _) T4 hTa
      by_cases hrb : rb = []
      · subst hrb
        have hTab := Lib.hid (hTa.append hTb)
        have HTB := Lib.hid hTb
        clear hTa hSa hTb hSb hlab
        refine hc1.mono ?_
        rintro e w5 ⟨rfl, hb5⟩
        have hb05 := hb04.trans (hb5.mono hb04.size)
        have T5 := T4.below hb5
        replace hbr := hbr.next hb5
        replace hab := hab.next hb5
        have hc2 := check_whole w5 hbr (Nat.le_refl _) T5 HTB.out
        clear hc1 T4 hb5 hb04
        go_wp2_with fail
        refine hc2.mono ?_
        rintro e w6 ⟨rfl, hb6⟩
        have hb06 := hb05.trans (hb6.mono hb05.size)
        have T6 := T5.below hb6
        replace hab := hab.next hb6
        have hc3 := check_whole w6 hab (Nat.le_refl _) T6 hTab.out
        clear hc2 T5 hb6 hb05
        go_wp2_with fail
        refine hc3.mono ?_
        rintro e w7 ⟨rfl, hb7⟩
        have hb07 := hb06.trans (hb7.mono hb06.size)
        have T7 := T6.below hb7
        clear hc3 T6 hb7 hb06
        rw [HLAB.out]
        go_wp2_with fail
        refine (awake_any _ (T7)).mono ?_
        rintro e w8 ⟨rfl, hb8⟩
        go_wp2_with fail
        go_ret
        exact ⟨rfl, hb07.trans (hb8.mono hb07.size)⟩

      · have hnb : chr rb = none := by
          rcases hSb with h | h
          · exact absurd h hrb
          · exact h
        have hTab := Lib.hid (hTa.append hTb)
        have HTB := Lib.hid hTb
        have HNB := Lib.hid hnb
        have HRB := Lib.hid hrb
        have hea : (encB (cs ++ ds)).length = a.length + (encB ds).length := by
          rw [encB_append, List.length_append, hTa.eq, List.append_nil]
        have HEA := Lib.hid hea
        have hld := hTb.len
        have hlx : (encB ds).length ≤ 100 := by omega
        clear hTa hSa hTb hSb hlab hnb hrb hea hld
        refine hc1.mono ?_
        rintro e w5 ⟨rfl, hb5⟩
        have hb05 := hb04.trans (hb5.mono hb04.size)
        have T5 := T4.below hb5
        replace hbr := hbr.next hb5
        replace hab := hab.next hb5
        have hc2 := check_part w5 hbr (Nat.le_refl _) T5 HTB.out HRB.out HNB.out
        clear hc1 T4 hb5 hb04
        go_wp2_with fail
        refine hc2.mono ?_
        rintro e w6 ⟨rfl, hb6⟩
        have hb06 := hb05.trans (hb6.mono hb05.size)
        have T6 := T5.below hb6
        replace hab := hab.next hb6
        have hc3 := check_part w6 hab (Nat.le_refl _) T6 hTab.out HRB.out HNB.out
        clear hc2 T5 hb6 hb05
        go_wp2_with fail
        refine hc3.mono ?_
        rintro e w7 ⟨rfl, hb7⟩
        have hb07 := hb06.trans (hb7.mono hb06.size)
        have T7 := T6.below hb7
        clear hc3 T6 hb7 hb06
        rw [HEA.out]
        go_wp2_with fail
        refine (awake_any _ (T7)).mono ?_
        rintro e w8 ⟨rfl, hb8⟩
        go_wp2_with fail
        go_ret
        exact ⟨rfl, hb07.trans (hb8.mono hb07.size)⟩

    · have hna : chr ra = none := by
        rcases hSa with h | h
        · exact absurd h hra
        · exact h
      have hc1 := check_part w4 har (Nat.le_refl _) T4 hTa hra hna
      have hld := hTa.len
      have hlx : (encB cs).length ≤ a.length := by omega
      have hlx2 : ((encB cs).length : Int) ≤ (a.length : Int) := by omega
      clear hTa hSa hTb hSb hlab hna hra hld
      refine hc1.mono ?_
      rintro e w5 ⟨rfl, hb5⟩
      have hb05 := hb04.trans (hb5.mono hb04.size)
      have T5 := T4.below hb5
      replace hbr := hbr.next hb5
      replace hab := hab.next hb5
      have hc2 := check_val w5 hbr (Nat.le_refl _) T5
      clear hc1 T4 hb5 hb04
      go_wp2_with fail
      refine hc2.mono ?_
      rintro e w6 ⟨⟨n2, x2, rfl⟩, hb6⟩
      have hb06 := hb05.trans (hb6.mono hb05.size)
      have T6 := T5.below hb6
      replace hab := hab.next hb6
      have hc3 := check_val w6 hab (Nat.le_refl _) T6
      clear hc2 T5 hb6 hb05
      go_wp2_with fail
      refine hc3.mono ?_
      rintro e w7 ⟨⟨n3, x3, rfl⟩, hb7⟩
      have hb07 := hb06.trans (hb7.mono hb06.size)
      have T7 := T6.below hb7
      clear hc3 T6 hb7 hb06
      go_wp2_with fail
      refine (awake_any _ (T7)).mono ?_
      rintro e w8 ⟨rfl, hb8⟩
      go_wp2_with fail
      go_ret
      exact ⟨rfl, hb07.trans (hb8.mono hb07.size)⟩

  · have hx : (100 : Int) < a.length ∨ ((a.length : Int) ≤ 100 ∧ (100 : Int) < b.length) := by omega
    clear hl ha' hb'
    rcases hx with h | ⟨h1, h2⟩
    · have d1 : decide ((100 : Int) < a.length) = true := decide_eq_true h
      go_enter Tryd.func4, Tryd.ntmps4
      go_wp2_with fail
      refine (awake_any _ T).mono ?_
      rintro e w1 ⟨rfl, hb1⟩
      go_wp2_with fail
      go_ret
      exact ⟨rfl, hb1⟩
    · have d1 : decide ((100 : Int) < a.length) = false := decide_eq_false (by omega)
      have d2 : decide ((100 : Int) < b.length) = true := decide_eq_true h2
      go_enter Tryd.func4, Tryd.ntmps4
      go_wp2_with fail
      refine (awake_any _ T).mono ?_
      rintro e w1 ⟨rfl, hb1⟩
      go_wp2_with fail
      go_ret
      exact ⟨rfl, hb1⟩
end Go.Proofs.YtgkmmlffnfpjaaaDoor
