import Derived.Test.YtgkmmlffnfpjaaaDoorUW6
namespace Go.Proofs.YtgkmmlffnfpjaaaDoor
open Go Go.RowKit

section
variable {α : Type} {P : Program} {ops : Array Oper} {rest : List Oper} {o : Oper} {a : Act} {Q : Exit → Act → World → Prop}
/-- 'append(out, ys..)', ys a block known whole, in a plain region. -/
theorem wpList_append_blk (w : World) (hgd : o.guard = none) (s x : Operand) (t : TypeId)
    (ho : o.op = .call { callee := .builtin .append, args := #[s, x], argTypes := #[t, t] })
    (enc : α → List Value) {e : TypeId} {size bytes : Nat} (henc : ∀ y, (enc y).length = size) (h1 : ∀ y, ∀ u ∈ enc y, u.oneCell' = true) (T : SliceT P t e size bytes) (base : Nat)
    (v : Value) (xs ys : List α) (hs : a.eval s = v) (hown : Own enc size e w base v xs) (bk : Nat) (news : Array Value) (hnews : news.toList = ys.flatMap enc) (n : Nat) (hn : n = ys.length) (hx : a.eval x = .slice (some ⟨bk, 0, none⟩) n n)
    (hblk : w.heap[bk]? = some (.cells news e (0, 0))) (hlong : xs.length + ys.length ≤ 1000000) (hbase : base ≤ w.heap.size)
    (h : ∀ v' w', Own enc size e w' base v' (xs ++ ys) → Below base w w' → Only (fun k => v.ownBlock = some k) w w' → (v'.ownBlock = v.ownBlock ∨ v'.ownBlock = some w.heap.size) → wpList P ops Q rest (a.put o.dst v') w') :
    wpList P ops Q (o :: rest) a w :=
  wpList_append_many w hgd s x t ho enc henc h1 T base v xs ys hs hown ⟨bk, 0, none⟩ n n hn hx (fun j u hu => by
    rw [Addr.add_lit, Nat.zero_add, cell_of_row _ _ j news e (0, 0) hblk]
    rw [← hnews] at hu
    simpa using hu) hlong hbase h
end

theorem only_alloc (S : Nat → Prop) (w : World) (o : Obj) : Only S w (w.alloc o) := Only.of_below (by ((repeat (first | exact Below.refl _ _ | assumption | refine Below.alloc ?_ (by first | omega | (simp; done) | (simp; omega)) _ | refine Below.setCell ?_ (by first | omega | (simp; done) | (simp; omega)) _ | refine Below.drew ?_ | refine below_drewN ?_ _)); done)) _
/-- what appending to a row that is one's own leaves -/
def Apd (base : Nat) (v : Value) (xs : List UInt8) (w : World) (e : Ending) (w' : World) : Prop :=
  ∃ u, e = .returned u ∧ Own encU 1 5 w' base u xs ∧ Below base w w' ∧ Only (fun k => v.ownBlock = some k) w w' ∧ (u.ownBlock = v.ownBlock ∨ ∃ k, u.ownBlock = some k ∧ w.heap.size ≤ k)

theorem flat_u (l : List Nat) (h : ∀ x ∈ l, x < 256) : (l.map UInt8.ofNat).flatMap encU = l.map (fun (x : Nat) => Value.int .u8 (x : Int)) := by
  induction l with
  | nil => rfl
  | cons x xs ih =>
    have hx := h x (List.mem_cons_self ..)
    rw [List.map_cons, List.flatMap_cons, ih (fun y hy => h y (List.mem_cons_of_mem _ hy)), List.map_cons]
    unfold encU
    rw [UInt8.toNat_ofNat', Nat.mod_eq_of_lt (by omega)]
    rfl

set_option maxHeartbeats 4000000 in
set_option maxRecDepth 100000 in
theorem app1 {base : Nat} {v : Value} {xs : List UInt8} {n : Nat} (w : World) (hown : Own encU 1 5 w base v xs) (hb : base ≤ w.heap.size) (hl : xs.length ≤ 100000) (h1 : n < 128) :
    Calls Tryd.prog 17 #[v, .int .i32 n] w (Apd base v (xs ++ bytesOf n) w) := by
  have hby : bytesN n = [n] := by unfold bytesN; rw [if_pos h1]
  have hfl := flat_u (bytesN n) (bytesN_lt (by omega))
  have hlen := bytesOf_len n
  change (bytesOf n).flatMap encU = _ at hfl
  rw [hby] at hfl hlen
  have hfl' : (bytesOf n).flatMap encU = [.int .u8 ((n : Int))] := hfl
  have HL := Lib.hid hlen
  obtain ⟨bs, hbs⟩ : ∃ bs, bs = bytesOf n := ⟨_, rfl⟩
  rw [← hbs] at hfl' HL ⊢
  have z0 : (0 : Int) ≤ n := by omega
  have z1 : (n : Int) ≤ 127 := by omega
  clear hby hfl hlen hbs h1
  generalize (n : Int) = r at *
  have HF := Lib.hid hfl'
  clear hfl'
  go_enter Tryd.func17, Tryd.ntmps17
  go_wp2_with (at_builtin; refine wpList_append_blk _ (by rfl) _ _ _ (by rfl) encU encU_len encU_one T24 base _ xs bs (by rfl) (hown.below (by ((repeat (first | exact Below.refl _ _ | assumption | refine Below.alloc ?_ (by first | omega | (simp; done) | (simp; omega)) _ | refine Below.setCell ?_ (by first | omega | (simp; done) | (simp; omega)) _ | refine Below.drew ?_ | refine below_drewN ?_ _)); done))) w.heap.size #[.int .u8 (r)] HF.out.symm 1 (by rw [HL.out]; rfl) (by rfl) (heap_alloc_new _ _) (by rw [HL.out]; simp; omega) (by simp; omega) ?_; intro v3 w3 hown3 hb3 hO3 hloc3)
  go_ret
  exact ⟨_, rfl, hown3, Below.trans (by ((repeat (first | exact Below.refl _ _ | assumption | refine Below.alloc ?_ (by first | omega | (simp; done) | (simp; omega)) _ | refine Below.setCell ?_ (by first | omega | (simp; done) | (simp; omega)) _ | refine Below.drew ?_ | refine below_drewN ?_ _)); done)) hb3, Only.trans (only_alloc _ _ _) hO3, by
    rcases hloc3 with h | h
    · exact Or.inl h
    · exact Or.inr ⟨_, h, by simp⟩⟩
set_option maxHeartbeats 4000000 in
set_option maxRecDepth 100000 in
theorem app2 {base : Nat} {v : Value} {xs : List UInt8} {n : Nat} (w : World) (hown : Own encU 1 5 w base v xs) (hb : base ≤ w.heap.size) (hl : xs.length ≤ 100000) (h0 : 128 ≤ n) (h1 : n < 2048) :
    Calls Tryd.prog 24 #[v, .int .i32 n] w (Apd base v (xs ++ bytesOf n) w) := by
  have hby : bytesN n = [192 + n / 64, 128 + n % 64] := by unfold bytesN; rw [if_neg (by omega), if_pos h1]
  have hfl := flat_u (bytesN n) (bytesN_lt (by omega))
  have hlen := bytesOf_len n
  change (bytesOf n).flatMap encU = _ at hfl
  rw [hby] at hfl hlen
  have hfl' : (bytesOf n).flatMap encU = [.int .u8 (192 + (n : Int) / 64), .int .u8 (128 + (n : Int) % 64)] := hfl
  have HL := Lib.hid hlen
  obtain ⟨bs, hbs⟩ : ∃ bs, bs = bytesOf n := ⟨_, rfl⟩
  rw [← hbs] at hfl' HL ⊢
  have z0 : (0 : Int) ≤ n := by omega
  have z1 : (128 : Int) ≤ n := by omega
  have z2 : (n : Int) ≤ 2047 := by omega
  clear hby hfl hlen hbs h0 h1
  generalize (n : Int) = r at *
  have HF := Lib.hid hfl'
  clear hfl'
  go_enter Tryd.func24, Tryd.ntmps24
  go_wp2_with (at_builtin; refine wpList_append_blk _ (by rfl) _ _ _ (by rfl) encU encU_len encU_one T24 base _ xs bs (by rfl) (hown.below (by ((repeat (first | exact Below.refl _ _ | assumption | refine Below.alloc ?_ (by first | omega | (simp; done) | (simp; omega)) _ | refine Below.setCell ?_ (by first | omega | (simp; done) | (simp; omega)) _ | refine Below.drew ?_ | refine below_drewN ?_ _)); done))) w.heap.size #[.int .u8 (192 + r / 64), .int .u8 (128 + r % 64)] HF.out.symm 2 (by rw [HL.out]; rfl) (by rfl) (heap_alloc_new _ _) (by rw [HL.out]; simp; omega) (by simp; omega) ?_; intro v3 w3 hown3 hb3 hO3 hloc3)
  go_ret
  exact ⟨_, rfl, hown3, Below.trans (by ((repeat (first | exact Below.refl _ _ | assumption | refine Below.alloc ?_ (by first | omega | (simp; done) | (simp; omega)) _ | refine Below.setCell ?_ (by first | omega | (simp; done) | (simp; omega)) _ | refine Below.drew ?_ | refine below_drewN ?_ _)); done)) hb3, Only.trans (only_alloc _ _ _) hO3, by
    rcases hloc3 with h | h
    · exact Or.inl h
    · exact Or.inr ⟨_, h, by simp⟩⟩
set_option maxHeartbeats 4000000 in
set_option maxRecDepth 100000 in
theorem app3l {base : Nat} {v : Value} {xs : List UInt8} {n : Nat} (w : World) (hown : Own encU 1 5 w base v xs) (hb : base ≤ w.heap.size) (hl : xs.length ≤ 100000) (h0 : 2048 ≤ n) (h1 : n < 55296) :
    Calls Tryd.prog 24 #[v, .int .i32 n] w (Apd base v (xs ++ bytesOf n) w) := by
  have hby : bytesN n = [224 + n / 4096, 128 + n / 64 % 64, 128 + n % 64] := by unfold bytesN; rw [if_neg (by omega), if_neg (by omega), if_pos (by omega)]
  have hfl := flat_u (bytesN n) (bytesN_lt (by omega))
  have hlen := bytesOf_len n
  change (bytesOf n).flatMap encU = _ at hfl
  rw [hby] at hfl hlen
  have hfl' : (bytesOf n).flatMap encU = [.int .u8 (224 + (n : Int) / 4096), .int .u8 (128 + (n : Int) / 64 % 64), .int .u8 (128 + (n : Int) % 64)] := hfl
  have HL := Lib.hid hlen
  obtain ⟨bs, hbs⟩ : ∃ bs, bs = bytesOf n := ⟨_, rfl⟩
  rw [← hbs] at hfl' HL ⊢
  have z0 : (0 : Int) ≤ n := by omega
  have z1 : (2048 : Int) ≤ n := by omega
  have z2 : (n : Int) < 55296 := by omega
  clear hby hfl hlen hbs h0 h1
  generalize (n : Int) = r at *
  have HF := Lib.hid hfl'
  clear hfl'
  go_enter Tryd.func24, Tryd.ntmps24
  go_wp2_with (at_builtin; refine wpList_append_blk _ (by rfl) _ _ _ (by rfl) encU encU_len encU_one T24 base _ xs bs (by rfl) (hown.below (by ((repeat (first | exact Below.refl _ _ | assumption | refine Below.alloc ?_ (by first | omega | (simp; done) | (simp; omega)) _ | refine Below.setCell ?_ (by first | omega | (simp; done) | (simp; omega)) _ | refine Below.drew ?_ | refine below_drewN ?_ _)); done))) w.heap.size #[.int .u8 (224 + r / 4096), .int .u8 (128 + r / 64 % 64), .int .u8 (128 + r % 64)] HF.out.symm 3 (by rw [HL.out]; rfl) (by rfl) (heap_alloc_new _ _) (by rw [HL.out]; simp; omega) (by simp; omega) ?_; intro v3 w3 hown3 hb3 hO3 hloc3)
  go_ret
  exact ⟨_, rfl, hown3, Below.trans (by ((repeat (first | exact Below.refl _ _ | assumption | refine Below.alloc ?_ (by first | omega | (simp; done) | (simp; omega)) _ | refine Below.setCell ?_ (by first | omega | (simp; done) | (simp; omega)) _ | refine Below.drew ?_ | refine below_drewN ?_ _)); done)) hb3, Only.trans (only_alloc _ _ _) hO3, by
    rcases hloc3 with h | h
    · exact Or.inl h
    · exact Or.inr ⟨_, h, by simp⟩⟩
set_option maxHeartbeats 4000000 in
set_option maxRecDepth 100000 in
theorem app3h {base : Nat} {v : Value} {xs : List UInt8} {n : Nat} (w : World) (hown : Own encU 1 5 w base v xs) (hb : base ≤ w.heap.size) (hl : xs.length ≤ 100000) (h0 : 57344 ≤ n) (h1 : n ≤ 65535) :
    Calls Tryd.prog 24 #[v, .int .i32 n] w (Apd base v (xs ++ bytesOf n) w) := by
  have hby : bytesN n = [224 + n / 4096, 128 + n / 64 % 64, 128 + n % 64] := by unfold bytesN; rw [if_neg (by omega), if_neg (by omega), if_pos (by omega)]
  have hfl := flat_u (bytesN n) (bytesN_lt (by omega))
  have hlen := bytesOf_len n
  change (bytesOf n).flatMap encU = _ at hfl
  rw [hby] at hfl hlen
  have hfl' : (bytesOf n).flatMap encU = [.int .u8 (224 + (n : Int) / 4096), .int .u8 (128 + (n : Int) / 64 % 64), .int .u8 (128 + (n : Int) % 64)] := hfl
  have HL := Lib.hid hlen
  obtain ⟨bs, hbs⟩ : ∃ bs, bs = bytesOf n := ⟨_, rfl⟩
  rw [← hbs] at hfl' HL ⊢
  have z0 : (0 : Int) ≤ n := by omega
  have z1 : (57343 : Int) < n := by omega
  have z2 : (n : Int) ≤ 65535 := by omega
  clear hby hfl hlen hbs h0 h1
  generalize (n : Int) = r at *
  have HF := Lib.hid hfl'
  clear hfl'
  go_enter Tryd.func24, Tryd.ntmps24
  go_wp2_with (at_builtin; refine wpList_append_blk _ (by rfl) _ _ _ (by rfl) encU encU_len encU_one T24 base _ xs bs (by rfl) (hown.below (by ((repeat (first | exact Below.refl _ _ | assumption | refine Below.alloc ?_ (by first | omega | (simp; done) | (simp; omega)) _ | refine Below.setCell ?_ (by first | omega | (simp; done) | (simp; omega)) _ | refine Below.drew ?_ | refine below_drewN ?_ _)); done))) w.heap.size #[.int .u8 (224 + r / 4096), .int .u8 (128 + r / 64 % 64), .int .u8 (128 + r % 64)] HF.out.symm 3 (by rw [HL.out]; rfl) (by rfl) (heap_alloc_new _ _) (by rw [HL.out]; simp; omega) (by simp; omega) ?_; intro v3 w3 hown3 hb3 hO3 hloc3)
  go_ret
  exact ⟨_, rfl, hown3, Below.trans (by ((repeat (first | exact Below.refl _ _ | assumption | refine Below.alloc ?_ (by first | omega | (simp; done) | (simp; omega)) _ | refine Below.setCell ?_ (by first | omega | (simp; done) | (simp; omega)) _ | refine Below.drew ?_ | refine below_drewN ?_ _)); done)) hb3, Only.trans (only_alloc _ _ _) hO3, by
    rcases hloc3 with h | h
    · exact Or.inl h
    · exact Or.inr ⟨_, h, by simp⟩⟩
set_option maxHeartbeats 4000000 in
set_option maxRecDepth 100000 in
theorem app4 {base : Nat} {v : Value} {xs : List UInt8} {n : Nat} (w : World) (hown : Own encU 1 5 w base v xs) (hb : base ≤ w.heap.size) (hl : xs.length ≤ 100000) (h0 : 65536 ≤ n) (h1 : n ≤ 1114111) :
    Calls Tryd.prog 24 #[v, .int .i32 n] w (Apd base v (xs ++ bytesOf n) w) := by
  have hby : bytesN n = [240 + n / 262144, 128 + n / 4096 % 64, 128 + n / 64 % 64, 128 + n % 64] := by unfold bytesN; rw [if_neg (by omega), if_neg (by omega), if_neg (by omega)]
  have hfl := flat_u (bytesN n) (bytesN_lt (by omega))
  have hlen := bytesOf_len n
  change (bytesOf n).flatMap encU = _ at hfl
  rw [hby] at hfl hlen
  have hfl' : (bytesOf n).flatMap encU = [.int .u8 (240 + (n : Int) / 262144), .int .u8 (128 + (n : Int) / 4096 % 64), .int .u8 (128 + (n : Int) / 64 % 64), .int .u8 (128 + (n : Int) % 64)] := hfl
  have HL := Lib.hid hlen
  obtain ⟨bs, hbs⟩ : ∃ bs, bs = bytesOf n := ⟨_, rfl⟩
  rw [← hbs] at hfl' HL ⊢
  have z0 : (0 : Int) ≤ n := by omega
  have z1 : (65536 : Int) ≤ n := by omega
  have z2 : (n : Int) ≤ 1114111 := by omega
  clear hby hfl hlen hbs h0 h1
  generalize (n : Int) = r at *
  have HF := Lib.hid hfl'
  clear hfl'
  go_enter Tryd.func24, Tryd.ntmps24
  go_wp2_with (at_builtin; refine wpList_append_blk _ (by rfl) _ _ _ (by rfl) encU encU_len encU_one T24 base _ xs bs (by rfl) (hown.below (by ((repeat (first | exact Below.refl _ _ | assumption | refine Below.alloc ?_ (by first | omega | (simp; done) | (simp; omega)) _ | refine Below.setCell ?_ (by first | omega | (simp; done) | (simp; omega)) _ | refine Below.drew ?_ | refine below_drewN ?_ _)); done))) w.heap.size #[.int .u8 (240 + r / 262144), .int .u8 (128 + r / 4096 % 64), .int .u8 (128 + r / 64 % 64), .int .u8 (128 + r % 64)] HF.out.symm 4 (by rw [HL.out]; rfl) (by rfl) (heap_alloc_new _ _) (by rw [HL.out]; simp; omega) (by simp; omega) ?_; intro v3 w3 hown3 hb3 hO3 hloc3)
  go_ret
  exact ⟨_, rfl, hown3, Below.trans (by ((repeat (first | exact Below.refl _ _ | assumption | refine Below.alloc ?_ (by first | omega | (simp; done) | (simp; omega)) _ | refine Below.setCell ?_ (by first | omega | (simp; done) | (simp; omega)) _ | refine Below.drew ?_ | refine below_drewN ?_ _)); done)) hb3, Only.trans (only_alloc _ _ _) hO3, by
    rcases hloc3 with h | h
    · exact Or.inl h
    · exact Or.inr ⟨_, h, by simp⟩⟩

theorem app_many {base : Nat} {v : Value} {xs : List UInt8} {n : Nat} (w : World) (hown : Own encU 1 5 w base v xs) (hb : base ≤ w.heap.size) (hl : xs.length ≤ 100000) (h0 : 128 ≤ n) (h : isB (n : Int) = true) :
    Calls Tryd.prog 24 #[v, .int .i32 n] w (Apd base v (xs ++ bytesOf n) w) := by
  rw [isB_nat] at h
  by_cases h1 : n < 2048
  · exact app2 w hown hb hl h0 h1
  by_cases h2 : n < 55296
  · exact app3l w hown hb hl (by omega) h2
  by_cases h3 : n ≤ 65535
  · exact app3h w hown hb hl (by omega) h3
  · exact app4 w hown hb hl (by omega) (by omega)

set_option maxHeartbeats 4000000 in
/-- utf8.AppendRune: a character's bytes are put behind -/
theorem append_any {base : Nat} {v : Value} {xs : List UInt8} {n : Nat} (w : World) (hown : Own encU 1 5 w base v xs) (hb : base ≤ w.heap.size) (hl : xs.length ≤ 100000) (h : isB (n : Int) = true) :
    Calls Tryd.prog 17 #[v, .int .i32 n] w (Apd base v (xs ++ bytesOf n) w) := by
  by_cases h1 : n < 128
  · exact app1 w hown hb hl h1
  · have hm := app_many w hown hb hl (by omega) h
    have h' := (isB_nat n).1 h
    have z0 : (0 : Int) ≤ n := by omega
    have z1 : (128 : Int) ≤ n := by omega
    have z2 : (n : Int) ≤ 1114111 := by omega
    obtain ⟨ys, hys⟩ : ∃ ys, ys = xs ++ bytesOf n := ⟨_, rfl⟩
    rw [← hys] at hm ⊢
    clear hys h' h
    go_enter Tryd.func17, Tryd.ntmps17
    go_wp2_with fail
    refine hm.mono ?_
    rintro e w1 ⟨u, rfl, a1, a2, a3, a4⟩
    go_wp2_with fail
    go_ret
    exact ⟨u, rfl, a1, a2, a3, a4⟩
end Go.Proofs.YtgkmmlffnfpjaaaDoor
