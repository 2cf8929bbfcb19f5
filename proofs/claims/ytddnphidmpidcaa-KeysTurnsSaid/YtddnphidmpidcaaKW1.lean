import Derived.Test.YtddnphidmpidcaaProg
import Derived.Test.YtddnphidmpidcaaWords
namespace Go.Proofs.Ytddnphidmpidcaa
open Go Go.RowKit

structure Ent where
  at_ : Int
  has : Bool
  key : ByteArray
structure REnt where
  has : Bool
  key : ByteArray
def Ent.enc (e : Ent) : List Value := [.int .i64 e.at_, .bool e.has, .string e.key]
def REnt.enc (e : REnt) : List Value := [.bool e.has, .string e.key]
/-- the key that counts: none of one that has none -/
def nk (h : Bool) (s : ByteArray) : ByteArray := if h then s else ⟨#[]⟩
theorem nk_size (h : Bool) (s : ByteArray) {n : Nat} (hs : s.size ≤ n) : (nk h s).size ≤ n := by cases h <;> simp [nk, hs]; exact Nat.zero_le _
def Ent.nrm (e : Ent) : REnt := ⟨e.has, nk e.has e.key⟩
def REnt.nrm (e : REnt) : REnt := ⟨e.has, nk e.has e.key⟩
def encI (n : Int) : List Value := [.int .i64 n]
/-- do two entries match? -/
def matchB (b c : Bool) (s t : ByteArray) : Bool := b == c && (!b || s == t)

set_option maxHeartbeats 400000 in
theorem same_any (i : Int) (h : Bool) (s : ByteArray) (w : World) :
   Calls Try.prog 20 #[.agg #[.int .i64 i, .bool h, .string s]] w fun e w' => e = .returned (.agg #[.int .i64 0, .bool h, .string (nk h s)]) ∧ Below w.heap.size w w' := by
  cases h
  all_goals
    go_enter Try.func20, Try.ntmps20
    go_wp2
    refine bodyPost_ret (v := .agg #[.int .i64 0, .bool _, .string (nk _ s)]) (by simp [results, Try.results20, go_sem, nk]) rfl ⟨rfl, ?_⟩
    ((repeat (first | exact Below.refl _ _ | assumption | refine Below.alloc ?_ (by first | omega | (simp; done) | (simp; omega)) _ | refine Below.setCell ?_ (by first | omega | (simp; done) | (simp; omega)) _ | refine Below.drew ?_ | refine below_drewN ?_ _)); done)
set_option maxHeartbeats 400000 in
theorem match_any (b c : Bool) (s t : ByteArray) (w : World) :
   Calls Try.prog 21 #[.agg #[.bool b, .string s], .agg #[.bool c, .string t]] w fun e w' => e = .returned (.bool (matchB b c s t)) ∧ Below w.heap.size w w' := by
  by_cases hbc : b = c
  · subst hbc
    cases b
    all_goals
      go_enter Try.func21, Try.ntmps21
      go_wp2
      go_ret
      refine ⟨by simp [matchB, beq_toListBytes], ?_⟩
      ((repeat (first | exact Below.refl _ _ | assumption | refine Below.alloc ?_ (by first | omega | (simp; done) | (simp; omega)) _ | refine Below.setCell ?_ (by first | omega | (simp; done) | (simp; omega)) _ | refine Below.drew ?_ | refine below_drewN ?_ _)); done)
  · have h1 : (b == c) = false := by simpa using hbc
    go_enter Try.func21, Try.ntmps21
    go_wp2
    go_ret
    refine ⟨by simp [matchB, h1], ?_⟩
    ((repeat (first | exact Below.refl _ _ | assumption | refine Below.alloc ?_ (by first | omega | (simp; done) | (simp; omega)) _ | refine Below.setCell ?_ (by first | omega | (simp; done) | (simp; omega)) _ | refine Below.drew ?_ | refine below_drewN ?_ _)); done)

set_option maxHeartbeats 400000 in
theorem ints_any {B B' : Nat} {v v' : Value} {xs ys : List Int} (w : World) (hx : Rd encI 1 w B v xs) (hy : Rd encI 1 w B' v' ys) (hB : B ≤ w.heap.size) (hB' : B' ≤ w.heap.size) :
   Calls Try.prog 17 #[v, v'] w fun e w' => e = .returned (.bool (decide (xs = ys))) ∧ Below w.heap.size w w' := by
  have hx' := hx
  have hy' := hy
  obtain ⟨A, cap, rfl, h1, h2, -⟩ := hx
  obtain ⟨A', cap', rfl, h1', h2', -⟩ := hy
  unfold maxLen at h2 h2'
  by_cases hl : xs.length = ys.length
  · have hne : ((xs.length : Int) != (ys.length : Int)) = false := by simp [hl]
    have H := Lib.hid hl
    clear hl
    go_enter Try.func17, Try.ntmps17
    go_wp2
    go_loopw [5] (fun i wr => ∃ k : Nat, k ≤ xs.length ∧ i = .int .i64 k ∧ Hid (xs.take k = ys.take k) ∧ Below w.heap.size w wr) (fun i _ => xs.length - (intOf i).toNat)
    case atStart => exact ⟨0, Nat.zero_le _, rfl, rfl, Below.refl _ _⟩
    case round =>
      obtain ⟨k, hk, rfl, htk, hbel⟩ := hrel
      by_cases hlt : k < xs.length
      · obtain ⟨X, hxk⟩ := get_lt hlt
        have hlt2 : k < ys.length := by rw [← H.out]; exact hlt
        obtain ⟨Y, hyk⟩ := get_lt hlt2
        obtain ⟨b, off, rfl, hb, hc⟩ := (hx'.below hbel hB).at_ hxk
        obtain ⟨b', off', rfl, hb', hc'⟩ := (hy'.below hbel hB').at_ hyk
        have c1 : wr.cell? ⟨b, off + k, none⟩ = some (.int .i64 X) := by simpa using hc k _ hxk 0 _ rfl
        have c2 : wr.cell? ⟨b', off' + k, none⟩ = some (.int .i64 Y) := by simpa using hc' k _ hyk 0 _ rfl
        have HX := Lib.hid hxk
        have HY := Lib.hid hyk
        clear hc hc' hxk hyk hx' hy'
        by_cases he : X = Y
        · have hne' : (X != Y) = false := by simp [he]
          have HE := Lib.hid he
          clear he
          go_wp2
          go_quiet (fail)
          go_wp2
          go_roundw
          case rel => exact ⟨k + 1, by omega, by go_num, take_same_snoc htk.out HX.out HY.out HE.out, below_drewN hbel _⟩
          case measure => simp [intOf]; omega
        · have hne' : (X != Y) = true := by simp [he]
          have hd : decide (xs = ys) = false := by
            simp only [decide_eq_false_iff_not]; rintro rfl; exact he (Option.some.inj (HX.out.symm.trans HY.out))
          have HD := Lib.hid hd
          clear he hd
          go_wp2
          go_quiet (fail)
          go_wp2
          go_ret
          exact ⟨ret_bool HD.out.symm, below_drewN hbel _⟩
      · have hd : decide (xs = ys) = true := by
          have h0 := H.out
          simp only [decide_eq_true_eq]; rw [← take_len_le (xs := xs) (k := k) (by omega), ← take_len_le (xs := ys) (k := k) (by omega)]; exact htk.out
        have HD := Lib.hid hd
        clear hd
        go_wp2
        go_ret
        exact ⟨ret_bool HD.out.symm, hbel⟩
  · have hne : ((xs.length : Int) != (ys.length : Int)) = true := by simp; omega
    have hd : decide (xs = ys) = false := by simp; intro h; exact hl (by rw [h])
    rw [hd]
    clear hd hl
    go_enter Try.func17, Try.ntmps17
    go_wp2
    go_ret
    exact ⟨rfl, Below.refl _ _⟩

/-- what slices.Index answers: below 0 just where y is none of them -/
def IndexPost (xs : List Int) (y : Int) (w : World) (e : Ending) (w' : World) : Prop := ∃ r : Int, e = .returned (.int .i64 r) ∧ decide (0 ≤ r) = decide (y ∈ xs) ∧ Below w.heap.size w w'
set_option maxHeartbeats 400000 in
theorem index_any {B : Nat} {v : Value} {xs : List Int} (y : Int) (w : World) (hx : Rd encI 1 w B v xs) (hB : B ≤ w.heap.size) :
   Calls Try.prog 23 #[v, .int .i64 y] w (IndexPost xs y w) := by
  have hx' := hx
  obtain ⟨A, cap, rfl, h1, h2, -⟩ := hx
  unfold maxLen at h2
  go_enter Try.func23, Try.ntmps23
  go_wp2
  go_loopw [8] (fun i wr => ∃ k : Nat, k ≤ xs.length ∧ i = .int .i64 k ∧ Hid (y ∉ xs.take k) ∧ Below w.heap.size w wr) (fun i _ => xs.length - (intOf i).toNat)
  case atStart => exact ⟨0, Nat.zero_le _, rfl, by simp [Hid], Below.refl _ _⟩
  case round =>
    obtain ⟨k, hk, rfl, hno, hbel⟩ := hrel
    by_cases hlt : k < xs.length
    · obtain ⟨X, hxk⟩ := get_lt hlt
      obtain ⟨b, off, rfl, hb, hc⟩ := (hx'.below hbel hB).at_ hxk
      have c1 : wr.cell? ⟨b, off + k, none⟩ = some (.int .i64 X) := by simpa using hc k _ hxk 0 _ rfl
      have HX := Lib.hid hxk
      clear hc hxk hx'
      by_cases he : y = X
      · have hne' : (y == X) = true := by simp [he]
        have HE := Lib.hid he
        clear he
        go_wp2
        go_ret
        exact ⟨k, rfl, by simp [HE.out]; exact List.mem_of_getElem? HX.out, hbel⟩
      · have hne' : (y == X) = false := by simp [he]
        have HE := Lib.hid he
        clear he
        go_wp2
        go_roundw
        case rel => exact ⟨k + 1, by omega, by go_num, by unfold Hid; rw [take_snoc HX.out]; simp; exact ⟨hno.out, HE.out⟩, hbel⟩
        case measure => simp [intOf]; omega
    · have hd : y ∉ xs := by have := hno.out; rwa [take_len_le (by omega)] at this
      have HD := Lib.hid hd
      clear hd
      go_wp2
      go_ret
      exact ⟨-1, rfl, by simp [HD.out], hbel⟩

set_option maxHeartbeats 400000 in
theorem contains_any {B : Nat} {v : Value} {xs : List Int} (y : Int) (w : World) (hx : Rd encI 1 w B v xs) (hB : B ≤ w.heap.size) :
   Calls Try.prog 22 #[v, .int .i64 y] w fun e w' => e = .returned (.bool (decide (y ∈ xs))) ∧ Below w.heap.size w w' := by
  go_enter Try.func22, Try.ntmps22
  go_wp2_with fail
  refine (index_any y _ hx hB).mono ?_
  rintro e w' ⟨r, rfl, hr, hb⟩
  have HR := Lib.hid hr
  clear hr
  go_wp2
  go_ret
  exact ⟨ret_bool (by rw [← HR.out]), hb⟩

end Go.Proofs.Ytddnphidmpidcaa
