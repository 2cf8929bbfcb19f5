import Derived.Test.YtgkmmlffnfpjaaaDoorUJ
namespace Go.Proofs.YtgkmmlffnfpjaaaDoor
open Go Go.RowKit

theorem isB_eq {r : Int} {b : Bool} (h : b = true ↔ r = 9 ∨ r = 10 ∨ r = 13 ∨ (32 ≤ r ∧ r ≤ 55295) ∨ (57344 ≤ r ∧ r ≤ 65533) ∨ (65536 ≤ r ∧ r ≤ 1114111)) : b = isB r := by
  rw [Bool.eq_iff_iff, isB_iff]; exact h

set_option maxHeartbeats 4000000 in
theorem refis_any (n : Int) (w : World) : Calls Tryd.prog 9 #[.int .i64 n] w fun e w' => e = .returned (.bool (isB n)) ∧ Below w.heap.size w w' := by
  go_enter Tryd.func9, Tryd.ntmps9
  go_wp2
  all_goals
    go_ret
    refine ⟨ret_bool (isB_eq ?_), by ((repeat (first | exact Below.refl _ _ | assumption | refine Below.alloc ?_ (by first | omega | (simp; done) | (simp; omega)) _ | refine Below.setCell ?_ (by first | omega | (simp; done) | (simp; omega)) _ | refine Below.drew ?_ | refine below_drewN ?_ _)); done)⟩
    simp
    try omega

/-- new bytes that read as these -/
def News (xs : List UInt8) (w : World) (e : Ending) (w' : World) : Prop := ∃ u, e = .returned u ∧ Rd encU 1 w' w'.heap.size u xs ∧ Below w.heap.size w w'
set_option maxHeartbeats 4000000 in
set_option maxRecDepth 100000 in
theorem rb1 {n : Nat} (w : World) (h1 : n < 128) : Calls Tryd.prog 10 #[.int .i64 n] w (News (bytesOf n) w) := by
  have hby : bytesN n = [n] := by unfold bytesN; rw [if_pos h1]
  have hfl := flat_u (bytesN n) (bytesN_lt (by omega))
  have hlen := bytesOf_len n
  change (bytesOf n).flatMap encU = _ at hfl
  rw [hby] at hfl hlen
  have hfl' : (bytesOf n).flatMap encU = [.int .u8 ((n : Int))] := hfl
  have HL := Lib.hid hlen
  obtain ⟨bs, hbs⟩ : ∃ bs, bs = bytesOf n := ⟨_, rfl⟩
  rw [← hbs] at hfl' HL ⊢
  have z0 : (0 : Int) ≤ n := by omega
  have z1 : (n : Int) ≤ 127 := by omega
  clear hby hfl hlen hbs h1
  generalize (n : Int) = r at *
  have HF := Lib.hid hfl'
  clear hfl'
  go_enter Tryd.func10, Tryd.ntmps10
  go_wp2_with fail
  go_ret
  exact ⟨_, rfl, Rd.lit encU 1 bs (heap_alloc_new _ _) HF.out.symm encU_len 1 (by rw [HL.out]; rfl) (by simp [maxLen]), by ((repeat (first | exact Below.refl _ _ | assumption | refine Below.alloc ?_ (by first | omega | (simp; done) | (simp; omega)) _ | refine Below.setCell ?_ (by first | omega | (simp; done) | (simp; omega)) _ | refine Below.drew ?_ | refine below_drewN ?_ _)); done)⟩
set_option maxHeartbeats 4000000 in
set_option maxRecDepth 100000 in
theorem rb2 {n : Nat} (w : World) (h0 : 128 ≤ n) (h1 : n < 2048) : Calls Tryd.prog 10 #[.int .i64 n] w (News (bytesOf n) w) := by
  have hby : bytesN n = [192 + n / 64, 128 + n % 64] := by unfold bytesN; rw [if_neg (by omega), if_pos h1]
  have hfl := flat_u (bytesN n) (bytesN_lt (by omega))
  have hlen := bytesOf_len n
  change (bytesOf n).flatMap encU = _ at hfl
  rw [hby] at hfl hlen
  have hfl' : (bytesOf n).flatMap encU = [.int .u8 (192 + (n : Int) / 64), .int .u8 (128 + (n : Int) % 64)] := hfl
  have HL := Lib.hid hlen
  obtain ⟨bs, hbs⟩ : ∃ bs, bs = bytesOf n := ⟨_, rfl⟩
  rw [← hbs] at hfl' HL ⊢
  have z0 : (0 : Int) ≤ n := by omega
  have z1 : (128 : Int) ≤ n := by omega
  have z2 : (n : Int) ≤ 2047 := by omega
  clear hby hfl hlen hbs h0 h1
  generalize (n : Int) = r at *
  have HF := Lib.hid hfl'
  clear hfl'
  go_enter Tryd.func10, Tryd.ntmps10
  go_wp2_with fail
  go_ret
  exact ⟨_, rfl, Rd.lit encU 1 bs (heap_alloc_new _ _) HF.out.symm encU_len 2 (by rw [HL.out]; rfl) (by simp [maxLen]), by ((repeat (first | exact Below.refl _ _ | assumption | refine Below.alloc ?_ (by first | omega | (simp; done) | (simp; omega)) _ | refine Below.setCell ?_ (by first | omega | (simp; done) | (simp; omega)) _ | refine Below.drew ?_ | refine below_drewN ?_ _)); done)⟩
set_option maxHeartbeats 4000000 in
set_option maxRecDepth 100000 in
theorem rb3 {n : Nat} (w : World) (h0 : 2048 ≤ n) (h1 : n < 65536) : Calls Tryd.prog 10 #[.int .i64 n] w (News (bytesOf n) w) := by
  have hby : bytesN n = [224 + n / 4096, 128 + n / 64 % 64, 128 + n % 64] := by unfold bytesN; rw [if_neg (by omega), if_neg (by omega), if_pos h1]
  have hfl := flat_u (bytesN n) (bytesN_lt (by omega))
  have hlen := bytesOf_len n
  change (bytesOf n).flatMap encU = _ at hfl
  rw [hby] at hfl hlen
  have hfl' : (bytesOf n).flatMap encU = [.int .u8 (224 + (n : Int) / 4096), .int .u8 (128 + (n : Int) / 64 % 64), .int .u8 (128 + (n : Int) % 64)] := hfl
  have HL := Lib.hid hlen
  obtain ⟨bs, hbs⟩ : ∃ bs, bs = bytesOf n := ⟨_, rfl⟩
  rw [← hbs] at hfl' HL ⊢
  have z0 : (0 : Int) ≤ n := by omega
  have z1 : (2048 : Int) ≤ n := by omega
  have z2 : (n : Int) ≤ 65535 := by omega
  clear hby hfl hlen hbs h0 h1
  generalize (n : Int) = r at *
  have HF := Lib.hid hfl'
  clear hfl'
  go_enter Tryd.func10, Tryd.ntmps10
  go_wp2_with fail
  go_ret
  exact ⟨_, rfl, Rd.lit encU 1 bs (heap_alloc_new _ _) HF.out.symm encU_len 3 (by rw [HL.out]; rfl) (by simp [maxLen]), by ((repeat (first | exact Below.refl _ _ | assumption | refine Below.alloc ?_ (by first | omega | (simp; done) | (simp; omega)) _ | refine Below.setCell ?_ (by first | omega | (simp; done) | (simp; omega)) _ | refine Below.drew ?_ | refine below_drewN ?_ _)); done)⟩
set_option maxHeartbeats 4000000 in
set_option maxRecDepth 100000 in
theorem rb4 {n : Nat} (w : World) (h0 : 65536 ≤ n) (h1 : n ≤ 1114111) : Calls Tryd.prog 10 #[.int .i64 n] w (News (bytesOf n) w) := by
  have hby : bytesN n = [240 + n / 262144, 128 + n / 4096 % 64, 128 + n / 64 % 64, 128 + n % 64] := by unfold bytesN; rw [if_neg (by omega), if_neg (by omega), if_neg (by omega)]
  have hfl := flat_u (bytesN n) (bytesN_lt (by omega))
  have hlen := bytesOf_len n
  change (bytesOf n).flatMap encU = _ at hfl
  rw [hby] at hfl hlen
  have hfl' : (bytesOf n).flatMap encU = [.int .u8 (240 + (n : Int) / 262144), .int .u8 (128 + (n : Int) / 4096 % 64), .int .u8 (128 + (n : Int) / 64 % 64), .int .u8 (128 + (n : Int) % 64)] := hfl
  have HL := Lib.hid hlen
  obtain ⟨bs, hbs⟩ : ∃ bs, bs = bytesOf n := ⟨_, rfl⟩
  rw [← hbs] at hfl' HL ⊢
  have z0 : (0 : Int) ≤ n := by omega
  have z1 : (65536 : Int) ≤ n := by omega
  have z2 : (n : Int) ≤ 1114111 := by omega
  clear hby hfl hlen hbs h0 h1
  generalize (n : Int) = r at *
  have HF := Lib.hid hfl'
  clear hfl'
  go_enter Tryd.func10, Tryd.ntmps10
  go_wp2_with fail
  go_ret
  exact ⟨_, rfl, Rd.lit encU 1 bs (heap_alloc_new _ _) HF.out.symm encU_len 4 (by rw [HL.out]; rfl) (by simp [maxLen]), by ((repeat (first | exact Below.refl _ _ | assumption | refine Below.alloc ?_ (by first | omega | (simp; done) | (simp; omega)) _ | refine Below.setCell ?_ (by first | omega | (simp; done) | (simp; omega)) _ | refine Below.drew ?_ | refine below_drewN ?_ _)); done)⟩

theorem refbytes_any {n : Nat} (w : World) (h : isB (n : Int) = true) : Calls Tryd.prog 10 #[.int .i64 n] w (News (bytesOf n) w) := by
  rw [isB_nat] at h
  by_cases h1 : n < 128
  · exact rb1 w h1
  by_cases h2 : n < 2048
  · exact rb2 w (by omega) h2
  by_cases h3 : n < 65536
  · exact rb3 w (by omega) h3
  · exact rb4 w (by omega) (by omega)
end Go.Proofs.YtgkmmlffnfpjaaaDoor
