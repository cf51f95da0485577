/- check.ID and check.Value, and the document's. -/
import Derived.Test.YtoofmklghllliaaBase
import Derived.Test.YtoofmklghllliaaProg
import Derived.WalkKit
import Derived.Lib.Hide
namespace Go.Proofs.Ytoofmklghllliaa
open Go.RowKit
attribute [local go_sem high] run_mx run_mn

/-- May a byte stand in an id? -/
def okByte (c : UInt8) : Bool := decide (97 ≤ c.toNat ∧ c.toNat ≤ 122) || decide (48 ≤ c.toNat ∧ c.toNat ≤ 57) || decide (c.toNat = 45)
def okID (l : List UInt8) : Bool := l.all okByte && decide (1 ≤ l.length ∧ l.length ≤ 16)
def okValue (l : List UInt8) : Bool := decide (l.length ≤ 64)
theorem okByte_iff (c : UInt8) : okByte c = true ↔ (97 ≤ c.toNat ∧ c.toNat ≤ 122) ∨ (48 ≤ c.toNat ∧ c.toNat ≤ 57) ∨ c.toNat = 45 := by unfold okByte; simp [or_assoc]

theorem Value_any (s : ByteArray) (w : World) : Calls Try.prog 31 #[.string s] w fun e w' => e = .returned (.bool (okValue s.data.toList)) ∧ w = w' := by
  have hl : s.data.toList.length = s.size := by rw [Array.length_toList]; rfl
  have e : okValue s.data.toList = decide ((s.size : Int) ≤ 64) := by unfold okValue; rw [hl]; simp; omega
  rw [e]
  go_enter Try.func31, Try.ntmps31
  go_wp2_with fail
  go_ret
  exact ⟨rfl, rfl⟩
theorem RValue_any (s : ByteArray) (w : World) : Calls Try.prog 33 #[.string s] w fun e w' => e = .returned (.bool (okValue s.data.toList)) ∧ w = w' := by
  have hl : s.data.toList.length = s.size := by rw [Array.length_toList]; rfl
  have e : okValue s.data.toList = decide ((s.size : Int) ≤ 64) := by unfold okValue; rw [hl]; simp; omega
  rw [e]
  go_enter Try.func33, Try.ntmps33
  go_wp2_with fail
  go_ret
  exact ⟨rfl, rfl⟩

set_option maxRecDepth 100000 in
set_option maxHeartbeats 4000000 in
theorem ID_any (s : ByteArray) (hs : s.size ≤ 9223372036854775807) (w : World) : Calls Try.prog 30 #[.string s] w fun e w' => e = .returned (.bool (okID s.data.toList)) ∧ w = w' := by
  have hl : s.data.toList.length = s.size := by rw [Array.length_toList]; rfl
  go_enter Try.func30, Try.ntmps30
  go_wp2_with fail
  go_loop [7] (fun i => ∃ j : Nat, j ≤ s.size ∧ i = .int .i64 j ∧ (s.data.toList.take j).all okByte = true) (fun i => s.size - (intOf i).toNat)
  case atStart => exact ⟨0, by omega, rfl, rfl⟩
  case round =>
    obtain ⟨j, hj, rfl, hall⟩ := hrel
    by_cases hlt : j < s.size
    · have hlt' : (j : Int) < (s.size : Int) := by omega
      have hsj : s[j] = s.data.toList[j]'(by omega) := rfl
      have htk : s.data.toList.take (j + 1) = s.data.toList.take j ++ [s.data.toList[j]'(by omega)] := List.take_succ_eq_append_getElem (by omega)
      have hmem : s.data.toList[j]'(by omega) ∈ s.data.toList := List.getElem_mem _
      have hx := (s.data.toList[j]'(by omega)).toNat_lt
      generalize s.data.toList[j]'(by omega) = x at *
      by_cases hok : okByte x = true
      · have hall2 : (s.data.toList.take (j + 1)).all okByte = true := by rw [htk, List.all_append, hall]; simp [hok]
        have HA := Lib.hid hall2
        have hcs := (okByte_iff x).1 hok
        clear hall hall2 htk hok hmem
        rcases hcs with ⟨h1, h2⟩ | ⟨h1, h2⟩ | h1
        all_goals
          go_wp2_with fail
          go_round
          case rel => exact ⟨j + 1, by omega, by go_num, HA.out⟩
          case measure => simp [intOf]; omega
      · have hf : okID s.data.toList = false := by
          unfold okID
          have : s.data.toList.all okByte = false := by
            rw [List.all_eq_false]; exact ⟨x, hmem, by simpa using hok⟩
          rw [this]; rfl
        have hcs : x.toNat < 45 ∨ (45 < x.toNat ∧ x.toNat < 48) ∨ (57 < x.toNat ∧ x.toNat < 97) ∨ 122 < x.toNat := by
          have := mt (okByte_iff x).2 hok
          omega
        have HF := Lib.hid hf
        clear hall htk hok hmem hf
        have hne : ((x.toNat : Int) != 45) = true := by simp; omega
        have hne' : ((x.toNat : Int) == 45) = false := by simp; omega
        rcases hcs with h1 | ⟨h1, h2⟩ | ⟨h1, h2⟩ | h1
        · have i1 : (x.toNat : Int) < 48 := by omega
          have i2 : (x.toNat : Int) < 97 := by omega
          go_wp2_with fail
          go_ret
          exact ⟨by rw [HF.out]; rfl, rfl⟩
        · have i1 : (x.toNat : Int) < 48 := by omega
          have i2 : (x.toNat : Int) < 97 := by omega
          go_wp2_with fail
          go_ret
          exact ⟨by rw [HF.out]; rfl, rfl⟩
        · have i1 : (57 : Int) < x.toNat := by omega
          have i2 : (x.toNat : Int) < 97 := by omega
          have i3 : (x.toNat : Int) < 48 ∨ (57 : Int) < x.toNat := .inr i1
          have i4 : decide ((57 : Int) < x.toNat) = true := decide_eq_true i1
          go_wp2_with fail
          all_goals first
            | (go_ret; exact ⟨by rw [HF.out]; rfl, rfl⟩)
            | (exfalso; simp_all; omega)
        · have i1 : (122 : Int) < x.toNat := by omega
          have i4 : (57 : Int) < x.toNat := by omega
          go_wp2_with fail
          all_goals first
            | (go_ret; exact ⟨by rw [HF.out]; rfl, rfl⟩)
            | (exfalso; simp_all; omega)
    · obtain rfl : j = s.size := by omega
      have hall2 : s.data.toList.all okByte = true := by rwa [List.take_of_length_le (by omega)] at hall
      have e : okID s.data.toList = decide (1 ≤ s.size ∧ s.size ≤ 16) := by unfold okID; rw [hall2, hl]; rfl
      have HE := Lib.hid e
      clear e hall hall2
      by_cases h0 : s.size = 0
      · obtain rfl : s = ⟨#[]⟩ := ByteArray.ext (Array.eq_empty_of_size_eq_zero h0)
        go_wp2_with fail
        go_ret
        exact ⟨by rw [HE.out]; rfl, rfl⟩
      · have h0' : 1 ≤ (s.size : Int) := by omega
        have hnil : ¬ s.toList = [] := by rw [ByteArray.toList_eq]; intro e; rw [e] at hl; simp at hl; omega
        have hemp : s.toList.isEmpty = false := by cases h : s.toList with | nil => exact absurd h hnil | cons a l => rfl
        by_cases h16 : (s.size : Int) ≤ 16
        · have hd : decide (1 ≤ s.size ∧ s.size ≤ 16) = true := decide_eq_true (by omega)
          go_wp2_with fail
          go_ret
          exact ⟨by rw [HE.out, hd]; rfl, rfl⟩
        · have hd : decide (1 ≤ s.size ∧ s.size ≤ 16) = false := decide_eq_false (by omega)
          go_wp2_with fail
          go_ret
          exact ⟨by rw [HE.out, hd]; rfl, rfl⟩

set_option maxRecDepth 100000 in
set_option maxHeartbeats 4000000 in
theorem RID_any (s : ByteArray) (hs : s.size ≤ 9223372036854775807) (w : World) : Calls Try.prog 32 #[.string s] w fun e w' => e = .returned (.bool (okID s.data.toList)) ∧ w = w' := by
  have hl : s.data.toList.length = s.size := by rw [Array.length_toList]; rfl
  go_enter Try.func32, Try.ntmps32
  go_wp2_with fail
  go_loop [3] (fun i => ∃ j : Nat, j ≤ s.size ∧ i = .int .i64 j ∧ (s.data.toList.take j).all okByte = true) (fun i => s.size - (intOf i).toNat)
  case atStart => exact ⟨0, by omega, rfl, rfl⟩
  case round =>
    obtain ⟨j, hj, rfl, hall⟩ := hrel
    by_cases hlt : j < s.size
    · have hlt' : (j : Int) < (s.size : Int) := by omega
      have hsj : s[j] = s.data.toList[j]'(by omega) := rfl
      have htk : s.data.toList.take (j + 1) = s.data.toList.take j ++ [s.data.toList[j]'(by omega)] := List.take_succ_eq_append_getElem (by omega)
      have hmem : s.data.toList[j]'(by omega) ∈ s.data.toList := List.getElem_mem _
      have hx := (s.data.toList[j]'(by omega)).toNat_lt
      generalize s.data.toList[j]'(by omega) = x at *
      by_cases hok : okByte x = true
      · have hall2 : (s.data.toList.take (j + 1)).all okByte = true := by rw [htk, List.all_append, hall]; simp [hok]
        have HA := Lib.hid hall2
        have hcs := (okByte_iff x).1 hok
        clear hall hall2 htk hok hmem
        rcases hcs with ⟨h1, h2⟩ | ⟨h1, h2⟩ | h1
        all_goals
          go_wp2_with fail
          go_round
          case rel => exact ⟨j + 1, by omega, by go_num, HA.out⟩
          case measure => simp [intOf]; omega
      · have hf : okID s.data.toList = false := by
          unfold okID
          have : s.data.toList.all okByte = false := by
            rw [List.all_eq_false]; exact ⟨x, hmem, by simpa using hok⟩
          rw [this]; rfl
        have hcs : x.toNat < 45 ∨ (45 < x.toNat ∧ x.toNat < 48) ∨ (57 < x.toNat ∧ x.toNat < 97) ∨ 122 < x.toNat := by
          have := mt (okByte_iff x).2 hok
          omega
        have HF := Lib.hid hf
        clear hall htk hok hmem hf
        have hne : ((x.toNat : Int) != 45) = true := by simp; omega
        have hne' : ((x.toNat : Int) == 45) = false := by simp; omega
        rcases hcs with h1 | ⟨h1, h2⟩ | ⟨h1, h2⟩ | h1
        · have i1 : (x.toNat : Int) < 48 := by omega
          have i2 : (x.toNat : Int) < 97 := by omega
          go_wp2_with fail
          go_ret
          exact ⟨by rw [HF.out]; rfl, rfl⟩
        · have i1 : (x.toNat : Int) < 48 := by omega
          have i2 : (x.toNat : Int) < 97 := by omega
          go_wp2_with fail
          go_ret
          exact ⟨by rw [HF.out]; rfl, rfl⟩
        · have i1 : (57 : Int) < x.toNat := by omega
          have i2 : (x.toNat : Int) < 97 := by omega
          have i3 : (x.toNat : Int) < 48 ∨ (57 : Int) < x.toNat := .inr i1
          have i4 : decide ((57 : Int) < x.toNat) = true := decide_eq_true i1
          go_wp2_with fail
          all_goals first
            | (go_ret; exact ⟨by rw [HF.out]; rfl, rfl⟩)
            | (exfalso; simp_all; omega)
        · have i1 : (122 : Int) < x.toNat := by omega
          have i4 : (57 : Int) < x.toNat := by omega
          go_wp2_with fail
          all_goals first
            | (go_ret; exact ⟨by rw [HF.out]; rfl, rfl⟩)
            | (exfalso; simp_all; omega)
    · obtain rfl : j = s.size := by omega
      have hall2 : s.data.toList.all okByte = true := by rwa [List.take_of_length_le (by omega)] at hall
      have e : okID s.data.toList = decide (1 ≤ s.size ∧ s.size ≤ 16) := by unfold okID; rw [hall2, hl]; rfl
      have HE := Lib.hid e
      clear e hall hall2
      by_cases h0 : ¬ 1 ≤ (s.size : Int)
      · have h0' : ¬ 1 ≤ s.size := by omega
        go_wp2_with fail
        go_ret
        exact ⟨by rw [HE.out]; simp; omega, rfl⟩
      · have h0' : 1 ≤ (s.size : Int) := by omega
        by_cases h16 : (s.size : Int) ≤ 16
        · have hd : decide (1 ≤ s.size ∧ s.size ≤ 16) = true := decide_eq_true (by omega)
          go_wp2_with fail
          go_ret
          exact ⟨by rw [HE.out, hd]; rfl, rfl⟩
        · have hd : decide (1 ≤ s.size ∧ s.size ≤ 16) = false := decide_eq_false (by omega)
          go_wp2_with fail
          go_ret
          exact ⟨by rw [HE.out, hd]; rfl, rfl⟩
end Go.Proofs.Ytoofmklghllliaa
