/- A record's sector, field by field; plain. -/
import Derived.Test.YtoofmklghllliaaNext
namespace Go.Proofs.Ytoofmklghllliaa
set_option linter.unusedSimpArgs false
set_option linter.unusedVariables false

theorem mod_split (m k : Nat) : (m : Int) % (2 ^ (8 * k) * 2 ^ 8) = (m : Int) % 2 ^ (8 * k) + 2 ^ (8 * k) * ((m : Int) / 2 ^ (8 * k) % 256) := by
  have hb : ((2 : Int) ^ (8 * k)) = ((2 ^ (8 * k) : Nat) : Int) := by push_cast; rfl
  rw [hb]
  generalize 2 ^ (8 * k) = b
  have h : m % (b * 256) = m % b + b * (m / b % 256) := Nat.mod_mul
  show (m : Int) % ((b : Int) * ((256 : Nat) : Int)) = (m : Int) % (b : Int) + (b : Int) * ((m : Int) / (b : Int) % ((256 : Nat) : Int))
  rw [← Int.natCast_mul, ← Int.natCast_emod, h, ← Int.natCast_emod, ← Int.natCast_ediv, ← Int.natCast_emod, ← Int.natCast_mul, ← Int.natCast_add]
theorem leN_leB (n : Int) : ∀ (k : Nat), 0 ≤ n → n < 2 ^ (8 * k) → (leN (leB n k) : Int) = n := by
  have key : ∀ (k : Nat), 0 ≤ n → (leN (leB n k) : Int) = n % 2 ^ (8 * k) := by
    intro k h0
    induction k with
    | zero => simp [leB, leN]
    | succ k ih =>
      have e : leB n (k + 1) = leB n k ++ [UInt8.ofNat (nbyte n k).toNat] := by unfold leB; rw [List.range_succ, List.map_append]; rfl
      have hb := nbyte_in n k
      have hx : (UInt8.ofNat (nbyte n k).toNat).toNat = (nbyte n k).toNat := by rw [UInt8.toNat_ofNat']; omega
      rw [e, leN_append, leB_len]
      show ((leN (leB n k) + 2 ^ (8 * k) * ((UInt8.ofNat (nbyte n k).toNat).toNat + 256 * 0) : Nat) : Int) = _
      rw [hx]
      push_cast
      rw [ih, Int.toNat_of_nonneg hb.1]
      have h1 : n % 2 ^ (8 * (k + 1)) = n % 2 ^ (8 * k) + 2 ^ (8 * k) * (n / 2 ^ (8 * k) % 256) := by
        rw [show 8 * (k + 1) = 8 * k + 8 by omega, Int.pow_add]
        obtain ⟨m, rfl⟩ := Int.eq_ofNat_of_zero_le h0
        exact mod_split m k
      rw [h1]; unfold nbyte; simp
  intro k h0 h
  rw [key k h0, Int.emod_eq_of_lt h0 h]
theorem putB_list (n : Int) (k : Nat) : (putB n k).data.toList = leB n k := by unfold putB; simp
theorem zeroB_list (k : Nat) : (zeroB k).data.toList = List.replicate k 0 := by unfold zeroB; simp
def kindB (r : Rec) : List UInt8 := [UInt8.ofNat r.kind.toNat, UInt8.ofNat r.id.size, UInt8.ofNat r.val.size]
theorem app_list (a b : ByteArray) : (a ++ b).data.toList = a.data.toList ++ b.data.toList := by rw [ByteArray.data_append, Array.toList_append]
/-- What stands behind the texts. -/
def Rec.tail (r : Rec) : List UInt8 := List.replicate (112 - r.head.size) 0 ++ (leB (crcOf r.body.data.toList) 4 ++ (leB r.lsn 8 ++ leB r.epoch 4))
theorem sector_list (r : Rec) : r.sector.data.toList = leB r.lsn 8 ++ (leB r.epoch 4 ++ (kindB r ++ (leB r.ver 8 ++ (leB r.dl 8 ++ (r.id.data.toList ++ (r.val.data.toList ++ r.tail)))))) := by
  unfold Rec.sector Rec.tail
  simp only [app_list, putB_list]
  rw [show r.body.data.toList = r.head.data.toList ++ List.replicate (112 - r.head.size) 0 by unfold Rec.body; rw [app_list, zeroB_list]]
  rw [show r.head.data.toList = leB r.lsn 8 ++ leB r.epoch 4 ++ kindB r ++ leB r.ver 8 ++ leB r.dl 8 ++ r.id.data.toList ++ r.val.data.toList by
    unfold Rec.head; simp only [app_list, putB_list]; rfl]
  simp only [List.append_assoc]
theorem drop_front {α : Type} (a b : List α) (n m : Nat) (h : a.length = n) : (a ++ b).drop (n + m) = b.drop m := by
  rw [List.drop_append, List.drop_of_length_le (by omega), List.nil_append]; congr 1; omega
theorem take_front {α : Type} (a b : List α) (n : Nat) (h : a.length = n) : (a ++ b).take n = a := by
  rw [List.take_append, List.take_of_length_le (by omega), show n - a.length = 0 by omega]; simp
theorem size_len (s : ByteArray) : s.data.toList.length = s.size := by rw [Array.length_toList]; rfl
theorem kindB_len (r : Rec) : (kindB r).length = 3 := rfl
section
variable (r : Rec)
theorem sec_drop12 : r.sector.data.toList.drop 12 = kindB r ++ (leB r.ver 8 ++ (leB r.dl 8 ++ (r.id.data.toList ++ (r.val.data.toList ++ r.tail)))) := by
  rw [sector_list, show 12 = 8 + (4 + 0) from rfl, drop_front _ _ _ _ (leB_len _ 8), drop_front _ _ _ _ (leB_len _ 4), List.drop_zero]
theorem sec_drop15 : r.sector.data.toList.drop 15 = leB r.ver 8 ++ (leB r.dl 8 ++ (r.id.data.toList ++ (r.val.data.toList ++ r.tail))) := by
  rw [show r.sector.data.toList.drop 15 = (r.sector.data.toList.drop 12).drop 3 by rw [List.drop_drop], sec_drop12, show 3 = 3 + 0 from rfl, drop_front _ _ _ _ (kindB_len r), List.drop_zero]
theorem sec_drop31 : r.sector.data.toList.drop 31 = r.id.data.toList ++ (r.val.data.toList ++ r.tail) := by
  rw [show r.sector.data.toList.drop 31 = (r.sector.data.toList.drop 15).drop 16 by rw [List.drop_drop], sec_drop15, show 16 = 8 + (8 + 0) from rfl, drop_front _ _ _ _ (leB_len _ 8), drop_front _ _ _ _ (leB_len _ 8), List.drop_zero]
theorem fld_of {s : ByteArray} {p m : Nat} {l : List UInt8} (h : (s.data.toList.drop p).take m = l) : fld s p m = leN l := by unfold fld; rw [h]
theorem byteN {n : Nat} (h : n < 256) : leN [UInt8.ofNat n] = n := by
  show (UInt8.ofNat n).toNat + 256 * 0 = n
  rw [UInt8.toNat_ofNat', Nat.mod_eq_of_lt (by omega)]; omega
theorem sec_lsn (hf : r.Fits) : (fld r.sector 0 8 : Int) = r.lsn := by
  rw [fld_of (l := leB r.lsn 8) (by rw [List.drop_zero, sector_list, take_front _ _ _ (leB_len _ 8)])]
  exact leN_leB _ 8 hf.lsn.1 (by have := hf.lsn.2; omega)
theorem sec_epoch (hf : r.Fits) : (fld r.sector 8 4 : Int) = r.epoch := by
  rw [fld_of (l := leB r.epoch 4) (by rw [sector_list, show 8 = 8 + 0 from rfl, drop_front _ _ _ _ (leB_len _ 8), List.drop_zero, take_front _ _ _ (leB_len _ 4)])]
  exact leN_leB _ 4 hf.epoch.1 (by have := hf.epoch.2; omega)
theorem sec_kind (hr : r.right = true) : (fld r.sector 12 1 : Int) = r.kind := by
  obtain ⟨_, _, hk, _⟩ := Rec.sizes hr
  rw [fld_of (l := [UInt8.ofNat r.kind.toNat]) (by rw [sec_drop12]; rfl), byteN (by omega)]; exact Int.toNat_of_nonneg (by omega)
theorem sec_idn (hr : r.right = true) : fld r.sector 13 1 = r.id.size := by
  obtain ⟨hi, _, _, _⟩ := Rec.sizes hr
  rw [fld_of (l := [UInt8.ofNat r.id.size]) (by rw [show 13 = 12 + 1 from rfl, ← List.drop_drop, sec_drop12]; rfl), byteN (by omega)]
theorem sec_valn (hr : r.right = true) : fld r.sector 14 1 = r.val.size := by
  obtain ⟨_, hi, _, _⟩ := Rec.sizes hr
  rw [fld_of (l := [UInt8.ofNat r.val.size]) (by rw [show 14 = 12 + 2 from rfl, ← List.drop_drop, sec_drop12]; rfl), byteN (by omega)]
theorem sec_ver (hf : r.Fits) : (fld r.sector 15 8 : Int) = r.ver := by
  rw [fld_of (l := leB r.ver 8) (by rw [sec_drop15, take_front _ _ _ (leB_len _ 8)])]
  exact leN_leB _ 8 hf.ver.1 (by have := hf.ver.2; omega)
theorem sec_dl (hf : r.Fits) : (fld r.sector 23 8 : Int) = r.dl := by
  rw [fld_of (l := leB r.dl 8) (by rw [show 23 = 15 + 8 from rfl, ← List.drop_drop, sec_drop15, List.drop_append, leB_len, List.drop_of_length_le (by rw [leB_len]; omega)]; exact take_front _ _ _ (leB_len _ 8))]
  exact leN_leB _ 8 hf.dl.1 (by have := hf.dl.2; omega)
theorem list_inj {a b : ByteArray} (h : a.data.toList = b.data.toList) : a = b := ByteArray.ext (Array.ext' h)
theorem extract_list (s : ByteArray) (p q : Nat) : (s.extract p q).data.toList = (s.data.toList.drop p).take (q - p) := by
  rw [ByteArray.data_extract, Array.toList_extract]
theorem sec_id : r.sector.extract 31 (31 + r.id.size) = r.id := by
  refine list_inj ?_
  rw [extract_list, sec_drop31, show 31 + r.id.size - 31 = r.id.size by omega, take_front _ _ _ (size_len _)]
theorem sec_val : r.sector.extract (31 + r.id.size) (31 + r.id.size + r.val.size) = r.val := by
  refine list_inj ?_
  rw [extract_list, ← List.drop_drop, sec_drop31, show 31 + r.id.size + r.val.size - (31 + r.id.size) = r.val.size by omega, ← Nat.add_zero r.id.size, drop_front _ _ _ _ (size_len _), List.drop_zero, take_front _ _ _ (size_len _)]
theorem cand_sector (hr : r.right = true) (hf : r.Fits) : cand r.sector = r := by
  obtain ⟨h1, h2, _, _⟩ := Rec.sizes hr
  have e1 : min (fld r.sector 13 1) 97 = r.id.size := by rw [sec_idn r hr]; omega
  have e2 : min (fld r.sector 14 1) (97 - r.id.size) = r.val.size := by rw [sec_valn r hr]; omega
  unfold cand
  simp only [e1, e2]
  rw [sec_lsn r hf, sec_epoch r hf, sec_kind r hr, sec_ver r hf, sec_dl r hf, sec_id, sec_val]
theorem decR_sector (hr : r.right = true) (hf : r.Fits) : decR r.sector = some r := by
  unfold decR
  rw [cand_sector r hr hf, if_pos ⟨Rec.sector_size hr, hr, rfl⟩]
end
theorem decR_lens {s : ByteArray} {r : Rec} (h : decR s = some r) : fld s 13 1 = r.id.size ∧ fld s 14 1 = r.val.size ∧ r.id.size ≤ 16 ∧ r.val.size ≤ 64 := by
  obtain ⟨_, hr, hs, hf⟩ := decR_some h
  subst hs
  obtain ⟨h1, h2, _, _⟩ := Rec.sizes hr
  exact ⟨sec_idn r hr, sec_valn r hr, h1, h2⟩
theorem decR_big {s : ByteArray} (h : 112 < 31 + fld s 13 1 + fld s 14 1) : decR s = none := by
  cases hd : decR s with
  | none => rfl
  | some r => obtain ⟨h1, h2, h3, h4⟩ := decR_lens hd; omega
end Go.Proofs.Ytoofmklghllliaa
