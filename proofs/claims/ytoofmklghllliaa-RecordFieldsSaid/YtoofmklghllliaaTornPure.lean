/- Torn sectors, sectors with one changed byte, unlike records: plain. -/
import Derived.Test.YtoofmklghllliaaPure6
namespace Go.Proofs.Ytoofmklghllliaa
set_option linter.unusedSimpArgs false
set_option linter.unusedVariables false

theorem leB_inj {a b : Int} {k : Nat} (ha : 0 ≤ a ∧ a < 2 ^ (8 * k)) (hb : 0 ≤ b ∧ b < 2 ^ (8 * k)) (h : leB a k = leB b k) : a = b := by
  rw [← leN_leB a k ha.1 ha.2, ← leN_leB b k hb.1 hb.2, h]
theorem Rec.Fits.lsn8 {r : Rec} (h : r.Fits) : 0 ≤ r.lsn ∧ r.lsn < 2 ^ (8 * 8) := ⟨h.lsn.1, by have := h.lsn.2; omega⟩
theorem Rec.Fits.epoch4 {r : Rec} (h : r.Fits) : 0 ≤ r.epoch ∧ r.epoch < 2 ^ (8 * 4) := ⟨h.epoch.1, by have := h.epoch.2; omega⟩
/-- A sector: its body, its sum, its ends. -/
theorem sector_parts (r : Rec) : r.sector.data.toList = r.body.data.toList ++ (leB (crcOf r.body.data.toList) 4 ++ (leB r.lsn 8 ++ leB r.epoch 4)) := by
  unfold Rec.sector
  simp only [app_list, putB_list, List.append_assoc]
theorem body_len {r : Rec} (h : r.right = true) : r.body.data.toList.length = 112 := by rw [size_len, Rec.body_size h]
theorem sec_take112 {r : Rec} (h : r.right = true) : r.sector.data.toList.take 112 = r.body.data.toList := by rw [sector_parts, take_front _ _ _ (body_len h)]
theorem sec_drop112 {r : Rec} (h : r.right = true) : r.sector.data.toList.drop 112 = leB (crcOf r.body.data.toList) 4 ++ (leB r.lsn 8 ++ leB r.epoch 4) := by
  rw [sector_parts, show 112 = 112 + 0 from rfl, drop_front _ _ _ _ (body_len h), List.drop_zero]
theorem sec_drop116 {r : Rec} (h : r.right = true) : r.sector.data.toList.drop 116 = leB r.lsn 8 ++ leB r.epoch 4 := by
  rw [show 116 = 112 + 4 from rfl, ← List.drop_drop, sec_drop112 h, show 4 = 4 + 0 from rfl, drop_front _ _ _ _ (leB_len _ 4), List.drop_zero]
theorem sec_take12 (r : Rec) : r.sector.data.toList.take 12 = leB r.lsn 8 ++ leB r.epoch 4 := by
  rw [sector_list, ← List.append_assoc, take_front _ _ _ (by rw [List.length_append, leB_len, leB_len])]
theorem ends_inj {a b c d : Int} (ha : 0 ≤ a ∧ a < 2 ^ (8 * 8)) (hb : 0 ≤ b ∧ b < 2 ^ (8 * 4)) (hc : 0 ≤ c ∧ c < 2 ^ (8 * 8)) (hd : 0 ≤ d ∧ d < 2 ^ (8 * 4)) (h : leB a 8 ++ leB b 4 = leB c 8 ++ leB d 4) : a = c ∧ b = d := by
  obtain ⟨h1, h2⟩ := List.append_inj h (by rw [leB_len, leB_len])
  exact ⟨leB_inj ha hc h1, leB_inj hb hd h2⟩
theorem sector_len {r : Rec} (h : r.right = true) : r.sector.data.toList.length = 128 := by rw [size_len, Rec.sector_size h]
/-- A list of 128 bytes that has s's first k and t's others. -/
def mixL (s t : List UInt8) (k : Nat) : List UInt8 := s.take k ++ t.drop k
theorem mix_take {s t : List UInt8} (hs : s.length = 128) {k m : Nat} (hm : m ≤ k) (hk : k ≤ 128) : (mixL s t k).take m = s.take m := by
  unfold mixL
  rw [List.take_append, List.length_take, show m - min k s.length = 0 by omega, List.take_zero, List.append_nil, List.take_take, show min m k = m by omega]
theorem mix_drop {s t : List UInt8} (hs : s.length = 128) {k m : Nat} (hm : k ≤ m) (hk : k ≤ 128) : (mixL s t k).drop m = t.drop m := by
  unfold mixL
  rw [List.drop_append, List.length_take, List.drop_of_length_le (by rw [List.length_take]; omega), List.nil_append, List.drop_drop]
  congr 1; omega
theorem zero_ends {n : Int} {k : Nat} (h0 : 0 ≤ n ∧ n < 2 ^ (8 * k)) (h : leB n k = List.replicate k 0) : n = 0 := by
  have := leN_leB n k h0.1 h0.2
  rw [h, leN_zeros] at this
  omega
/-- What a torn sector's tail may be: the one of b's ends, or zeros. -/
structure TornTail (t : List UInt8) (a : Rec) : Prop where
  len : t.length = 128
  other : t.drop 116 ≠ leB a.lsn 8 ++ leB a.epoch 4
theorem torn_first {a : Rec} (ha : a.right = true) (haf : a.Fits) {t : List UInt8} (ht : TornTail t a) {k : Nat} (hk : k ≤ 128) {m : ByteArray} (hm : m.data.toList = mixL a.sector.data.toList t k) {r : Rec} (hd : decR m = some r) (hl : r.lsn = a.lsn) (he : r.epoch = a.epoch) : m = a.sector := by
  obtain ⟨_, hr, hrs, hrf⟩ := decR_some hd
  have hlen := sector_len ha
  have hd116 : m.data.toList.drop 116 = leB a.lsn 8 ++ leB a.epoch 4 := by rw [← hrs, sec_drop116 hr, hl, he]
  rcases Nat.lt_or_ge 116 k with hlt | hge
  · refine list_inj ?_
    rw [← List.take_append_drop 116 m.data.toList, hd116, hm, mix_take hlen (by omega) hk, ← sec_drop116 ha, List.take_append_drop]
  · exact absurd (by rw [← mix_drop (t := t) hlen hge hk, ← hm, hd116]) ht.other
theorem torn_second {a b : Rec} (ha : a.right = true) (haf : a.Fits) (hb : b.right = true) (hbf : b.Fits) (hne : ¬ (a.lsn = b.lsn ∧ a.epoch = b.epoch)) {k : Nat} (hk : k ≤ 128) {m : ByteArray} (hm : m.data.toList = mixL a.sector.data.toList b.sector.data.toList k) {r : Rec} (hd : decR m = some r) (hl : r.lsn = b.lsn) (he : r.epoch = b.epoch) : m = b.sector := by
  obtain ⟨_, hr, hrs, hrf⟩ := decR_some hd
  have hlen := sector_len ha
  have ht12 : m.data.toList.take 12 = leB b.lsn 8 ++ leB b.epoch 4 := by rw [← hrs, sec_take12, hl, he]
  rcases Nat.lt_or_ge k 12 with hlt | hge
  · refine list_inj ?_
    rw [← List.take_append_drop 12 m.data.toList, ht12, hm, mix_drop hlen (by omega) hk, ← sec_take12, List.take_append_drop]
  · rw [hm, mix_take hlen hge hk, sec_take12] at ht12
    exact absurd (ends_inj haf.lsn8 haf.epoch4 hbf.lsn8 hbf.epoch4 ht12) hne
theorem tornTail_sector {a b : Rec} (haf : a.Fits) (hb : b.right = true) (hbf : b.Fits) (hne : ¬ (a.lsn = b.lsn ∧ a.epoch = b.epoch)) : TornTail b.sector.data.toList a :=
  ⟨sector_len hb, fun h => by
    rw [sec_drop116 hb] at h
    have := ends_inj hbf.lsn8 hbf.epoch4 haf.lsn8 haf.epoch4 h
    exact hne ⟨this.1.symm, this.2.symm⟩⟩
theorem tornTail_zero {a : Rec} (ha : a.right = true) (haf : a.Fits) : TornTail (zeroB 128).data.toList a :=
  ⟨by rw [zeroB_list, List.length_replicate], fun h => by
    rw [zeroB_list, List.drop_replicate, show List.replicate (128 - 116) (0 : UInt8) = List.replicate 8 0 ++ List.replicate 4 0 from rfl] at h
    have h1 := (List.append_inj h (by rw [leB_len, List.length_replicate])).1
    exact (Rec.sizes ha).2.2.2 (zero_ends haf.lsn8 h1.symm)⟩
theorem torn_next {a : Rec} (ha : a.right = true) (haf : a.Fits) {t : List UInt8} (ht : TornTail t a) {k : Nat} (hk : k ≤ 128) {m : ByteArray} (hm : m.data.toList = mixL a.sector.data.toList t k) : nextR m a.lsn a.epoch = if m = a.sector then some a else none := by
  by_cases h : m = a.sector
  · rw [if_pos h, h]; unfold nextR; rw [decR_sector a ha haf]; simp
  · rw [if_neg h]
    unfold nextR
    cases hd : decR m with
    | none => rfl
    | some r =>
      show (if r.lsn = a.lsn ∧ r.epoch = a.epoch then some r else none) = none
      rw [if_neg (fun hh => h (torn_first ha haf ht hk hm hd hh.1 hh.2))]
theorem torn_other {a b : Rec} (ha : a.right = true) (haf : a.Fits) (hb : b.right = true) (hbf : b.Fits) (hne : ¬ (a.lsn = b.lsn ∧ a.epoch = b.epoch)) {k : Nat} (hk : k ≤ 128) {m : ByteArray} (hm : m.data.toList = mixL a.sector.data.toList b.sector.data.toList k) : nextR m b.lsn b.epoch = if m = b.sector then some b else none := by
  by_cases h : m = b.sector
  · rw [if_pos h, h]; unfold nextR; rw [decR_sector b hb hbf]; simp
  · rw [if_neg h]
    unfold nextR
    cases hd : decR m with
    | none => rfl
    | some r =>
      show (if r.lsn = b.lsn ∧ r.epoch = b.epoch then some r else none) = none
      rw [if_neg (fun hh => h (torn_second ha haf hb hbf hne hk hm hd hh.1 hh.2))]
theorem sector_inj {a b : Rec} (ha : a.right = true) (haf : a.Fits) (hb : b.right = true) (hbf : b.Fits) (h : a.sector = b.sector) : a = b := by
  have h1 := decR_sector a ha haf
  rw [h, decR_sector b hb hbf] at h1
  injection h1 with h1
  exact h1.symm

/-! One changed byte. -/
theorem or_top {y : Nat} (h : y < 2 ^ 31) : 2 ^ 31 ||| y = 2 ^ 31 ^^^ y := by
  apply Nat.eq_of_testBit_eq
  intro i
  rw [Nat.testBit_or, Nat.testBit_xor, Nat.testBit_two_pow]
  by_cases hi : 31 = i
  · subst hi
    rw [Nat.testBit_lt_two_pow h]; rfl
  · simp [hi]
theorem stepC_inj {a b : Nat} (ha : a < 4294967296) (hb : b < 4294967296) (h : stepC a = stepC b) : a = b := by
  have top : ∀ r : Nat, r < 4294967296 → r % 2 = 1 → 2147483648 ≤ (r / 2) ^^^ 3988292384 := by
    intro r hr _
    have hlt : r / 2 < 2147483648 := by omega
    have hx : ((r / 2) ^^^ 3988292384) = ((r / 2) ^^^ 1840808736) + 2147483648 := by
      have h1 : (r / 2) ^^^ 1840808736 < 2 ^ 31 := Nat.xor_lt_two_pow (by omega) (by omega)
      have h2 := Nat.two_pow_add_eq_or_of_lt h1 1
      have h3 : (2147483648 : Nat) ||| ((r / 2) ^^^ 1840808736) = 2147483648 ^^^ ((r / 2) ^^^ 1840808736) := or_top h1
      have h4 : (2147483648 : Nat) ^^^ ((r / 2) ^^^ 1840808736) = (r / 2) ^^^ 3988292384 := by
        rw [← Nat.xor_assoc, Nat.xor_comm 2147483648, Nat.xor_assoc]; rfl
      rw [← h4, ← h3]
      rw [show 2 ^ 31 * 1 = 2147483648 from rfl] at h2
      omega
    omega
  unfold stepC at h
  by_cases h1 : a % 2 = 1 <;> by_cases h2 : b % 2 = 1
  · rw [if_pos h1, if_pos h2] at h
    have : a / 2 = b / 2 := by
      have := congrArg (· ^^^ 3988292384) h
      simpa [Nat.xor_assoc] using this
    omega
  · rw [if_pos h1, if_neg h2] at h
    have := top a ha h1
    omega
  · rw [if_neg h1, if_pos h2] at h
    have := top b hb h2
    omega
  · rw [if_neg h1, if_neg h2] at h
    omega
theorem stepsC_inj : ∀ (k : Nat) {a b : Nat}, a < 4294967296 → b < 4294967296 → stepsC k a = stepsC k b → a = b
  | 0, _, _, _, _, h => h
  | k + 1, a, b, ha, hb, h => stepsC_inj k ha hb (stepC_inj (stepsC_lt k ha) (stepsC_lt k hb) h)
theorem xor_right_inj {a b c : Nat} (h : a ^^^ c = b ^^^ c) : a = b := by
  have := congrArg (· ^^^ c) h
  simpa [Nat.xor_assoc] using this
theorem nextC_inj {a b : Nat} (ha : a < 4294967296) (hb : b < 4294967296) {c d : UInt8} (h : nextC a c = nextC b d) : a ^^^ c.toNat = b ^^^ d.toNat := by
  rw [← one_next, ← one_next] at h
  have hc := c.toNat_lt
  have hd := d.toNat_lt
  exact stepsC_inj 8 (xor_lt32 ha (by omega)) (xor_lt32 hb (by omega)) h
theorem moreC_inj : ∀ (l : List UInt8) {a b : Nat}, a < 4294967296 → b < 4294967296 → moreC a l = moreC b l → a = b
  | [], _, _, _, _, h => h
  | c :: l, a, b, ha, hb, h => xor_right_inj (nextC_inj ha hb (moreC_inj l (nextC_lt ha c) (nextC_lt hb c) h))
theorem moreC_append (r : Nat) (l m : List UInt8) : moreC r (l ++ m) = moreC (moreC r l) m := by unfold moreC; rw [List.foldl_append]
theorem crc_one {p q : List UInt8} {c d : UInt8} (h : crcOf (p ++ c :: q) = crcOf (p ++ d :: q)) : c = d := by
  unfold crcOf at h
  have h := xor_right_inj h
  rw [moreC_append, moreC_append] at h
  have hp := moreC_lt p (r := 4294967295) (by omega)
  have h1 := moreC_inj q (nextC_lt hp c) (nextC_lt hp d) h
  have h2 := nextC_inj hp hp h1
  rw [Nat.xor_comm, Nat.xor_comm _ d.toNat] at h2
  exact UInt8.toNat_inj.1 (xor_right_inj h2)
/-- A sector with one changed byte is none. -/
theorem one_byte {a : Rec} (ha : a.right = true) (haf : a.Fits) {i : Nat} (hi : i < 128) {c : UInt8} (hc : a.sector.data.toList[i]? ≠ some c) {m : ByteArray} (hm : m.data.toList = a.sector.data.toList.set i c) : decR m = none := by
  cases hd : decR m with
  | none => rfl
  | some r =>
    exfalso
    obtain ⟨_, hr, hrs, hrf⟩ := decR_some hd
    have hlen := sector_len ha
    have hset : r.sector.data.toList = a.sector.data.toList.set i c := by rw [hrs, hm]
    have hat : r.sector.data.toList[i]? = some c := by rw [hset, List.getElem?_set_self (by omega)]
    rcases Nat.lt_or_ge i 112 with h1 | h1
    · -- in the body: the sums are unlike
      have htail : r.sector.data.toList.drop 112 = a.sector.data.toList.drop 112 := by rw [hset, List.drop_set_of_lt h1]
      rw [sec_drop112 hr, sec_drop112 ha] at htail
      have hsum := (List.append_inj htail (by rw [leB_len, leB_len])).1
      have hcr : crcOf r.body.data.toList = crcOf a.body.data.toList := by
        have h1 := crcOf_lt r.body.data.toList
        have h2 := crcOf_lt a.body.data.toList
        have := leB_inj (k := 4) ⟨by omega, by omega⟩ ⟨by omega, by omega⟩ hsum
        omega
      have hb : r.body.data.toList = a.body.data.toList.set i c := by
        rw [← sec_take112 hr, ← sec_take112 ha, hset, List.take_set]
      have hbl := body_len ha
      have hgi : i < a.body.data.toList.length := by omega
      have hsplit : a.body.data.toList = a.body.data.toList.take i ++ a.body.data.toList[i] :: a.body.data.toList.drop (i + 1) := by
        rw [← List.drop_eq_getElem_cons hgi, List.take_append_drop]
      rw [hb, List.set_eq_take_append_cons_drop, if_pos hgi] at hcr
      have hcr2 : crcOf (a.body.data.toList.take i ++ c :: a.body.data.toList.drop (i + 1)) = crcOf (a.body.data.toList.take i ++ a.body.data.toList[i] :: a.body.data.toList.drop (i + 1)) := by rw [hcr, ← hsplit]
      have he := crc_one hcr2
      apply hc
      have : a.sector.data.toList[i]? = a.body.data.toList[i]? := by
        rw [← sec_take112 ha, List.getElem?_take, if_pos h1]
      rw [this, List.getElem?_eq_getElem hgi, he]
    · have hhead : r.sector.data.toList.take 112 = a.sector.data.toList.take 112 := by
        rw [hset, List.take_set_of_le h1]
      have hbody : r.body.data.toList = a.body.data.toList := by rw [← sec_take112 hr, ← sec_take112 ha, hhead]
      have h12 : r.sector.data.toList.take 12 = a.sector.data.toList.take 12 := by
        have := congrArg (List.take 12) hhead
        simpa [List.take_take] using this
      rw [sec_take12, sec_take12] at h12
      obtain ⟨e1, e2⟩ := ends_inj hrf.lsn8 hrf.epoch4 haf.lsn8 haf.epoch4 h12
      have hall : r.sector.data.toList = a.sector.data.toList := by rw [sector_parts, sector_parts, hbody, e1, e2]
      exact hc (by rw [← hall, hat])
end Go.Proofs.Ytoofmklghllliaa
