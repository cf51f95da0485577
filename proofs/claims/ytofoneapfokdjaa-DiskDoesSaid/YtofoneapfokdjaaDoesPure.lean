/- The model's disk goes as the reference's does: plain laws. -/
import Derived.Test.YtofoneapfokdjaaDiskPure
import Derived.Test.YtofoneapfokdjaaRefDisk3
namespace Go.Proofs.Ytofoneapfokdjaa
set_option linter.unusedSimpArgs false
set_option linter.unusedVariables false
open Go.RowKit

/-- The disk and the reference's say the same. -/
structure Rel (d : Dsk) (r : RDsk) : Prop where
  n : d.n = r.L.length
  pend : d.pend = r.pend
  lim : (d.lim = false ∧ r.left = -1) ∨ (d.lim = true ∧ r.left = max 0 d.left)
  lo : -9223372036854775808 ≤ d.left
  hi : d.left ≤ 9223372036854775807
  held : ∀ q : Nat, q < r.L.length → r.L[q]? = some (d.holds q)
  good : d.Good
  ins : r.Ins
  pos : 0 < r.L.length
  len : r.L.length ≤ 4096
theorem Rel.fits {d : Dsk} {r : RDsk} (h : Rel d r) (hp : d.pend.length ≤ 1000000000) : r.Fits :=
  ⟨h.pos, by have := h.lim; have := h.lo; omega, by have := h.lim; have := h.hi; omega, h.len, by rw [← h.pend]; exact hp⟩
theorem Rel.rgood {d : Dsk} {r : RDsk} (h : Rel d r) : r.Good :=
  ⟨fun p hp => h.good.1 p (by rw [h.pend]; exact hp), fun s hs => by
    obtain ⟨q, hq, rfl⟩ := List.getElem_of_mem hs
    have := h.held q hq
    rw [List.getElem?_eq_getElem hq] at this
    rw [Option.some.inj this]
    exact h.good.holds _⟩
theorem Rel.dead {d : Dsk} {r : RDsk} (h : Rel d r) : d.dead = decide (r.left = 0) := by
  unfold Dsk.dead
  rcases h.lim with ⟨a, b⟩ | ⟨a, b⟩
  · rw [a, b]; rfl
  · rw [a, b, Bool.true_and]
    congr 1
    apply propext
    omega
theorem Rel.use {d : Dsk} {r : RDsk} (h : Rel d r) (hl : r.left ≠ 0) : ((d.use.lim = false ∧ r.use.left = -1) ∨ (d.use.lim = true ∧ r.use.left = max 0 d.use.left)) ∧ -9223372036854775808 ≤ d.use.left ∧ d.use.left ≤ 9223372036854775807 := by
  have hw : -9223372036854775808 ≤ wrap64 (d.left - 1) ∧ wrap64 (d.left - 1) ≤ 9223372036854775807 := by unfold wrap64; omega
  refine ⟨?_, hw⟩
  show (d.lim = false ∧ (if 0 < r.left then r.left - 1 else r.left) = -1) ∨ (d.lim = true ∧ (if 0 < r.left then r.left - 1 else r.left) = max 0 (wrap64 (d.left - 1)))
  have h1 := h.lo
  have h2 := h.hi
  rcases h.lim with ⟨a, b⟩ | ⟨a, b⟩
  · exact .inl ⟨a, by rw [if_neg (by omega)]; exact b⟩
  · refine .inr ⟨a, ?_⟩
    have : wrap64 (d.left - 1) = d.left - 1 := by unfold wrap64; omega
    rw [this, if_pos (by omega)]
    omega
theorem Rel.write {d : Dsk} {r : RDsk} (h : Rel d r) (i : Int) (s : ByteArray) : d.writeE i s = r.writeE i s ∧ Rel (d.writeS i s) (r.writeS i s) := by
  have he : d.writeE i s = r.writeE i s := by
    unfold Dsk.writeE RDsk.writeE
    rw [h.n, h.dead]
    by_cases hl : r.left = 0 <;> simp [hl]
  refine ⟨he, ?_⟩
  unfold Dsk.writeS RDsk.writeS
  rw [← he]
  by_cases hz : d.writeE i s = 0
  · rw [if_pos hz, if_pos hz]
    have hz' := hz
    rw [he] at hz'
    unfold RDsk.writeE at hz'
    have hi : 0 ≤ i ∧ i < r.L.length := by
      by_cases hi : 0 ≤ i ∧ i < r.L.length
      · exact hi
      · rw [if_neg hi] at hz'; omega
    rw [if_pos hi] at hz'
    have hs : s.size = 128 := by
      by_cases hs : s.size = 128
      · exact hs
      · rw [if_neg hs] at hz'; omega
    rw [if_pos hs] at hz'
    have hl : r.left ≠ 0 := by
      intro hl
      rw [if_pos hl] at hz'; omega
    obtain ⟨u1, u2, u3⟩ := h.use hl
    refine ⟨h.n, ?_, u1, u2, u3, h.held, Dsk.Good.write h.good hs, ?_, h.pos, h.len⟩
    · show d.pend ++ [(i, s)] = r.pend ++ [(i, s)]
      rw [h.pend]
    · intro p hp
      rcases List.mem_append.1 hp with hp | hp
      · exact h.ins p hp
      · simp at hp; subst hp; exact hi
  · rw [if_neg hz, if_neg hz]; exact h
theorem holds_same {d : Dsk} {L : List ByteArray} (h : ∀ q : Nat, q < L.length → L[q]? = some (d.holds q)) {p : Int × ByteArray} (hp : 0 ≤ p.1 ∧ p.1 < L.length) : ∀ q : Nat, q < (L.set p.1.toNat p.2).length → (L.set p.1.toNat p.2)[q]? = some ((d.do_ p).holds q) := by
  intro q hq
  rw [List.length_set] at hq
  rw [List.getElem?_set, holds_do]
  by_cases e : p.1 = (q : Int)
  · rw [if_pos (by omega), if_pos (by omega), if_pos e]
  · rw [if_neg (by omega), if_neg e]
    exact h q hq
theorem doAll_same (l : List (Int × ByteArray)) : ∀ (d : Dsk) (L : List ByteArray), (∀ q : Nat, q < L.length → L[q]? = some (d.holds q)) → (∀ p ∈ l, 0 ≤ p.1 ∧ p.1 < L.length) → ∀ q : Nat, q < L.length → (putAll L l)[q]? = some ((d.doAll l).holds q) := by
  induction l with
  | nil => intro d L h _ q hq; exact h q hq
  | cons p l ih =>
    intro d L h hp q hq
    exact ih (d.do_ p) (L.set p.1.toNat p.2) (holds_same h (hp p (by simp))) (fun x hx => by rw [List.length_set]; exact hp x (by simp [hx])) q (by rw [List.length_set]; exact hq)
theorem Good_doAll (l : List (Int × ByteArray)) : ∀ d : Dsk, d.Good → (∀ p ∈ l, p.2.size = 128) → (d.doAll l).Good := by
  induction l with
  | nil => intro d h _; exact h
  | cons p l ih => intro d h hp; exact ih (d.do_ p) (Dsk.Good.do_ h (hp p (by simp))) (fun x hx => hp x (by simp [hx]))
theorem Rel.flush {d : Dsk} {r : RDsk} (h : Rel d r) : d.flushE = r.flushE ∧ Rel d.flushS r.flushS := by
  unfold Dsk.flushE RDsk.flushE Dsk.flushS RDsk.flushS
  rw [h.dead]
  by_cases hl : r.left = 0
  · simp only [hl, decide_true, if_true]; exact ⟨trivial, h⟩
  · simp only [hl, decide_false, Bool.false_eq_true, if_false]
    refine ⟨trivial, ?_⟩
    obtain ⟨u1, u2, u3⟩ := h.use hl
    obtain ⟨k1, k2, k3, k4⟩ := Dsk.doAll_pend d.pend d.use
    have hG := Good_doAll d.pend d.use (Dsk.Good.use h.good) h.good.1
    have hlen : r.flush.L.length = r.L.length := putAll_len _ _
    refine ⟨?_, rfl, ?_, ?_, ?_, fun q hq => ?_, ⟨by simp [Dsk.flush], hG.2⟩, by intro p hp; simp [RDsk.flush] at hp, by rw [hlen]; exact h.pos, by rw [hlen]; exact h.len⟩
    · rw [hlen]; exact k2.trans h.n
    · show ((Dsk.doAll d.use d.pend).lim = false ∧ r.use.left = -1) ∨ ((Dsk.doAll d.use d.pend).lim = true ∧ r.use.left = max 0 (Dsk.doAll d.use d.pend).left)
      rw [k3, k4]; exact u1
    · show -9223372036854775808 ≤ (Dsk.doAll d.use d.pend).left
      rw [k4]; exact u2
    · show (Dsk.doAll d.use d.pend).left ≤ 9223372036854775807
      rw [k4]; exact u3
    · rw [hlen] at hq
      show (putAll r.L r.pend)[q]? = some ((d.use.doAll d.pend).holds q)
      rw [← h.pend]
      exact doAll_same d.pend d.use r.L h.held (fun p hp => h.ins p (by rw [← h.pend]; exact hp)) q hq
theorem Rel.limit {d : Dsk} {r : RDsk} (h : Rel d r) (n : Int) (h1 : -9223372036854775808 ≤ n) (h2 : n ≤ 9223372036854775807) : Rel (d.limit n) (r.limit n) :=
  ⟨h.n, h.pend, .inr ⟨rfl, rfl⟩, h1, h2, h.held, h.good, h.ins, h.pos, h.len⟩
theorem crash_same {d : Dsk} {L : List ByteArray} (keep : List Bool) (torn at_ : Int) (l : List (Int × ByteArray)) (h : ∀ q : Nat, q < L.length → L[q]? = some (d.holds q)) (hl : ∀ p ∈ l, 0 ≤ p.1 ∧ p.1 < L.length) (k : Nat) :
    ∀ q : Nat, q < L.length → (crashToR keep torn at_ L l k)[q]? = some ((d.crashTo keep torn at_ l k).holds q) := by
  induction k with
  | zero => exact h
  | succ k ih =>
    intro q hq
    cases hp : l[k]? with
    | none =>
      have e1 : crashToR keep torn at_ L l (k + 1) = crashToR keep torn at_ L l k := by rw [crashToR, hp]
      have e2 : d.crashTo keep torn at_ l (k + 1) = d.crashTo keep torn at_ l k := by rw [Dsk.crashTo, hp]
      rw [e1, e2]; exact ih q hq
    | some p =>
      have e1 : crashToR keep torn at_ L l (k + 1) = crash1R keep torn at_ (crashToR keep torn at_ L l k) k p := by rw [crashToR, hp]
      rw [e1, holds_crashTo _ _ _ _ _ _ (q : Int) hp]
      have hin := hl p (List.mem_of_getElem? hp)
      have ih' := ih
      have hlen := crashToR_len keep torn at_ L l k
      have hcur := ih p.1.toNat (by omega)
      have hpq := ih q hq
      generalize crashToR keep torn at_ L l k = L1 at *
      generalize d.crashTo keep torn at_ l k = d1 at *
      unfold crash1R stepS
      by_cases e : p.1 = (q : Int)
      · have e' : p.1.toNat = q := by omega
        rw [if_pos e, e']
        rw [e'] at hcur
        by_cases hb : keep[k]? = some true
        · rw [if_pos hb, if_pos hb, List.getElem?_set, if_pos rfl, if_pos (by omega)]
        · rw [if_neg hb, if_neg hb]
          by_cases ht : (k : Int) = torn
          · rw [if_pos ht, if_pos ht, List.getElem?_set, if_pos rfl, if_pos (by omega), hpq]; rfl
          · rw [if_neg ht, if_neg ht]; exact hpq
      · have e' : ¬ p.1.toNat = q := by omega
        rw [if_neg e]
        by_cases hb : keep[k]? = some true
        · rw [if_pos hb, List.getElem?_set, if_neg e']; exact hpq
        · rw [if_neg hb]
          by_cases ht : (k : Int) = torn
          · rw [if_pos ht, List.getElem?_set, if_neg e']; exact hpq
          · rw [if_neg ht]; exact hpq
theorem Rel.crash {d : Dsk} {r : RDsk} (h : Rel d r) (keep : List Bool) (torn at_ : Int) : Rel (d.crash keep torn at_) (r.crash keep torn at_) := by
  have hlen : (r.crash keep torn at_).L.length = r.L.length := crashToR_len ..
  refine ⟨?_, rfl, .inl ⟨rfl, rfl⟩, by show -9223372036854775808 ≤ (0 : Int); omega, by show (0 : Int) ≤ 9223372036854775807; omega, fun q hq => ?_, Dsk.Good.crash h.good keep torn at_, by intro p hp; simp [RDsk.crash] at hp, by rw [hlen]; exact h.pos, by rw [hlen]; exact h.len⟩
  · rw [hlen, crash_n]; exact h.n
  · rw [hlen] at hq
    show (crashToR keep torn at_ r.L r.pend r.pend.length)[q]? = _
    rw [holds_crash, h.pend]
    exact crash_same keep torn at_ r.pend h.held h.ins r.pend.length q hq
theorem readTo_find (L : List ByteArray) (pd : List (Int × ByteArray)) (i : Int) (k : Nat) (hk : k ≤ pd.length) : readTo L pd i k = (((pd.take k).reverse.find? fun p => p.1 == i).map (·.2)).getD (L[i.toNat]?.getD zeros) := by
  induction k with
  | zero => rfl
  | succ k ih =>
    have hp : pd[k]? = some pd[k] := List.getElem?_eq_getElem (by omega)
    have e : readTo L pd i (k + 1) = if pd[k].1 = i then pd[k].2 else readTo L pd i k := by
      show (match pd[k]? with | some p => _ | none => _) = _
      rw [hp]
    rw [e, List.take_succ_eq_append_getElem (by omega), List.reverse_append, List.reverse_singleton, List.singleton_append]
    by_cases hx : pd[k].1 = i
    · rw [if_pos hx, List.find?_cons_of_pos (by simpa using hx)]; rfl
    · rw [if_neg hx, List.find?_cons_of_neg (by simpa using hx)]
      exact ih (by omega)
theorem Rel.read {d : Dsk} {r : RDsk} (h : Rel d r) (i : Int) : d.readE i = r.readE i ∧ d.readV i = r.readV i := by
  unfold Dsk.readE RDsk.readE Dsk.readV RDsk.readV
  rw [h.n]
  refine ⟨rfl, ?_⟩
  by_cases hi : 0 ≤ i ∧ i < r.L.length
  · rw [if_pos hi, if_pos hi, readTo_find _ _ _ _ (Nat.le_refl _), List.take_length]
    unfold Dsk.read
    rw [h.pend, h.held i.toNat (by omega), Int.toNat_of_nonneg hi.1]
    rfl
  · rw [if_neg hi, if_neg hi]
theorem Rel.new (n : Nat) (h1 : 1 ≤ n) (h2 : n ≤ 4096) : Rel (newDsk n) (newRef n) := by
  have hl : (newRef n).L.length = n := List.length_replicate
  refine ⟨by rw [hl]; rfl, rfl, .inl ⟨rfl, rfl⟩, by show -9223372036854775808 ≤ (0 : Int); omega, by show (0 : Int) ≤ 9223372036854775807; omega, fun q hq => ?_, Dsk.Good.new _, by intro p hp; simp [newRef] at hp, by rw [hl]; omega, by rw [hl]; omega⟩
  rw [hl] at hq
  show (List.replicate n zeros)[q]? = _
  rw [List.getElem?_replicate, if_pos hq]; rfl
theorem writeS_len (d : Dsk) (i : Int) (s : ByteArray) : (d.writeS i s).pend.length ≤ d.pend.length + 1 := by
  unfold Dsk.writeS
  split
  · show (d.pend ++ [(i, s)]).length ≤ _
    simp
  · omega
theorem flushS_len (d : Dsk) : d.flushS.pend.length ≤ d.pend.length := by
  unfold Dsk.flushS
  split
  · omega
  · simp [Dsk.flush]
end Go.Proofs.Ytofoneapfokdjaa
