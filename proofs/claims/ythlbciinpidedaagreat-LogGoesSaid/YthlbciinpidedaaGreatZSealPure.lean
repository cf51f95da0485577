/- A log that is sealed early: what stands where; plain. -/
import Derived.Test.YthlbciinpidedaaGreatZFullPure
namespace Go.Proofs.YthlbciinpidedaaGreat
set_option linter.unusedSimpArgs false
set_option linter.unusedVariables false
set_option maxRecDepth 100000
open Go.RowKit

/-- A sector's place is one record's alone. -/
theorem place_inj {b x y x' y' : Int} (hb : 0 ≤ b) (h1 : 0 ≤ y ∧ y ≤ b) (h2 : 0 ≤ y' ∧ y' ≤ b) (h : 2 + x * (b + 1) + y = 2 + x' * (b + 1) + y') : x = x' ∧ y = y' := by
  have key : (x - x') * (b + 1) = y' - y := by rw [Int.sub_mul]; omega
  have hx : x - x' = 0 := by
    rcases Int.lt_trichotomy (x - x') 0 with hlt | heq | hgt
    · have : (x - x') * (b + 1) ≤ (-1) * (b + 1) := Int.mul_le_mul_of_nonneg_right (by omega) (by omega)
      omega
    · exact heq
    · have : 1 * (b + 1) ≤ (x - x') * (b + 1) := Int.mul_le_mul_of_nonneg_right (by omega) (by omega)
      omega
  rw [hx, Int.zero_mul] at key
  omega
/-- What was put stands where it was put. -/
def Stands (c : Cnf) (s : LSt) : Prop := ∀ (σ i : Nat) (n : Int), s.T.lens[σ]? = some n → (i : Int) < n → ∃ lsn : Int, (1 ≤ lsn ∧ lsn < 1000000) ∧ s.d.read (2 + (σ : Int) * (c.slots + 1) + i) = (liveAt lsn bA ((σ : Int) * 100 + i)).sector
structure SRun (c : Cnf) (q r m : Nat) (s : LSt) : Prop where
  f : FRun c q r m s
  st : Stands c s
section
variable {c : Cnf} {q r m : Nat} {s : LSt}
theorem FRun.lens_last (h : FRun c q r m s) : s.T.lens.length = q + 1 ∧ s.T.lens[q]? = some (r : Int) := by
  have hl := h.run.t.len
  rw [h.run.order, upTo_len] at hl
  have hlast := h.run.t.last.1
  rw [hl, h.run.last] at hlast
  exact ⟨hl, by simpa using hlast⟩
theorem FRun.read_in (h : FRun c q r m s) {σ : Nat} {n : Int} (hσ : s.T.lens[σ]? = some n) : σ ≤ q ∧ 0 ≤ n ∧ n ≤ c.slots := by
  obtain ⟨h1, _⟩ := List.getElem?_eq_some_iff.1 hσ
  have h2 := h.run.t.lens n (List.mem_of_getElem? hσ)
  rw [h.run.slots] at h2
  have := h.lens_last.1
  exact ⟨by omega, h2⟩
/-- One more record. -/
theorem SRun.put (h : SRun c q r m s) (hm : m ≤ 10000) (hr : (r : Int) < c.slots) (hq : q ≤ 100) : ∃ s', s.append 1 (liveR bA ((q : Int) * 100 + r)) = (0, (q : Int), (r : Int), s') ∧ SRun c q (r + 1) (m + 1) s' := by
  have hp := puts_live bA (by decide) ((q : Int) * 100 + r) (by have := h.f.run.t.slots; rw [h.f.run.slots] at this; omega)
  have hsl := h.f.run.t.slots
  rw [h.f.run.slots] at hsl
  have hlsn := h.f.run.lsn
  obtain ⟨e1, g⟩ := h.f.g.put hm hp (by rw [h.f.run.last]; exact hr)
  rw [h.f.run.open_, h.f.run.last] at e1
  obtain ⟨s2, e2, f2⟩ := h.f.put hm hp hr
  have es : s2 = _ := (congrArg (·.2.2.2) (e2.symm.trans e1))
  refine ⟨s2, e2, f2, ?_⟩
  intro σ i n hσ hi
  rw [es] at hσ ⊢
  obtain ⟨hll, hlq⟩ := h.f.lens_last
  have hat : s.T.at_ = 2 + (q : Int) * (c.slots + 1) + r := h.f.run.at_
  have hcl : s.T.count.lens = s.T.lens.set q ((r : Int) + 1) := by
    show s.T.lens.set (s.T.lens.length - 1) (s.T.last + 1) = _
    rw [hll, h.f.run.last]; rfl
  have hσ' : (s.T.lens.set q ((r : Int) + 1))[σ]? = some n := by rw [← hcl]; exact hσ
  show ∃ lsn : Int, _ ∧ (s.d.write s.T.at_ (s.recOf 1 (liveR bA ((q : Int) * 100 + r))).sector).read _ = _
  by_cases hqσ : q = σ
  · subst hqσ
    rw [List.getElem?_set_self (by omega)] at hσ'
    have hn : n = (r : Int) + 1 := (Option.some.inj hσ').symm
    by_cases hir : i = r
    · subst hir
      rw [hat, read_here]
      exact ⟨s.lsn, by omega, rfl⟩
    · obtain ⟨lsn, h1, h2⟩ := h.st q i (r : Int) hlq (by omega)
      rw [hat, read_there _ _ _ _ (by omega)]
      exact ⟨lsn, h1, h2⟩
  · rw [List.getElem?_set_ne hqσ] at hσ'
    obtain ⟨h3, h4, h5⟩ := h.f.read_in hσ'
    obtain ⟨lsn, h1, h2⟩ := h.st σ i n hσ' hi
    rw [hat, read_there _ _ _ _ (fun e => by
      have := (place_inj (b := c.slots) (by omega) ⟨by omega, by omega⟩ ⟨by omega, by omega⟩ e).1
      omega)]
    exact ⟨lsn, h1, h2⟩
/-- Sealed, where another segment is free. -/
theorem SRun.seal (h : SRun c q r m s) (hm : m ≤ 10000) (hq : ((q + 1 : Nat) : Int) < c.segs) : ∃ s', s.seal 1 = (0, s') ∧ SRun c (q + 1) 0 (m + 1) s' := by
  obtain ⟨l, hl⟩ := h.f.run.free hq
  have hsl := h.f.run.t.slots
  rw [h.f.run.slots] at hsl
  have hsg := h.f.run.t.segs
  rw [h.f.run.segs] at hsg
  have hlsn := h.f.run.lsn
  have e1 := seal_free s 1 _ l h.f.lim (by omega) hl (by omega) h.f.run.at_in
  have ew := free_write s.d h.f.lim s.T.at_ (footR s.lsn 1 ((q + 1 : Nat) : Int)).sector h.f.run.at_in (Rec.sector_size (footR_right _ _ _ (by omega) (by omega)))
  have r1 := h.f.run.rolled hq ew.1 hm
  rw [ew.2] at r1
  refine ⟨_, e1, ⟨r1, h.f.lim⟩, ?_⟩
  intro σ i n hσ hi
  obtain ⟨hll, hlq⟩ := h.f.lens_last
  have hat : s.T.at_ = 2 + (q : Int) * (c.slots + 1) + r := h.f.run.at_
  have hrl := h.f.run.r_le
  have hσ' : (s.T.lens ++ [0])[σ]? = some n := hσ
  show ∃ lsn : Int, _ ∧ (s.d.write s.T.at_ _).read _ = _
  by_cases hσq : σ < s.T.lens.length
  · rw [List.getElem?_append_left hσq] at hσ'
    obtain ⟨h3, h4, h5⟩ := h.f.read_in hσ'
    obtain ⟨lsn, h1, h2⟩ := h.st σ i n hσ' hi
    rw [hat, read_there _ _ _ _ (fun e => by
      obtain ⟨e2, e3⟩ := place_inj (b := c.slots) (by omega) ⟨by omega, by omega⟩ ⟨by omega, by omega⟩ e
      have : q = σ := by omega
      subst this
      rw [hlq] at hσ'
      have := Option.some.inj hσ'
      omega)]
    exact ⟨lsn, h1, h2⟩
  · rw [List.getElem?_append_right (by omega)] at hσ'
    exfalso
    have : n = 0 := by
      rcases Nat.eq_zero_or_pos (σ - s.T.lens.length) with h0 | h0
      · rw [h0] at hσ'; exact (Option.some.inj hσ').symm
      · rw [List.getElem?_eq_none (by simp; omega)] at hσ'; cases hσ'
    omega
theorem SRun.sealEnd (h : SRun c q r m s) (hq : ((q + 1 : Nat) : Int) = c.segs) : s.seal 1 = (10, s) := by
  unfold LSt.seal
  rw [h.f.run.free_end hq]
/-- How long a segment is, and what is read of it. -/
theorem SRun.len (h : SRun c q r m s) {σ : Nat} (hσ : σ ≤ q) : ∃ n : Int, s.T.lens[σ]? = some n ∧ s.T.len (σ : Int) = n ∧ 0 ≤ n ∧ n ≤ c.slots := by
  obtain ⟨hll, _⟩ := h.f.lens_last
  have hx : s.T.lens[σ]? = some s.T.lens[σ] := List.getElem?_eq_getElem (by omega)
  refine ⟨_, hx, ?_, (h.f.read_in hx).2⟩
  unfold Tab.len
  rw [h.f.run.order, idx_upTo q σ hσ, if_pos (by omega), Int.toNat_natCast, hx]
  rfl
theorem SRun.read (h : SRun c q r m s) {σ i : Nat} (hσ : σ ≤ q) (hi : (i : Int) < s.T.len (σ : Int)) : ∃ lsn : Int, s.read (σ : Int) (i : Int) = .tuple #[(liveAt lsn bA ((σ : Int) * 100 + i)).value, .int .i64 0] := by
  obtain ⟨n, h1, h2, h3, h4⟩ := h.len hσ
  rw [h2] at hi
  obtain ⟨lsn, hl, hrd⟩ := h.st σ i n h1 hi
  have hsl := h.f.run.t.slots
  rw [h.f.run.slots] at hsl
  have hqlt := h.f.run.q_lt
  have hsg := h.f.run.t.segs
  rw [h.f.run.segs] at hsg
  refine ⟨lsn, ?_⟩
  have hhas : s.has (σ : Int) (i : Int) := by
    unfold LSt.has
    rw [h.f.run.order, idx_upTo q σ hσ, h2]
    omega
  have hv : s.d.readV (secOf s.T.slots (σ : Int) (i : Int)) = (liveAt lsn bA ((σ : Int) * 100 + i)).sector := by
    have hin := mul_room c.segs c.slots (σ : Int) (i : Int) (by omega) (by omega) (by omega) (by omega) (by omega)
    unfold Dsk.readV secOf
    rw [h.f.run.slots, if_pos (by rw [h.f.run.n]; exact hin)]
    exact hrd
  have hp := puts_live bA (by decide) ((σ : Int) * 100 + i) (by omega)
  have hd := decR_sector (r := liveAt lsn bA ((σ : Int) * 100 + i)) (hp.right lsn hl.1) (by
    obtain ⟨_, _, f3, f4, f5, f6, f7⟩ := hp.fits
    exact ⟨by show 0 ≤ lsn ∧ lsn < _; omega, by show (0 : Int) ≤ 1 ∧ (1 : Int) < _; omega, f3, f4, f5, f6, f7⟩)
  unfold LSt.read
  rw [if_pos hhas, hv]
  unfold decV
  rw [hd]
theorem srun_start {c : Cnf} (h : c.may = true) (h2 : 2 ≤ c.sectors) : SRun c 0 0 0 (startS c) := by
  refine ⟨frun_start h h2, ?_⟩
  intro σ i n hσ hi
  have hσ' : ([0] : List Int)[σ]? = some n := hσ
  cases σ with
  | zero =>
    have : n = 0 := (Option.some.inj hσ').symm
    omega
  | succ k => simp at hσ'
end
end Go.Proofs.YthlbciinpidedaaGreat
