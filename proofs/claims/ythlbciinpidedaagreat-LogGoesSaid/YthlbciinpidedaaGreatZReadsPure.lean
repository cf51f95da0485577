/- LogReads: what was appended, and where it stands; plain. -/
import Derived.Test.YthlbciinpidedaaGreatZSealPure
namespace Go.Proofs.YthlbciinpidedaaGreat
set_option linter.unusedSimpArgs false
set_option linter.unusedVariables false
set_option maxRecDepth 100000
open Go.RowKit

/-- One record that was appended: where it was told to stand, its LSN, and what was handed in. -/
structure Ent where
  seg : Nat
  slot : Nat
  lsn : Int
  rc : Rec
def Ent.back (e : Ent) : Rec := { e.rc with lsn := e.lsn, epoch := 1 }
structure Ent.In (c : Cnf) (q r : Nat) (s : LSt) (e : Ent) : Prop where
  puts : Puts e.rc
  lsn : 1 ≤ e.lsn ∧ e.lsn < s.lsn
  place : (e.seg < q ∧ (e.slot : Int) < c.slots) ∨ (e.seg = q ∧ e.slot < r)
  read : s.d.read (2 + (e.seg : Int) * (c.slots + 1) + e.slot) = e.back.sector
structure RRun (c : Cnf) (q r m : Nat) (s : LSt) (E : List Ent) : Prop where
  f : FRun c q r m s
  lens : s.T.lens = List.replicate q c.slots ++ [(r : Int)]
  len : (E.length : Int) = q * c.slots + r
  inn : ∀ e ∈ E, e.In c q r s
  up : E.Pairwise fun a b => a.lsn < b.lsn
section
variable {c : Cnf} {q r m : Nat} {s : LSt} {E : List Ent}
theorem up_app {E : List Ent} (h : E.Pairwise fun a b => a.lsn < b.lsn) (x : Ent) (hx : ∀ e ∈ E, e.lsn < x.lsn) : (E ++ [x]).Pairwise fun a b => a.lsn < b.lsn := by
  rw [List.pairwise_append]
  exact ⟨h, List.pairwise_singleton _ _, fun a ha b hb => by rw [List.mem_singleton.1 hb]; exact hx a ha⟩
theorem last_of {q : Nat} {σ : Int} {r : Int} : (List.replicate q σ ++ [r]).set q (r + 1) = List.replicate q σ ++ [r + 1] := by
  rw [List.set_append_right _ _ (by simp), List.length_replicate, Nat.sub_self]
  rfl
theorem RRun.put (h : RRun c q r m s E) (hm : m ≤ 10000) {rc : Rec} (hp : Puts rc) (hr : (r : Int) < c.slots) : ∃ s', s.append 1 rc = (0, (q : Int), (r : Int), s') ∧ RRun c q (r + 1) (m + 1) s' (E ++ [⟨q, r, s.lsn, rc⟩]) := by
  have hsl := h.f.run.t.slots
  rw [h.f.run.slots] at hsl
  have hlsn := h.f.run.lsn
  obtain ⟨e1, g⟩ := h.f.g.put hm hp (by rw [h.f.run.last]; exact hr)
  rw [h.f.run.open_, h.f.run.last] at e1
  obtain ⟨s2, e2, f2⟩ := h.f.put hm hp hr
  have es : s2 = _ := (congrArg (·.2.2.2) (e2.symm.trans e1))
  have hat : s.T.at_ = 2 + (q : Int) * (c.slots + 1) + r := h.f.run.at_
  refine ⟨s2, e2, f2, ?_, ?_, ?_, up_app h.up _ fun e he => (h.inn e he).lsn.2⟩
  · rw [es]
    show s.T.lens.set (s.T.lens.length - 1) (s.T.last + 1) = _
    rw [h.f.lens_last.1, h.f.run.last, h.lens, show q + 1 - 1 = q from rfl, last_of]
    rfl
  · rw [List.length_append]
    have := h.len
    show ((E.length + 1 : Nat) : Int) = _
    omega
  · intro e he
    rw [es]
    rcases List.mem_append.1 he with he | he
    · have hi := h.inn e he
      refine ⟨hi.puts, ⟨hi.lsn.1, by show e.lsn < s.lsn + 1; have := hi.lsn.2; omega⟩, ?_, ?_⟩
      · rcases hi.place with h1 | h1
        · exact .inl h1
        · exact .inr ⟨h1.1, by omega⟩
      · show (s.d.write s.T.at_ _).read _ = _
        rw [hat, read_there _ _ _ _ (fun x => by
          obtain ⟨x1, x2⟩ := place_inj (b := c.slots) (by omega) ⟨by omega, by omega⟩ ⟨by omega, by rcases hi.place with h1 | h1 <;> omega⟩ x
          rcases hi.place with h1 | h1 <;> omega)]
        exact hi.read
    · obtain rfl := List.mem_singleton.1 he
      refine ⟨hp, ⟨by show 1 ≤ s.lsn; omega, by show s.lsn < s.lsn + 1; omega⟩, .inr ⟨rfl, Nat.lt_succ_self r⟩, ?_⟩
      show (s.d.write s.T.at_ _).read (2 + (q : Int) * (c.slots + 1) + r) = _
      rw [hat, read_here]
      rfl
theorem RRun.roll (h : RRun c q r m s E) (hm : m ≤ 1000) {rc : Rec} (hp : Puts rc) (hr : (r : Int) = c.slots) (hq : ((q + 1 : Nat) : Int) < c.segs) : ∃ s', s.append 1 rc = (0, ((q + 1 : Nat) : Int), ((0 : Nat) : Int), s') ∧ RRun c (q + 1) 1 (m + 2) s' (E ++ [⟨q + 1, 0, s.lsn + 1, rc⟩]) := by
  have hsl := h.f.run.t.slots
  rw [h.f.run.slots] at hsl
  have hlsn := h.f.run.lsn
  obtain ⟨l, hl⟩ := h.f.run.free hq
  obtain ⟨e1, g⟩ := h.f.g.roll (rc := rc) (by omega) hp (by rw [h.f.run.last]; exact hr) hl
  obtain ⟨s2, e2, f2⟩ := h.f.roll hm hp hr hq
  have es : s2 = _ := (congrArg (·.2.2.2) (e2.symm.trans e1))
  have hat : s.T.at_ = 2 + (q : Int) * (c.slots + 1) + r := h.f.run.at_
  have hsg := h.f.run.t.segs
  rw [h.f.run.segs] at hsg
  have r1 := h.f.run.rolled (x := (footR s.lsn 1 ((q + 1 : Nat) : Int)).sector) hq (free_write s.d h.f.lim s.T.at_ (footR s.lsn 1 ((q + 1 : Nat) : Int)).sector h.f.run.at_in (Rec.sector_size (footR_right _ _ _ (by omega) (by omega)))).1 (by omega)
  have hat2 : (s.T.roll ((q + 1 : Nat) : Int) (s.lsn + 1)).at_ = 2 + ((q + 1 : Nat) : Int) * (c.slots + 1) + ((0 : Nat) : Int) := r1.at_
  refine ⟨s2, e2, f2, ?_, ?_, ?_, up_app h.up _ fun e he => ?_⟩
  · rw [es]
    show ((s.T.lens ++ [0]).set ((s.T.lens ++ [0]).length - 1) ((s.T.roll _ _).last + 1)) = _
    rw [Tab.roll_last, List.length_append, List.length_singleton, Nat.add_sub_cancel, List.set_append_right _ _ (by omega), Nat.sub_self, h.lens, hr, List.replicate_succ', List.append_assoc, List.append_assoc]
    rfl
  · rw [List.length_append]
    have h1 := h.len
    have h2 : ((q + 1 : Nat) : Int) * c.slots = q * c.slots + c.slots := by rw [Int.natCast_add, Int.add_mul]; simp
    show ((E.length + 1 : Nat) : Int) = _
    omega
  · intro e he
    rw [es]
    rcases List.mem_append.1 he with he | he
    · have hi := h.inn e he
      have hsq : e.seg ≤ q ∧ (e.slot : Int) < c.slots := by rcases hi.place with h1 | h1 <;> omega
      refine ⟨hi.puts, ⟨hi.lsn.1, by show e.lsn < s.lsn + 1 + 1; have := hi.lsn.2; omega⟩, .inl ⟨by omega, hsq.2⟩, ?_⟩
      show ((s.d.write s.T.at_ _).write (s.T.roll _ _).at_ _).read _ = _
      rw [hat2, read_there _ _ _ _ (fun x => by
        obtain ⟨x1, x2⟩ := place_inj (b := c.slots) (by omega) ⟨by omega, by omega⟩ ⟨by omega, by omega⟩ x
        omega), hat, read_there _ _ _ _ (fun x => by
        obtain ⟨x1, x2⟩ := place_inj (b := c.slots) (by omega) ⟨by omega, by omega⟩ ⟨by omega, by omega⟩ x
        omega)]
      exact hi.read
    · obtain rfl := List.mem_singleton.1 he
      refine ⟨hp, ⟨by show 1 ≤ s.lsn + 1; omega, by show s.lsn + 1 < s.lsn + 1 + 1; omega⟩, .inr ⟨rfl, Nat.one_pos⟩, ?_⟩
      show ((s.d.write s.T.at_ _).write (s.T.roll _ _).at_ _).read (2 + ((q + 1 : Nat) : Int) * (c.slots + 1) + ((0 : Nat) : Int)) = _
      rw [hat2, read_here]
      rfl
  · have := (h.inn e he).lsn.2
    show e.lsn < s.lsn + 1
    omega
/-- One record handed in. -/
theorem RRun.step (h : RRun c q r m s E) (hm : m ≤ 1000) (rc : Rec) (hf : rc.Fits) :
    ∃ (ae ag asl : Int) (q2 r2 m2 : Nat) (s2 : LSt) (E2 : List Ent), s.append 1 rc = (ae, ag, asl, s2) ∧ m2 ≤ m + 2 ∧ RRun c q2 r2 m2 s2 E2 ∧
      ((ae = 5 ∧ E2 = E) ∨ (ae = 10 ∧ E2 = E) ∨ (ae = 0 ∧ (rc.kind ≠ 3 ∧ ({ rc with lsn := 1 } : Rec).right = true ∧ s.T.room ≠ 0) ∧ ∃ e, E2 = E ++ [e] ∧ (e.seg : Int) = ag ∧ (e.slot : Int) = asl ∧ e.rc = rc)) := by
  have hok := h.f.g.ok (by omega)
  have hlsn := hok.lsn
  by_cases hk : rc.kind = 3
  · refine ⟨5, 0, 0, q, r, m, s, E, ?_, by omega, h, .inl ⟨rfl, rfl⟩⟩
    unfold LSt.append
    rw [if_pos (.inl hk)]
  by_cases hR : ({ rc with lsn := 1, epoch := 1 } : Rec).right = true
  case neg =>
    have hx : (s.recOf 1 rc).right = false := by
      rcases Bool.eq_false_or_eq_true (s.recOf 1 rc).right with hx | hx
      · exact absurd (right_lsn rc s.lsn 1 hx (by omega) (by decide)) hR
      · exact hx
    refine ⟨5, 0, 0, q, r, m, s, E, ?_, by omega, h, .inl ⟨rfl, rfl⟩⟩
    unfold LSt.append
    rw [if_pos (.inr hx)]
  have hp : Puts rc := puts_of hk hR hf
  by_cases hr : (r : Int) < c.slots
  · obtain ⟨s2, e2, h2⟩ := h.put (by omega) hp hr
    refine ⟨0, _, _, q, r + 1, m + 1, s2, _, e2, by omega, h2, .inr (.inr ⟨rfl, ⟨hk, hR, fun h0 => ?_⟩, _, rfl, rfl, rfl, rfl⟩)⟩
    have := (h.f.run.room.1 h0).1
    omega
  have hrl := h.f.run.r_le
  by_cases hq : ((q + 1 : Nat) : Int) < c.segs
  · obtain ⟨s2, e2, h2⟩ := h.roll hm hp (by omega) hq
    refine ⟨0, _, _, q + 1, 1, m + 2, s2, _, e2, by omega, h2, .inr (.inr ⟨rfl, ⟨hk, hR, fun h0 => ?_⟩, _, rfl, rfl, rfl, rfl⟩)⟩
    have := (h.f.run.room.1 h0).2
    omega
  have hql := h.f.run.q_lt
  exact ⟨10, 0, 0, q, r, m, s, E, h.f.run.append_full (by omega) hp (by omega) (by omega), by omega, h, .inr (.inl ⟨rfl, rfl⟩)⟩
/-- What is read where it was told to stand. -/
theorem RRun.read (h : RRun c q r m s E) (hm : m ≤ 10000) {e : Ent} (he : e ∈ E) : s.read (e.seg : Int) (e.slot : Int) = .tuple #[e.back.value, .int .i64 0] := by
  have hi := h.inn e he
  have hsl := h.f.run.t.slots
  rw [h.f.run.slots] at hsl
  have hqlt := h.f.run.q_lt
  have hrl := h.f.run.r_le
  have hlsn := h.f.run.lsn
  have hsg := h.f.run.t.segs
  rw [h.f.run.segs] at hsg
  have hsq : e.seg ≤ q ∧ (e.slot : Int) < c.slots := by rcases hi.place with h1 | h1 <;> omega
  have hl : ∃ n : Int, s.T.len (e.seg : Int) = n ∧ (e.slot : Int) < n := by
    unfold Tab.len
    rw [h.f.run.order, idx_upTo q e.seg hsq.1, if_pos (by omega), Int.toNat_natCast, h.lens]
    rcases hi.place with h1 | h1
    · refine ⟨_, rfl, ?_⟩
      rw [List.getElem?_append_left (by simp; omega), List.getElem?_replicate, if_pos h1.1]
      exact h1.2
    · refine ⟨_, rfl, ?_⟩
      rw [List.getElem?_append_right (by simp; omega), List.length_replicate, h1.1, Nat.sub_self]
      show (e.slot : Int) < (r : Int)
      omega
  obtain ⟨n, hn, hlt⟩ := hl
  have hhas : s.has (e.seg : Int) (e.slot : Int) := by
    unfold LSt.has
    rw [h.f.run.order, idx_upTo q e.seg hsq.1, hn]
    omega
  have hv : s.d.readV (secOf s.T.slots (e.seg : Int) (e.slot : Int)) = e.back.sector := by
    have hin := mul_room c.segs c.slots (e.seg : Int) (e.slot : Int) (by omega) (by omega) (by omega) (by omega) (by omega)
    unfold Dsk.readV secOf
    rw [h.f.run.slots, if_pos (by rw [h.f.run.n]; exact hin)]
    exact hi.read
  have hl1 := hi.lsn
  have hd := decR_sector (r := e.back) (hi.puts.right e.lsn hl1.1) (by
    obtain ⟨_, _, f3, f4, f5, f6, f7⟩ := hi.puts.fits
    exact ⟨by show 0 ≤ e.lsn ∧ e.lsn < _; omega, by show (0 : Int) ≤ 1 ∧ (1 : Int) < _; omega, f3, f4, f5, f6, f7⟩)
  unfold LSt.read
  rw [if_pos hhas, hv]
  unfold decV
  rw [hd]
theorem rrun_start {c : Cnf} (h : c.may = true) (h2 : 2 ≤ c.sectors) : RRun c 0 0 0 (startS c) [] :=
  ⟨frun_start h h2, rfl, by simp, by simp, List.Pairwise.nil⟩
/-- How many are used. -/
theorem sum_rep (q : Nat) (σ r : Int) : (List.replicate q σ ++ [r]).sum = q * σ + r := by
  rw [List.sum_append, List.sum_replicate_int]
  simp
theorem RRun.used (h : RRun c q r m s E) : s.T.lens.sum = E.length := by rw [h.lens, sum_rep, h.len]
theorem RRun.many (h : RRun c q r m s E) (h1 : c.segs * c.slots ≤ 30) : E.length ≤ 30 := by
  have hq := h.f.run.q_lt
  have hrl := h.f.run.r_le
  have hl := h.len
  have e2 : ((q : Int) + 1) * c.slots ≤ c.segs * c.slots := Int.mul_le_mul_of_nonneg_right (by omega) (by have := h.f.run.t.slots; rw [h.f.run.slots] at this; omega)
  rw [Int.add_mul, Int.one_mul] at e2
  omega
end
end Go.Proofs.YthlbciinpidedaaGreat
