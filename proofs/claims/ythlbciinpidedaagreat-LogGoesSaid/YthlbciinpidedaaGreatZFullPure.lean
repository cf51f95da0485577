/- A log on a disk without a limit, appended to, and a segment dropped; plain. -/
import Derived.Test.YthlbciinpidedaaGreatZDeadPure
namespace Go.Proofs.YthlbciinpidedaaGreat
set_option linter.unusedSimpArgs false
set_option linter.unusedVariables false
set_option maxRecDepth 100000
open Go.RowKit

/-- A log of so many writes on a disk without a limit. -/
structure GRun (c : Cnf) (m : Nat) (s : LSt) : Prop where
  segs : s.T.segs = c.segs
  slots : s.T.slots = c.slots
  t : s.T.Ok
  lsn : s.lsn = 1 + m
  gen : 0 ≤ s.gen ∧ s.gen ≤ 1000
  pend : s.d.pend.length ≤ m
  n : s.d.n = 2 + c.segs * (c.slots + 1)
  lim : s.d.lim = false
section
variable {c : Cnf} {m : Nat} {s : LSt} {rc : Rec}
theorem GRun.ok (h : GRun c m s) (hm : m ≤ 10000) : s.Ok :=
  ⟨h.t, by rw [h.lsn]; omega, ⟨h.gen.1, by have := h.gen.2; omega⟩, by have := h.pend; omega⟩
theorem GRun.sealOk (h : GRun c m s) (hm : m ≤ 10000) (epoch : Int) : (s.seal epoch).2.Ok := seal_ok (h.ok hm) epoch (by rw [h.lsn]; omega) (by have := h.pend; omega)
theorem at_inside (T : Tab) (hT : T.Ok) : 0 ≤ T.at_ ∧ T.at_ < 2 + T.segs * (T.slots + 1) := by
  have ho : 0 ≤ T.open_ ∧ T.open_ < T.segs := hT.inn _ (List.mem_of_getElem? (T.open_at hT))
  have hl := T.len_in hT T.open_
  have hs := hT.slots
  unfold Tab.at_ secOf
  exact mul_room T.segs T.slots T.open_ (T.len T.open_) ho.2 (by omega) hl.2 ho.1 hl.1
theorem GRun.at_in (h : GRun c m s) : 0 ≤ s.T.at_ ∧ s.T.at_ < s.d.n := by
  have := at_inside s.T h.t
  rw [h.n, ← h.segs, ← h.slots]
  exact this
theorem GRun.puts (h : GRun c m s) (hm : m ≤ 10000) (hp : Puts rc) : (s.recOf 1 rc).right = true := (hp.recOf (h.ok hm)).1
/-- A record put. -/
theorem GRun.put (h : GRun c m s) (hm : m ≤ 10000) (hp : Puts rc) (hr : s.T.last < c.slots) :
    s.append 1 rc = (0, s.T.open_, s.T.last, ⟨s.T.count, s.lsn + 1, s.gen, s.d.write s.T.at_ (s.recOf 1 rc).sector⟩) ∧ GRun c (m + 1) ⟨s.T.count, s.lsn + 1, s.gen, s.d.write s.T.at_ (s.recOf 1 rc).sector⟩ := by
  obtain ⟨T, lsn, gen, d⟩ := s
  have hne : T.last ≠ T.slots := by rw [show T.slots = c.slots from h.slots]; exact Int.ne_of_lt hr
  refine ⟨app_put T lsn gen 1 d rc hp.kind (h.puts hm hp) (fun h0 => hne ((T.room_none h.t).1 h0).1) hne h.lim h.at_in, h.segs, h.slots, T.count_ok h.t (by rw [show T.slots = c.slots from h.slots]; exact hr), ?_, h.gen, ?_, h.n, h.lim⟩
  · show lsn + 1 = _
    have := h.lsn
    show lsn + 1 = 1 + ((m + 1 : Nat) : Int)
    have h2 : lsn = 1 + (m : Int) := this
    omega
  · rw [pend_write]
    have : d.pend.length ≤ m := h.pend
    show d.pend.length + 1 ≤ m + 1
    omega
/-- .. and the next segment opened ahead of it. -/
theorem GRun.roll (h : GRun c m s) (hm : m ≤ 10000) (hp : Puts rc) (hr : s.T.last = c.slots) {f : Int} {l : List Int} (hf : s.T.freeTo s.T.segs.toNat = f :: l) :
    s.append 1 rc = (0, f, 0, ⟨(s.T.roll f (s.lsn + 1)).count, s.lsn + 1 + 1, s.gen, (s.d.write s.T.at_ (footR s.lsn 1 f).sector).write (s.T.roll f (s.lsn + 1)).at_ ({ rc with lsn := s.lsn + 1, epoch := 1 } : Rec).sector⟩) ∧
      GRun c (m + 2) ⟨(s.T.roll f (s.lsn + 1)).count, s.lsn + 1 + 1, s.gen, (s.d.write s.T.at_ (footR s.lsn 1 f).sector).write (s.T.roll f (s.lsn + 1)).at_ ({ rc with lsn := s.lsn + 1, epoch := 1 } : Rec).sector⟩ := by
  obtain ⟨T, lsn, gen, d⟩ := s
  have hl : lsn = 1 + (m : Int) := h.lsn
  have hsg : T.segs = c.segs := h.segs
  have hsl : T.slots = c.slots := h.slots
  have hf' : T.freeTo T.segs.toNat = f :: l := hf
  have hfm := (freeTo_mem T T.segs.toNat f).1 (by rw [hf']; simp)
  have ht : T.Ok := h.t
  have htg := ht.segs
  have hts := ht.slots
  have hT2 : (T.roll f (lsn + 1)).Ok := T.roll_ok ht ⟨by omega, hfm.2⟩ (by omega)
  have hi2 := at_inside _ hT2
  have hn : d.n = 2 + c.segs * (c.slots + 1) := h.n
  have hroom : T.room ≠ 0 := fun h0 => by have := ((T.room_none ht).1 h0).2; rw [hf'] at this; cases this
  have ha := app_roll T lsn gen 1 f l d rc hp.kind (h.puts hm hp) (hp.right _ (by omega)) hroom (by rw [hsl]; exact hr) h.lim (by omega) hf' (by omega) h.at_in (by rw [hn, ← hsg, ← hsl]; exact hi2)
  rw [T.roll_open, T.roll_last] at ha
  refine ⟨ha, h.segs, h.slots, Tab.count_ok _ hT2 (by rw [T.roll_last]; show 0 < T.slots; omega), ?_, h.gen, ?_, h.n, h.lim⟩
  · show lsn + 1 + 1 = 1 + ((m + 2 : Nat) : Int)
    omega
  · rw [pend_write, pend_write]
    have : d.pend.length ≤ m := h.pend
    show d.pend.length + 1 + 1 ≤ m + 2
    omega
theorem GRun.full (h : GRun c m s) (hm : m ≤ 10000) (hp : Puts rc) (hr : s.T.last = c.slots) (hf : s.T.freeTo s.T.segs.toNat = []) : s.append 1 rc = (10, 0, 0, s) := by
  have hR := h.puts hm hp
  unfold LSt.append
  rw [if_neg (fun h' => h'.elim hp.kind (fun h' => by rw [hR] at h'; cases h')), if_pos ((s.T.room_none h.t).2 ⟨by rw [h.slots]; exact hr, hf⟩)]
end
/-- In order, on a disk without a limit. -/
structure FRun (c : Cnf) (q r m : Nat) (s : LSt) : Prop where
  run : Run c q r m s
  lim : s.d.lim = false
section
variable {c : Cnf} {q r m : Nat} {s : LSt} {rc : Rec}
theorem FRun.g (h : FRun c q r m s) : GRun c m s := ⟨h.run.segs, h.run.slots, h.run.t, h.run.lsn, by rw [h.run.gen]; omega, by rw [h.run.pend]; omega, h.run.n, h.lim⟩
theorem FRun.put (h : FRun c q r m s) (hm : m ≤ 10000) (hp : Puts rc) (hr : (r : Int) < c.slots) : ∃ s', s.append 1 rc = (0, (q : Int), (r : Int), s') ∧ FRun c q (r + 1) (m + 1) s' := by
  have e := (free_write s.d h.lim s.T.at_ (s.recOf 1 rc).sector h.run.at_in (Rec.sector_size (h.g.puts hm hp)))
  have h1 := (h.g.put hm hp (by rw [h.run.last]; exact hr)).1
  have h2 := h.run.count hr e.1
  rw [e.2] at h2
  rw [h.run.open_, h.run.last] at h1
  exact ⟨_, h1, h2, h.lim⟩
theorem FRun.roll (h : FRun c q r m s) (hm : m ≤ 1000) (hp : Puts rc) (hr : (r : Int) = c.slots) (hq : ((q + 1 : Nat) : Int) < c.segs) : ∃ s', s.append 1 rc = (0, ((q + 1 : Nat) : Int), ((0 : Nat) : Int), s') ∧ FRun c (q + 1) 1 (m + 2) s' := by
  obtain ⟨l, hl⟩ := h.run.free hq
  have h1 := (h.g.roll (rc := rc) (by omega) hp (by rw [h.run.last]; exact hr) hl)
  have hsl := h.run.t.slots
  have hsg := h.run.t.segs
  rw [h.run.slots] at hsl
  have hlsn := h.run.lsn
  have hf16 : ((q + 1 : Nat) : Int) < 16 := by rw [h.run.segs] at hsg; omega
  have e := free_write s.d h.lim s.T.at_ (footR s.lsn 1 ((q + 1 : Nat) : Int)).sector h.run.at_in (Rec.sector_size (footR_right _ _ _ (by omega) hf16))
  have r1 := h.run.rolled hq e.1 (by omega)
  rw [e.2] at r1
  have e2 := free_write (s.d.write s.T.at_ (footR s.lsn 1 ((q + 1 : Nat) : Int)).sector) h.lim _ ({ rc with lsn := s.lsn + 1, epoch := 1 } : Rec).sector r1.at_in (Rec.sector_size (hp.right _ (by omega)))
  have r2 := r1.count (x := ({ rc with lsn := s.lsn + 1, epoch := 1 } : Rec).sector) (by omega) e2.1
  have e3 : (s.d.write s.T.at_ (footR s.lsn 1 ((q + 1 : Nat) : Int)).sector).writeS (s.T.roll ((q + 1 : Nat) : Int) (s.lsn + 1)).at_ ({ rc with lsn := s.lsn + 1, epoch := 1 } : Rec).sector = _ := e2.2
  refine ⟨_, h1.1, ?_, h.lim⟩
  have r3 : Run c (q + 1) (0 + 1) (m + 1 + 1) ⟨(s.T.roll ((q + 1 : Nat) : Int) (s.lsn + 1)).count, s.lsn + 1 + 1, s.gen, (s.d.write s.T.at_ (footR s.lsn 1 ((q + 1 : Nat) : Int)).sector).writeS (s.T.roll ((q + 1 : Nat) : Int) (s.lsn + 1)).at_ ({ rc with lsn := s.lsn + 1, epoch := 1 } : Rec).sector⟩ := r2
  rw [e3] at r3
  exact r3
theorem frun_start {c : Cnf} (h : c.may = true) (h2 : 2 ≤ c.sectors) : FRun c 0 0 0 (startS c) := ⟨run_start h, (madeD_is c.sectors h2 c).1⟩
end
theorem idx_upTo (q k : Nat) (h : k ≤ q) : idx (upTo q) (k : Int) = k := by
  refine idx_at (upTo_at q k h) fun j hj he => ?_
  rw [upTo_at q j (by omega)] at he
  have := Option.some.inj he
  omega
theorem drop_last (T : Tab) (hT : T.Ok) (k : Nat) (hk : k + 1 < T.order.length) : (T.drop k).last = T.last := by
  have hl := hT.len
  unfold Tab.last Tab.drop
  show ((T.lens.eraseIdx k)[(T.lens.eraseIdx k).length - 1]?).getD 0 = _
  rw [List.length_eraseIdx, if_pos (by omega), List.getElem?_eraseIdx, if_neg (by omega)]
  congr 2
  omega
/-- A segment dropped. -/
def dropS (s : LSt) (k : Nat) (ver : Int) : LSt := ⟨s.T.drop k, s.lsn, s.gen + 1, ((s.d.flush).write ((s.gen + 1) % 2) ⟨((s.T.drop k).chk (s.gen + 1) 1 s.lsn ver).enc.toArray⟩).flush⟩
theorem GRun.drop {c : Cnf} {m : Nat} {s : LSt} (h : GRun c m s) (hg : s.gen ≤ 900) (k : Nat) (hk : k + 1 < s.T.order.length) (ver : Int) : GRun c m (dropS s k ver) := by
  obtain ⟨f1, f2, f3⟩ := flush_is ((s.d.flush).write ((s.gen + 1) % 2) ⟨((s.T.drop k).chk (s.gen + 1) 1 s.lsn ver).enc.toArray⟩)
  obtain ⟨g1, g2, g3⟩ := flush_is s.d
  have hgen := h.gen
  refine ⟨h.segs, h.slots, s.T.drop_ok h.t k hk, h.lsn, ?_, ?_, ?_, ?_⟩
  · show 0 ≤ s.gen + 1 ∧ s.gen + 1 ≤ 1000
    omega
  · show (dropS s k ver).d.pend.length ≤ m
    unfold dropS
    rw [f3]
    exact Nat.zero_le _
  · show (dropS s k ver).d.n = _
    unfold dropS
    rw [f2]
    show s.d.flush.n = _
    rw [g2]
    exact h.n
  · show (dropS s k ver).d.lim = false
    unfold dropS
    rw [f1]
    show s.d.flush.lim = false
    rw [g1]
    exact h.lim
theorem drop_free (T : Tab) (hT : T.Ok) (hall : T.order.length = T.segs.toNat) (k : Nat) (x : Int) (hx : T.order[k]? = some x) (hk : k + 1 < T.order.length) : (T.drop k).freeTo (T.drop k).segs.toNat = [x] := by
  have hd := T.drop_ok hT k hk
  have hsg := hT.segs
  have hlen := (T.drop k).free_length hd T.segs.toNat (by show T.segs = _; omega)
  have hol : (T.drop k).order.length = T.order.length - 1 := by
    show (T.order.eraseIdx k).length = _
    rw [List.length_eraseIdx, if_pos (by omega)]
  have h1 : ((T.drop k).freeTo T.segs.toNat).length = 1 := by omega
  have hni : ¬ x ∈ (T.drop k).order := fun hm => by
    obtain ⟨j, hj⟩ := List.mem_iff_getElem?.1 (show x ∈ T.order.eraseIdx k from hm)
    rw [List.getElem?_eraseIdx] at hj
    split at hj
    · have := idx_nodup hT.nodup hj
      have := idx_nodup hT.nodup hx
      omega
    · have := idx_nodup hT.nodup hj
      have := idx_nodup hT.nodup hx
      omega
  have hin := hT.inn x (List.mem_of_getElem? hx)
  have hmem : x ∈ (T.drop k).freeTo T.segs.toNat := (freeTo_mem (T.drop k) T.segs.toNat x).2 ⟨⟨hin.1, by omega⟩, by
    rcases Int.lt_or_le (idx (T.drop k).order x) 0 with h | h
    · exact h
    · exact absurd (idx_in h) hni⟩
  show (T.drop k).freeTo T.segs.toNat = [x]
  cases hf : (T.drop k).freeTo T.segs.toNat with
  | nil => rw [hf] at hmem; cases hmem
  | cons y l =>
    rw [hf] at hmem h1
    have : l = [] := by cases l with
      | nil => rfl
      | cons _ _ => simp at h1
    subst this
    have : x = y := by simpa using hmem
    rw [this]
theorem free_all (T : Tab) (hT : T.Ok) (hall : T.order.length = T.segs.toNat) : T.freeTo T.segs.toNat = [] := by
  have hsg := hT.segs
  have := T.free_length hT T.segs.toNat (by omega)
  exact List.eq_nil_of_length_eq_zero (by omega)
def liveP (id : ByteArray) (ver : Int) : Prop := Puts (liveR id ver)
theorem puts_live (id : ByteArray) (hid : okID id.data.toList = true) (ver : Int) (hv : 0 ≤ ver ∧ ver < 18446744073709551616) : Puts (liveR id ver) := by
  have hs := okID_size hid
  have hv2 : okValue [118] = true := by decide
  refine puts_of (by show (1 : Int) ≠ 3; decide) ?_ ⟨by show (0 : Int) ≤ 0 ∧ (0 : Int) < _; omega, by show (0 : Int) ≤ 0 ∧ (0 : Int) < _; omega, by show (-9223372036854775808 : Int) ≤ 1 ∧ (1 : Int) ≤ 9223372036854775807; omega, hv, by show (0 : Int) ≤ 9 ∧ (9 : Int) < _; omega, by show id.size ≤ _; omega, by show (1 : Nat) ≤ _; omega⟩
  unfold Rec.right liveR
  simp [hid, hv2]
/-- A log whose dropped segment is filled again: i records in it. -/
structure G2 (c : Cnf) (κ i m : Nat) (s : LSt) : Prop where
  g : GRun c m s
  at_ : (i = 0 ∧ s.T.last = c.slots ∧ s.T.freeTo s.T.segs.toNat = [(κ : Int)] ∧ s.T.order.length + 1 = s.T.segs.toNat) ∨ (1 ≤ i ∧ s.T.open_ = (κ : Int) ∧ s.T.last = i ∧ s.T.freeTo s.T.segs.toNat = [])
theorem G2.step {c : Cnf} {κ i m : Nat} {s : LSt} {rc : Rec} (h : G2 c κ i m s) (hi : (i : Int) < c.slots) (hm : m ≤ 10000) (hp : Puts rc) : ∃ m' s', m' ≤ m + 2 ∧ s.append 1 rc = (0, (κ : Int), (i : Int), s') ∧ G2 c κ (i + 1) m' s' := by
  have hsg := h.g.t.segs
  have hsl := h.g.t.slots
  have hls := h.g.lsn
  rcases h.at_ with ⟨rfl, h1, h2, h3⟩ | ⟨h0, h1, h2, h3⟩
  · obtain ⟨ha, hg⟩ := h.g.roll hm hp h1 h2
    have hfm := (freeTo_mem s.T s.T.segs.toNat (κ : Int)).1 (by rw [h2]; simp)
    have hT2 : (s.T.roll (κ : Int) (s.lsn + 1)).Ok := s.T.roll_ok h.g.t ⟨⟨hfm.1.1, by omega⟩, hfm.2⟩ (by omega)
    refine ⟨m + 2, _, Nat.le_refl _, ha, hg, .inr ⟨by omega, ?_, ?_, ?_⟩⟩
    · show (s.T.roll (κ : Int) (s.lsn + 1)).count.open_ = _
      rw [Tab.count_open, Tab.roll_open]
    · show (s.T.roll (κ : Int) (s.lsn + 1)).count.last = _
      rw [Tab.count_last _ hT2, Tab.roll_last]; rfl
    · exact free_all (s.T.roll (κ : Int) (s.lsn + 1)) hT2 (by show (s.T.order ++ [(κ : Int)]).length = s.T.segs.toNat; rw [List.length_append]; exact h3)
  · obtain ⟨ha, hg⟩ := h.g.put hm hp (by rw [h2]; exact hi)
    rw [h1, h2] at ha
    refine ⟨m + 1, _, by omega, ha, hg, .inr ⟨by omega, h1, ?_, h3⟩⟩
    show s.T.count.last = _
    rw [Tab.count_last _ h.g.t, h2]; omega
theorem G2.full {c : Cnf} {κ i m : Nat} {s : LSt} {rc : Rec} (h : G2 c κ i m s) (hi : (i : Int) = c.slots) (hm : m ≤ 10000) (hp : Puts rc) : s.append 1 rc = (10, 0, 0, s) := by
  have hsl := h.g.t.slots
  rcases h.at_ with ⟨h0, _⟩ | ⟨h0, h1, h2, h3⟩
  · have := h.g.slots
    omega
  · exact h.g.full hm hp (by rw [h2]; exact hi) h3
theorem FRun.dropped {c : Cnf} {q r m : Nat} {s : LSt} (h : FRun c q r m s) (hq : ((q + 1 : Nat) : Int) = c.segs) (hr : (r : Int) = c.slots) (κ : Nat) (hκ : κ < q) (ver : Int) : idx s.T.order (κ : Int) = κ ∧ κ + 1 < s.T.order.length ∧ G2 c κ 0 m (dropS s κ ver) := by
  have ho : s.T.order.length = q + 1 := by rw [h.run.order, upTo_len]
  have hsg := h.run.segs
  have hx : s.T.order[κ]? = some (κ : Int) := by rw [h.run.order, upTo_at q κ (by omega)]
  refine ⟨by rw [h.run.order]; exact idx_upTo q κ (by omega), by omega, h.g.drop (by rw [h.run.gen]; omega) κ (by omega) ver, .inl ⟨rfl, ?_, ?_, ?_⟩⟩
  · show (s.T.drop κ).last = _
    rw [drop_last _ h.run.t κ (by omega), h.run.last]; exact hr
  · exact drop_free s.T h.run.t (by rw [ho, hsg]; omega) κ _ hx (by omega)
  · show (s.T.order.eraseIdx κ).length + 1 = s.T.segs.toNat
    rw [List.length_eraseIdx, if_pos (by omega), ho, hsg]
    omega
end Go.Proofs.YthlbciinpidedaaGreat
