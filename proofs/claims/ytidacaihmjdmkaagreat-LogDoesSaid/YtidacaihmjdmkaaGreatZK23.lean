/- What the laws of this seat lean on, part 23. -/
import Derived.Test.YtidacaihmjdmkaaGreatZK22
import Derived.Test.YtidacaihmjdmkaaGreatZK16
import Derived.Test.YtidacaihmjdmkaaGreatZK20
import Derived.Test.YtidacaihmjdmkaaGreatZK9
import Derived.Test.YtidacaihmjdmkaaGreatZK15
import Derived.Test.YtidacaihmjdmkaaGreatZK21
set_option linter.unusedSimpArgs false
set_option linter.unusedVariables false
set_option maxRecDepth 100000
namespace Go.Proofs.YtidacaihmjdmkaaGreat
open Go.RowKit
theorem place_inj {b x y x' y' : Int} (hb : 0 ≤ b) (h1 : 0 ≤ y ∧ y ≤ b) (h2 : 0 ≤ y' ∧ y' ≤ b) (h : 2 + x * (b + 1) + y = 2 + x' * (b + 1) + y') : x = x' ∧ y = y' := by
  have key : (x - x') * (b + 1) = y' - y := by rw [Int.sub_mul];omega
  have hx : x - x' = 0 := by
    rcases Int.lt_trichotomy (x - x') 0 with hlt | heq | hgt
    · have : (x - x') * (b + 1) ≤ (-1) * (b + 1) := Int.mul_le_mul_of_nonneg_right (by omega) (by omega)
      omega
    · exact heq
    · have : 1 * (b + 1) ≤ (x - x') * (b + 1) := Int.mul_le_mul_of_nonneg_right (by omega) (by omega)
      omega
  rw [hx,Int.zero_mul] at key
  omega
def Stands (c : Cnf) (s : LSt) : Prop := ∀ (σ i : Nat) (n : Int),s.T.lens[σ]? = some n → (i : Int) < n → ∃ lsn : Int,(1 ≤ lsn ∧ lsn < 1000000) ∧ s.d.read (2 + (σ : Int) * (c.slots + 1) + i) = (liveAt lsn bA ((σ : Int) * 100 + i)).sector
structure SRun (c : Cnf) (q r m : Nat) (s : LSt) : Prop where
  f : FRun c q r m s
  st : Stands c s
section
variable {c : Cnf} {q r m : Nat} {s : LSt}
theorem FRun.lens_last (h : FRun c q r m s) : s.T.lens.length = q + 1 ∧ s.T.lens[q]? = some (r : Int) := by
  have hl := h.run.t.len
  rw [h.run.order,upTo_len] at hl
  have hlast := h.run.t.last.1
  rw [hl,h.run.last] at hlast
  exact ⟨hl,by simpa using hlast⟩
theorem FRun.read_in (h : FRun c q r m s) {σ : Nat} {n : Int} (hσ : s.T.lens[σ]? = some n) : σ ≤ q ∧ 0 ≤ n ∧ n ≤ c.slots := by
  obtain ⟨h1,_⟩ := List.getElem?_eq_some_iff.1 hσ
  have h2 := h.run.t.lens n (List.mem_of_getElem? hσ)
  rw [h.run.slots] at h2
  have := h.lens_last.1
  exact ⟨by omega,h2⟩
theorem SRun.put (h : SRun c q r m s) (hm : m ≤ 10000) (hr : (r : Int) < c.slots) (hq : q ≤ 100) : ∃ s',s.append 1 (liveR bA ((q : Int) * 100 + r)) = (0,(q : Int),(r : Int),s') ∧ SRun c q (r + 1) (m + 1) s' := by
  have hp := puts_live bA (by decide) ((q : Int) * 100 + r) (by have := h.f.run.t.slots;rw [h.f.run.slots] at this;omega)
  have hsl := h.f.run.t.slots
  rw [h.f.run.slots] at hsl
  have hlsn := h.f.run.lsn
  obtain ⟨e1,g⟩ := h.f.g.put hm hp (by rw [h.f.run.last];exact hr)
  rw [h.f.run.open_,h.f.run.last] at e1
  obtain ⟨s2,e2,f2⟩ := h.f.put hm hp hr
  have es : s2 = _ := (congrArg (·.2.2.2) (e2.symm.trans e1))
  refine ⟨s2,e2,f2,?_⟩
  intro σ i n hσ hi
  rw [es] at hσ ⊢
  obtain ⟨hll,hlq⟩ := h.f.lens_last
  have hat : s.T.at_ = 2 + (q : Int) * (c.slots + 1) + r := h.f.run.at_
  have hcl : s.T.count.lens = s.T.lens.set q ((r : Int) + 1) := by
    show s.T.lens.set (s.T.lens.length - 1) (s.T.last + 1) = _
    rw [hll,h.f.run.last];rfl
  have hσ' : (s.T.lens.set q ((r : Int) + 1))[σ]? = some n := by rw [← hcl];exact hσ
  show ∃ lsn : Int,_ ∧ (s.d.write s.T.at_ (s.recOf 1 (liveR bA ((q : Int) * 100 + r))).sector).read _ = _
  by_cases hqσ : q = σ
  · subst hqσ
    rw [List.getElem?_set_self (by omega)] at hσ'
    have hn : n = (r : Int) + 1 := (Option.some.inj hσ').symm
    by_cases hir : i = r
    · subst hir
      rw [hat,read_here]
      exact ⟨s.lsn,by omega,rfl⟩
    · obtain ⟨lsn,h1,h2⟩ := h.st q i (r : Int) hlq (by omega)
      rw [hat,read_there _ _ _ _ (by omega)]
      exact ⟨lsn,h1,h2⟩
  · rw [List.getElem?_set_ne hqσ] at hσ'
    obtain ⟨h3,h4,h5⟩ := h.f.read_in hσ'
    obtain ⟨lsn,h1,h2⟩ := h.st σ i n hσ' hi
    rw [hat,read_there _ _ _ _ (fun e => by
      have := (place_inj (b := c.slots) (by omega) ⟨by omega,by omega⟩ ⟨by omega,by omega⟩ e).1
      omega)]
    exact ⟨lsn,h1,h2⟩
theorem SRun.seal (h : SRun c q r m s) (hm : m ≤ 10000) (hq : ((q + 1 : Nat) : Int) < c.segs) : ∃ s',s.seal 1 = (0,s') ∧ SRun c (q + 1) 0 (m + 1) s' := by
  obtain ⟨l,hl⟩ := h.f.run.free hq
  have hsl := h.f.run.t.slots
  rw [h.f.run.slots] at hsl
  have hsg := h.f.run.t.segs
  rw [h.f.run.segs] at hsg
  have hlsn := h.f.run.lsn
  have e1 := seal_free s 1 _ l h.f.lim (by omega) hl (by omega) h.f.run.at_in
  have ew := free_write s.d h.f.lim s.T.at_ (footR s.lsn 1 ((q + 1 : Nat) : Int)).sector h.f.run.at_in (Rec.sector_size (footR_right _ _ _ (by omega) (by omega)))
  have r1 := h.f.run.rolled hq ew.1 hm
  rw [ew.2] at r1
  refine ⟨_,e1,⟨r1,h.f.lim⟩,?_⟩
  intro σ i n hσ hi
  obtain ⟨hll,hlq⟩ := h.f.lens_last
  have hat : s.T.at_ = 2 + (q : Int) * (c.slots + 1) + r := h.f.run.at_
  have hrl := h.f.run.r_le
  have hσ' : (s.T.lens ++ [0])[σ]? = some n := hσ
  show ∃ lsn : Int,_ ∧ (s.d.write s.T.at_ _).read _ = _
  by_cases hσq : σ < s.T.lens.length
  · rw [List.getElem?_append_left hσq] at hσ'
    obtain ⟨h3,h4,h5⟩ := h.f.read_in hσ'
    obtain ⟨lsn,h1,h2⟩ := h.st σ i n hσ' hi
    rw [hat,read_there _ _ _ _ (fun e => by
      obtain ⟨e2,e3⟩ := place_inj (b := c.slots) (by omega) ⟨by omega,by omega⟩ ⟨by omega,by omega⟩ e
      have : q = σ := by omega
      subst this
      rw [hlq] at hσ'
      have := Option.some.inj hσ'
      omega)]
    exact ⟨lsn,h1,h2⟩
  · rw [List.getElem?_append_right (by omega)] at hσ'
    exfalso
    have : n = 0 := by
      rcases Nat.eq_zero_or_pos (σ - s.T.lens.length) with h0 | h0
      · rw [h0] at hσ';exact (Option.some.inj hσ').symm
      · rw [List.getElem?_eq_none (by simp;omega)] at hσ';cases hσ'
    omega
theorem SRun.len (h : SRun c q r m s) {σ : Nat} (hσ : σ ≤ q) : ∃ n : Int,s.T.lens[σ]? = some n ∧ s.T.len (σ : Int) = n ∧ 0 ≤ n ∧ n ≤ c.slots := by
  obtain ⟨hll,_⟩ := h.f.lens_last
  have hx : s.T.lens[σ]? = some s.T.lens[σ] := List.getElem?_eq_getElem (by omega)
  refine ⟨_,hx,?_,(h.f.read_in hx).2⟩
  unfold Tab.len
  rw [h.f.run.order,idx_upTo q σ hσ,if_pos (by omega),Int.toNat_natCast,hx]
  rfl
theorem SRun.read (h : SRun c q r m s) {σ i : Nat} (hσ : σ ≤ q) (hi : (i : Int) < s.T.len (σ : Int)) : ∃ lsn : Int,s.read (σ : Int) (i : Int) = .tuple #[(liveAt lsn bA ((σ : Int) * 100 + i)).value, .int .i64 0] := by
  obtain ⟨n,h1,h2,h3,h4⟩ := h.len hσ
  rw [h2] at hi
  obtain ⟨lsn,hl,hrd⟩ := h.st σ i n h1 hi
  have hsl := h.f.run.t.slots
  rw [h.f.run.slots] at hsl
  have hqlt := h.f.run.q_lt
  have hsg := h.f.run.t.segs
  rw [h.f.run.segs] at hsg
  refine ⟨lsn,?_⟩
  have hhas : s.has (σ : Int) (i : Int) := by
    unfold LSt.has
    rw [h.f.run.order,idx_upTo q σ hσ,h2]
    omega
  have hv : s.d.readV (secOf s.T.slots (σ : Int) (i : Int)) = (liveAt lsn bA ((σ : Int) * 100 + i)).sector := by
    have hin := mul_room c.segs c.slots (σ : Int) (i : Int) (by omega) (by omega) (by omega) (by omega) (by omega)
    unfold Dsk.readV secOf
    rw [h.f.run.slots,if_pos (by rw [h.f.run.n];exact hin)]
    exact hrd
  have hp := puts_live bA (by decide) ((σ : Int) * 100 + i) (by omega)
  have hd := decR_sector (r := liveAt lsn bA ((σ : Int) * 100 + i)) (hp.right lsn hl.1) (by
    obtain ⟨_,_,f3,f4,f5,f6,f7⟩ := hp.fits
    exact ⟨by show 0 ≤ lsn ∧ lsn < _;omega,by show (0 : Int) ≤ 1 ∧ (1 : Int) < _;omega,f3,f4,f5,f6,f7⟩)
  unfold LSt.read
  rw [if_pos hhas,hv]
  unfold decV
  rw [hd]
end
end Go.Proofs.YtidacaihmjdmkaaGreat
namespace Go.Proofs.YtidacaihmjdmkaaGreat
open Go.RowKit
structure Ent where
  seg : Nat
  slot : Nat
  lsn : Int
  rc : Rec
def Ent.back (e : Ent) : Rec := { e.rc with lsn := e.lsn,epoch := 1 }
structure Ent.In (c : Cnf) (q r : Nat) (s : LSt) (e : Ent) : Prop where
  puts : Puts e.rc
  lsn : 1 ≤ e.lsn ∧ e.lsn < s.lsn
  place : (e.seg < q ∧ (e.slot : Int) < c.slots) ∨ (e.seg = q ∧ e.slot < r)
  read : s.d.read (2 + (e.seg : Int) * (c.slots + 1) + e.slot) = e.back.sector
structure RRun (c : Cnf) (q r m : Nat) (s : LSt) (E : List Ent) : Prop where
  f : FRun c q r m s
  lens : s.T.lens = List.replicate q c.slots ++ [(r : Int)]
  len : (E.length : Int) = q * c.slots + r
  inn : ∀ e ∈ E,e.In c q r s
  up : E.Pairwise fun a b => a.lsn < b.lsn
section
variable {c : Cnf} {q r m : Nat} {s : LSt} {E : List Ent}
theorem up_app {E : List Ent} (h : E.Pairwise fun a b => a.lsn < b.lsn) (x : Ent) (hx : ∀ e ∈ E,e.lsn < x.lsn) : (E ++ [x]).Pairwise fun a b => a.lsn < b.lsn := by
  rw [List.pairwise_append]
  exact ⟨h,List.pairwise_singleton _ _,fun a ha b hb => by rw [List.mem_singleton.1 hb];exact hx a ha⟩
theorem last_of {q : Nat} {σ : Int} {r : Int} : (List.replicate q σ ++ [r]).set q (r + 1) = List.replicate q σ ++ [r + 1] := by
  rw [List.set_append_right _ _ (by simp),List.length_replicate,Nat.sub_self]
  rfl
theorem RRun.put (h : RRun c q r m s E) (hm : m ≤ 10000) {rc : Rec} (hp : Puts rc) (hr : (r : Int) < c.slots) : ∃ s',s.append 1 rc = (0,(q : Int),(r : Int),s') ∧ RRun c q (r + 1) (m + 1) s' (E ++ [⟨q,r,s.lsn,rc⟩]) := by
  have hsl := h.f.run.t.slots
  rw [h.f.run.slots] at hsl
  have hlsn := h.f.run.lsn
  obtain ⟨e1,g⟩ := h.f.g.put hm hp (by rw [h.f.run.last];exact hr)
  rw [h.f.run.open_,h.f.run.last] at e1
  obtain ⟨s2,e2,f2⟩ := h.f.put hm hp hr
  have es : s2 = _ := (congrArg (·.2.2.2) (e2.symm.trans e1))
  have hat : s.T.at_ = 2 + (q : Int) * (c.slots + 1) + r := h.f.run.at_
  refine ⟨s2,e2,f2,?_,?_,?_,up_app h.up _ fun e he => (h.inn e he).lsn.2⟩
  · rw [es]
    show s.T.lens.set (s.T.lens.length - 1) (s.T.last + 1) = _
    rw [h.f.lens_last.1,h.f.run.last,h.lens,show q + 1 - 1 = q from rfl,last_of]
    rfl
  · rw [List.length_append]
    have := h.len
    show ((E.length + 1 : Nat) : Int) = _
    omega
  · intro e he
    rw [es]
    rcases List.mem_append.1 he with he | he
    · have hi := h.inn e he
      refine ⟨hi.puts,⟨hi.lsn.1,by show e.lsn < s.lsn + 1;have := hi.lsn.2;omega⟩,?_,?_⟩
      · rcases hi.place with h1 | h1
        · exact .inl h1
        · exact .inr ⟨h1.1,by omega⟩
      · show (s.d.write s.T.at_ _).read _ = _
        rw [hat,read_there _ _ _ _ (fun x => by
          obtain ⟨x1,x2⟩ := place_inj (b := c.slots) (by omega) ⟨by omega,by omega⟩ ⟨by omega,by rcases hi.place with h1 | h1 <;> omega⟩ x
          rcases hi.place with h1 | h1 <;> omega)]
        exact hi.read
    · obtain rfl := List.mem_singleton.1 he
      refine ⟨hp,⟨by show 1 ≤ s.lsn;omega,by show s.lsn < s.lsn + 1;omega⟩, .inr ⟨rfl,Nat.lt_succ_self r⟩,?_⟩
      show (s.d.write s.T.at_ _).read (2 + (q : Int) * (c.slots + 1) + r) = _
      rw [hat,read_here]
      rfl
theorem RRun.roll (h : RRun c q r m s E) (hm : m ≤ 1000) {rc : Rec} (hp : Puts rc) (hr : (r : Int) = c.slots) (hq : ((q + 1 : Nat) : Int) < c.segs) : ∃ s',s.append 1 rc = (0,((q + 1 : Nat) : Int),((0 : Nat) : Int),s') ∧ RRun c (q + 1) 1 (m + 2) s' (E ++ [⟨q + 1,0,s.lsn + 1,rc⟩]) := by
  have hsl := h.f.run.t.slots
  rw [h.f.run.slots] at hsl
  have hlsn := h.f.run.lsn
  obtain ⟨l,hl⟩ := h.f.run.free hq
  obtain ⟨e1,g⟩ := h.f.g.roll (rc := rc) (by omega) hp (by rw [h.f.run.last];exact hr) hl
  obtain ⟨s2,e2,f2⟩ := h.f.roll hm hp hr hq
  have es : s2 = _ := (congrArg (·.2.2.2) (e2.symm.trans e1))
  have hat : s.T.at_ = 2 + (q : Int) * (c.slots + 1) + r := h.f.run.at_
  have hsg := h.f.run.t.segs
  rw [h.f.run.segs] at hsg
  have r1 := h.f.run.rolled (x := (footR s.lsn 1 ((q + 1 : Nat) : Int)).sector) hq (free_write s.d h.f.lim s.T.at_ (footR s.lsn 1 ((q + 1 : Nat) : Int)).sector h.f.run.at_in (Rec.sector_size (footR_right _ _ _ (by omega) (by omega)))).1 (by omega)
  have hat2 : (s.T.roll ((q + 1 : Nat) : Int) (s.lsn + 1)).at_ = 2 + ((q + 1 : Nat) : Int) * (c.slots + 1) + ((0 : Nat) : Int) := r1.at_
  refine ⟨s2,e2,f2,?_,?_,?_,up_app h.up _ fun e he => ?_⟩
  · rw [es]
    show ((s.T.lens ++ [0]).set ((s.T.lens ++ [0]).length - 1) ((s.T.roll _ _).last + 1)) = _
    rw [Tab.roll_last,List.length_append,List.length_singleton,Nat.add_sub_cancel,List.set_append_right _ _ (by omega),Nat.sub_self,h.lens,hr,List.replicate_succ',List.append_assoc,List.append_assoc]
    rfl
  · rw [List.length_append]
    have h1 := h.len
    have h2 : ((q + 1 : Nat) : Int) * c.slots = q * c.slots + c.slots := by rw [Int.natCast_add,Int.add_mul];simp
    show ((E.length + 1 : Nat) : Int) = _
    omega
  · intro e he
    rw [es]
    rcases List.mem_append.1 he with he | he
    · have hi := h.inn e he
      have hsq : e.seg ≤ q ∧ (e.slot : Int) < c.slots := by rcases hi.place with h1 | h1 <;> omega
      refine ⟨hi.puts,⟨hi.lsn.1,by show e.lsn < s.lsn + 1 + 1;have := hi.lsn.2;omega⟩, .inl ⟨by omega,hsq.2⟩,?_⟩
      show ((s.d.write s.T.at_ _).write (s.T.roll _ _).at_ _).read _ = _
      rw [hat2,read_there _ _ _ _ (fun x => by
        obtain ⟨x1,x2⟩ := place_inj (b := c.slots) (by omega) ⟨by omega,by omega⟩ ⟨by omega,by omega⟩ x
        omega),hat,read_there _ _ _ _ (fun x => by
        obtain ⟨x1,x2⟩ := place_inj (b := c.slots) (by omega) ⟨by omega,by omega⟩ ⟨by omega,by omega⟩ x
        omega)]
      exact hi.read
    · obtain rfl := List.mem_singleton.1 he
      refine ⟨hp,⟨by show 1 ≤ s.lsn + 1;omega,by show s.lsn + 1 < s.lsn + 1 + 1;omega⟩, .inr ⟨rfl,Nat.one_pos⟩,?_⟩
      show ((s.d.write s.T.at_ _).write (s.T.roll _ _).at_ _).read (2 + ((q + 1 : Nat) : Int) * (c.slots + 1) + ((0 : Nat) : Int)) = _
      rw [hat2,read_here]
      rfl
  · have := (h.inn e he).lsn.2
    show e.lsn < s.lsn + 1
    omega
theorem RRun.step (h : RRun c q r m s E) (hm : m ≤ 1000) (rc : Rec) (hf : rc.Fits) :
    ∃ (ae ag asl : Int) (q2 r2 m2 : Nat) (s2 : LSt) (E2 : List Ent),s.append 1 rc = (ae,ag,asl,s2) ∧ m2 ≤ m + 2 ∧ RRun c q2 r2 m2 s2 E2 ∧
      ((ae = 5 ∧ E2 = E) ∨ (ae = 10 ∧ E2 = E) ∨ (ae = 0 ∧ (rc.kind ≠ 3 ∧ ({ rc with lsn := 1 } : Rec).right = true ∧ s.T.room ≠ 0) ∧ ∃ e,E2 = E ++ [e] ∧ (e.seg : Int) = ag ∧ (e.slot : Int) = asl ∧ e.rc = rc)) := by
  have hok := h.f.g.ok (by omega)
  have hlsn := hok.lsn
  by_cases hk : rc.kind = 3
  · refine ⟨5,0,0,q,r,m,s,E,?_,by omega,h, .inl ⟨rfl,rfl⟩⟩
    unfold LSt.append
    rw [if_pos (.inl hk)]
  by_cases hR : ({ rc with lsn := 1,epoch := 1 } : Rec).right = true
  case neg =>
    have hx : (s.recOf 1 rc).right = false := by
      rcases Bool.eq_false_or_eq_true (s.recOf 1 rc).right with hx | hx
      · exact absurd (right_lsn rc s.lsn 1 hx (by omega) (by decide)) hR
      · exact hx
    refine ⟨5,0,0,q,r,m,s,E,?_,by omega,h, .inl ⟨rfl,rfl⟩⟩
    unfold LSt.append
    rw [if_pos (.inr hx)]
  have hp : Puts rc := puts_of hk hR hf
  by_cases hr : (r : Int) < c.slots
  · obtain ⟨s2,e2,h2⟩ := h.put (by omega) hp hr
    refine ⟨0,_,_,q,r + 1,m + 1,s2,_,e2,by omega,h2, .inr (.inr ⟨rfl,⟨hk,hR,fun h0 => ?_⟩,_,rfl,rfl,rfl,rfl⟩)⟩
    have := (h.f.run.room.1 h0).1
    omega
  have hrl := h.f.run.r_le
  by_cases hq : ((q + 1 : Nat) : Int) < c.segs
  · obtain ⟨s2,e2,h2⟩ := h.roll hm hp (by omega) hq
    refine ⟨0,_,_,q + 1,1,m + 2,s2,_,e2,by omega,h2, .inr (.inr ⟨rfl,⟨hk,hR,fun h0 => ?_⟩,_,rfl,rfl,rfl,rfl⟩)⟩
    have := (h.f.run.room.1 h0).2
    omega
  have hql := h.f.run.q_lt
  exact ⟨10,0,0,q,r,m,s,E,h.f.run.append_full (by omega) hp (by omega) (by omega),by omega,h, .inr (.inl ⟨rfl,rfl⟩)⟩
theorem RRun.read (h : RRun c q r m s E) (hm : m ≤ 10000) {e : Ent} (he : e ∈ E) : s.read (e.seg : Int) (e.slot : Int) = .tuple #[e.back.value, .int .i64 0] := by
  have hi := h.inn e he
  have hsl := h.f.run.t.slots
  rw [h.f.run.slots] at hsl
  have hqlt := h.f.run.q_lt
  have hrl := h.f.run.r_le
  have hlsn := h.f.run.lsn
  have hsg := h.f.run.t.segs
  rw [h.f.run.segs] at hsg
  have hsq : e.seg ≤ q ∧ (e.slot : Int) < c.slots := by rcases hi.place with h1 | h1 <;> omega
  have hl : ∃ n : Int,s.T.len (e.seg : Int) = n ∧ (e.slot : Int) < n := by
    unfold Tab.len
    rw [h.f.run.order,idx_upTo q e.seg hsq.1,if_pos (by omega),Int.toNat_natCast,h.lens]
    rcases hi.place with h1 | h1
    · refine ⟨_,rfl,?_⟩
      rw [List.getElem?_append_left (by simp;omega),List.getElem?_replicate,if_pos h1.1]
      exact h1.2
    · refine ⟨_,rfl,?_⟩
      rw [List.getElem?_append_right (by simp;omega),List.length_replicate,h1.1,Nat.sub_self]
      show (e.slot : Int) < (r : Int)
      omega
  obtain ⟨n,hn,hlt⟩ := hl
  have hhas : s.has (e.seg : Int) (e.slot : Int) := by
    unfold LSt.has
    rw [h.f.run.order,idx_upTo q e.seg hsq.1,hn]
    omega
  have hv : s.d.readV (secOf s.T.slots (e.seg : Int) (e.slot : Int)) = e.back.sector := by
    have hin := mul_room c.segs c.slots (e.seg : Int) (e.slot : Int) (by omega) (by omega) (by omega) (by omega) (by omega)
    unfold Dsk.readV secOf
    rw [h.f.run.slots,if_pos (by rw [h.f.run.n];exact hin)]
    exact hi.read
  have hl1 := hi.lsn
  have hd := decR_sector (r := e.back) (hi.puts.right e.lsn hl1.1) (by
    obtain ⟨_,_,f3,f4,f5,f6,f7⟩ := hi.puts.fits
    exact ⟨by show 0 ≤ e.lsn ∧ e.lsn < _;omega,by show (0 : Int) ≤ 1 ∧ (1 : Int) < _;omega,f3,f4,f5,f6,f7⟩)
  unfold LSt.read
  rw [if_pos hhas,hv]
  unfold decV
  rw [hd]
theorem RRun.many (h : RRun c q r m s E) (h1 : c.segs * c.slots ≤ 30) : E.length ≤ 30 := by
  have hq := h.f.run.q_lt
  have hrl := h.f.run.r_le
  have hl := h.len
  have e2 : ((q : Int) + 1) * c.slots ≤ c.segs * c.slots := Int.mul_le_mul_of_nonneg_right (by omega) (by have := h.f.run.t.slots;rw [h.f.run.slots] at this;omega)
  rw [Int.add_mul,Int.one_mul] at e2
  omega
end
end Go.Proofs.YtidacaihmjdmkaaGreat
namespace Go.Proofs.YtidacaihmjdmkaaGreat
open Go.RowKit
attribute [local go_sem high] run_mx run_mn
section
open Go.ChangeShapes Go.WideShapes Go.ChangeAt Go.Deep
variable {H : Type} {enc : TypeId × Value → H} {W : World} {b0 : Nat}
abbrev recForm : List (List Value → Prop) := [rdInt .u64,rdInt .u32,rdInt .i64,rdInt .u64,rdInt .u64,rdStr,rdStr]
theorem lt_u64 {n : Int} (h : (Lit.int .u64 n).wf = true) : 0 ≤ n ∧ n < 18446744073709551616 := by
  have := bounds_u64 h
  omega
theorem lt_u32 {n : Int} (h : (Lit.int .u32 n).wf = true) : 0 ≤ n ∧ n < 4294967296 := by
  have := bounds_u32 h
  omega
set_option maxRecDepth 100000 in
theorem rec_form {cs : List Value} (h : Parts recForm cs) : ∃ r : Rec,r.value = .agg cs.toArray ∧ r.Fits := by
  obtain ⟨_,_,rfl,⟨a,rfl,ha⟩,g1⟩ := h.cons
  obtain ⟨_,_,rfl,⟨b,rfl,hb⟩,g2⟩ := g1.cons
  obtain ⟨_,_,rfl,⟨c,rfl,hc⟩,g3⟩ := g2.cons
  obtain ⟨_,_,rfl,⟨e,rfl,he⟩,g4⟩ := g3.cons
  obtain ⟨_,_,rfl,⟨f,rfl,hf⟩,g5⟩ := g4.cons
  obtain ⟨_,_,rfl,⟨s,rfl,hs⟩,g6⟩ := g5.cons
  obtain ⟨_,_,rfl,⟨t,rfl,ht⟩,g7⟩ := g6.cons
  have g7 : _ = [] := g7
  subst g7
  exact ⟨⟨a,b,c,e,f,s,t⟩,rfl,lt_u64 ha,lt_u32 hb,bounds_i64 hc,lt_u64 he,lt_u64 hf,hs,ht⟩
set_option maxRecDepth 100000 in
theorem tr_rec : Rd enc Tryz.prog W 46 (Parts recForm) :=
  tr_struct Tryz.underlying46 (by kernel_rfl) ⟨rfl,tr_int Tryz.underlying43,by kernel_rfl,tr_int Tryz.underlying44,by kernel_rfl,tr_int Tryz.underlying3,by kernel_rfl,tr_int Tryz.underlying43,by kernel_rfl,tr_int Tryz.underlying43,by kernel_rfl,tr_str Tryz.underlying9,by kernel_rfl,tr_str Tryz.underlying9,trivial⟩
end
def cut80 (s : ByteArray) : ByteArray := s.extract 0 (min s.size 80)
def Rec.cut (r : Rec) : Rec := ⟨r.lsn,r.epoch,r.kind,r.ver,r.dl,cut80 r.id,cut80 r.val⟩
theorem Rec.cut_fits {r : Rec} (h : r.Fits) : r.cut.Fits :=
  ⟨h.lsn,h.epoch,h.kind,h.ver,h.dl,by show (ByteArray.extract _ _ _).size ≤ _;rw [ByteArray.size_extract];omega,by show (ByteArray.extract _ _ _).size ≤ _;rw [ByteArray.size_extract];omega⟩
set_option maxRecDepth 100000 in
set_option maxHeartbeats 4000000 in
theorem Cut_any (r : Rec) (w : World) : Calls Tryz.prog 66 #[r.value] w fun e w' => e = .returned r.cut.value ∧ Below w.heap.size w w' := by
  have m1 : (0 : Int) ≤ mn (r.id.size : Int) 80 := by rw [mn_def];omega
  have m2 : mn (r.id.size : Int) 80 ≤ (r.id.size : Int) := by rw [mn_def];omega
  have m3 : (0 : Int) ≤ mn (r.val.size : Int) 80 := by rw [mn_def];omega
  have m4 : mn (r.val.size : Int) 80 ≤ (r.val.size : Int) := by rw [mn_def];omega
  have e1 : (mn (r.id.size : Int) 80).toNat = min r.id.size 80 := by rw [mn_def];omega
  have e2 : (mn (r.val.size : Int) 80).toNat = min r.val.size 80 := by rw [mn_def];omega
  unfold Rec.cut cut80 Rec.value
  go_enter Tryz.func66,Tryz.ntmps66
  go_wp2_with fail
  have f1 : (min (r.id.size : Int) 80).toNat = min r.id.size 80 := by omega
  have f2 : (min (r.val.size : Int) 80).toNat = min r.val.size 80 := by omega
  rw [f1,f2]
  have h2 := Blk.new (w.alloc (.cells #[.int .u64 r.lsn, .int .u32 r.epoch, .int .i64 r.kind, .int .u64 r.ver, .int .u64 r.dl, .string (r.id.extract 0 (min r.id.size 80)), .string (r.val.extract 0 (min r.val.size 80))] 46)) 46 #[.int .u64 r.lsn, .int .u32 r.epoch, .int .i64 r.kind, .int .u64 r.ver, .int .u64 r.dl, .string (r.id.extract 0 (min r.id.size 80)), .string (r.val.extract 0 (min r.val.size 80))]
  refine bodyPost_ret (v := .agg #[.int .u64 r.lsn, .int .u32 r.epoch, .int .i64 r.kind, .int .u64 r.ver, .int .u64 r.dl, .string (r.id.extract 0 (min r.id.size 80)), .string (r.val.extract 0 (min r.val.size 80))]) ?_ rfl ⟨rfl,((Below.refl _ _).alloc (Nat.le_refl _) _).alloc (by simp) _⟩
  exact results_cell_row rfl _ _ _ _ _ (0,0) _ (by simp) h2 Tryz.underlying46 rfl (by kernel_rfl)
set_option maxRecDepth 100000 in
set_option maxHeartbeats 4000000 in
theorem Ref_any (r : Rec) (w : World) : Calls Tryz.prog 68 #[r.value] w fun e w' => e = .returned r.value ∧ Below w.heap.size w w' := by
  unfold Rec.value
  go_enter Tryz.func68,Tryz.ntmps68
  go_wp2_with fail
  have h2 := Blk.new (w.alloc (.cells #[.int .u64 r.lsn, .int .u32 r.epoch, .int .i64 r.kind, .int .u64 r.ver, .int .u64 r.dl, .string r.id, .string r.val] 46)) 118 #[.int .u64 r.lsn, .int .u32 r.epoch, .int .i64 r.kind, .int .u64 r.ver, .int .u64 r.dl, .string r.id, .string r.val]
  refine bodyPost_ret (v := .agg #[.int .u64 r.lsn, .int .u32 r.epoch, .int .i64 r.kind, .int .u64 r.ver, .int .u64 r.dl, .string r.id, .string r.val]) ?_ rfl ⟨rfl,((Below.refl _ _).alloc (Nat.le_refl _) _).alloc (by simp) _⟩
  exact results_cell_row rfl _ _ _ _ _ (0,0) _ (by simp) h2 Tryz.underlying118 rfl (by kernel_rfl)
end Go.Proofs.YtidacaihmjdmkaaGreat
namespace Go.Proofs.YtidacaihmjdmkaaGreat
open Go.RowKit
attribute [local go_sem high] run_mx run_mn
def LSt.ck (s : LSt) (epoch ver : Int) : Int × LSt := ((ckDo s.d s.gen ⟨(s.T.chk (s.gen + 1) epoch s.lsn ver).enc.toArray⟩).1,⟨s.T,s.lsn,(ckDo s.d s.gen ⟨(s.T.chk (s.gen + 1) epoch s.lsn ver).enc.toArray⟩).2.1,(ckDo s.d s.gen ⟨(s.T.chk (s.gen + 1) epoch s.lsn ver).enc.toArray⟩).2.2⟩)
def LSt.drop (s : LSt) (epoch seg ver : Int) : Int × LSt :=
  if idx s.T.order seg < 0 ∨ idx s.T.order seg = (s.T.order.length - 1 : Nat) then (1,s)
  else LSt.ck ⟨s.T.drop (idx s.T.order seg).toNat,s.lsn,s.gen,s.d⟩ epoch ver
structure LSt.Fine (s : LSt) (k : Nat) : Prop where
  t : s.T.Ok
  lsn : 1 ≤ s.lsn ∧ s.lsn + 2 * k < 1000000
  gen : 0 ≤ s.gen ∧ s.gen + k < 1000000
  pend : s.d.pend.length + 2 * k ≤ 100000
section
variable {s : LSt} {k : Nat}
theorem LSt.Fine.ok (h : s.Fine k) : s.Ok := ⟨h.t,by have := h.lsn;omega,by have := h.gen;omega,by have := h.pend;omega⟩
theorem LSt.Fine.sealOk (h : s.Fine (k + 1)) (epoch : Int) : (s.seal epoch).2.Ok := seal_ok h.ok epoch (by have := h.lsn;omega) (by have := h.pend;omega)
theorem LSt.Fine.le (h : s.Fine (k + 1)) : s.Fine k := ⟨h.t,by have := h.lsn;omega,by have := h.gen;omega,by have := h.pend;omega⟩
theorem ck_grow (d : Dsk) (gen : Int) (x : ByteArray) : (gen ≤ (ckDo d gen x).2.1 ∧ (ckDo d gen x).2.1 ≤ gen + 1) ∧ (ckDo d gen x).2.2.pend.length ≤ d.pend.length + 1 := by
  have h1 := flush_pend d
  have h2 := write_pend d.flushS ((gen + 1) % 2) x
  have h3 := flush_pend (d.flushS.writeS ((gen + 1) % 2) x)
  unfold ckDo
  split
  · exact ⟨⟨Int.le_refl _,by show gen ≤ gen + 1;omega⟩,by show d.pend.length ≤ _;omega⟩
  split
  · exact ⟨⟨Int.le_refl _,by show gen ≤ gen + 1;omega⟩,by show d.flushS.pend.length ≤ _;omega⟩
  split
  · exact ⟨⟨Int.le_refl _,by show gen ≤ gen + 1;omega⟩,by show (d.flushS.writeS _ _).pend.length ≤ _;omega⟩
  · exact ⟨⟨by show gen ≤ gen + 1;omega,Int.le_refl _⟩,by show ((d.flushS.writeS _ _).flushS).pend.length ≤ _;omega⟩
theorem LSt.Fine.ck (h : s.Fine (k + 1)) (epoch ver : Int) : (s.ck epoch ver).2.Fine k := by
  have hg := ck_grow s.d s.gen ⟨(s.T.chk (s.gen + 1) epoch s.lsn ver).enc.toArray⟩
  have h1 := h.lsn
  have h2 := h.gen
  have h3 := h.pend
  refine ⟨h.t,?_,?_,?_⟩
  · show 1 ≤ s.lsn ∧ s.lsn + 2 * k < 1000000
    omega
  · show 0 ≤ (ckDo _ _ _).2.1 ∧ (ckDo _ _ _).2.1 + k < 1000000
    omega
  · show (ckDo _ _ _).2.2.pend.length + 2 * k ≤ 100000
    omega
theorem drop_place (hT : s.T.Ok) {seg : Int} (hn : ¬ (idx s.T.order seg < 0 ∨ idx s.T.order seg = (s.T.order.length - 1 : Nat))) : (idx s.T.order seg).toNat + 1 < s.T.order.length ∧ idx s.T.order seg = ((idx s.T.order seg).toNat : Nat) := by
  have hp := hT.pos
  have h0 : 0 ≤ idx s.T.order seg := by omega
  have h1 := idx_some h0
  obtain ⟨h2,_⟩ := List.getElem?_eq_some_iff.1 h1
  omega
theorem LSt.Fine.drop (h : s.Fine (k + 1)) (epoch seg ver : Int) : (s.drop epoch seg ver).2.Fine k := by
  unfold LSt.drop
  split
  · exact h.le
  · rename_i hn
    refine LSt.Fine.ck (s := ⟨s.T.drop (idx s.T.order seg).toNat,s.lsn,s.gen,s.d⟩) ⟨s.T.drop_ok h.t _ (drop_place h.t hn).1,h.lsn,h.gen,h.pend⟩ epoch ver
theorem LSt.Fine.seal (h : s.Fine (k + 1)) (epoch : Int) : (s.seal epoch).2.T.Ok ∧ (1 ≤ (s.seal epoch).2.lsn ∧ (s.seal epoch).2.lsn + 1 + 2 * k < 1000000) ∧ (0 ≤ (s.seal epoch).2.gen ∧ (s.seal epoch).2.gen + k < 1000000) ∧ (s.seal epoch).2.d.pend.length + 1 + 2 * k ≤ 100000 := by
  have h1 := h.lsn
  have h2 := h.gen
  have h3 := h.pend
  refine ⟨(h.sealOk epoch).t,?_⟩
  unfold LSt.seal
  split
  · exact ⟨⟨h1.1,by show s.lsn + 1 + 2 * k < _;omega⟩,⟨h2.1,by show s.gen + k < _;omega⟩,by show s.d.pend.length + 1 + 2 * k ≤ _;omega⟩
  split
  · rename_i f l hf he
    have h4 := write_pend s.d s.T.at_ (footR s.lsn epoch f).sector
    exact ⟨⟨by show 1 ≤ s.lsn + 1;omega,by show s.lsn + 1 + 1 + 2 * k < _;omega⟩,⟨h2.1,by show s.gen + k < _;omega⟩,by show (s.d.writeS _ _).pend.length + 1 + 2 * k ≤ _;omega⟩
  · exact ⟨⟨h1.1,by show s.lsn + 1 + 2 * k < _;omega⟩,⟨h2.1,by show s.gen + k < _;omega⟩,by show s.d.pend.length + 1 + 2 * k ≤ _;omega⟩
theorem LSt.Fine.sealed (h : s.Fine (k + 1)) (epoch : Int) : (s.seal epoch).2.Fine k := by
  obtain ⟨h1,h2,h3,h4⟩ := h.seal epoch
  exact ⟨h1,by omega,h3,by omega⟩
theorem put_fine {s : LSt} {k : Nat} (hT : s.T.Ok) (hl : 1 ≤ s.lsn ∧ s.lsn + 1 + 2 * k < 1000000) (hg : 0 ≤ s.gen ∧ s.gen + k < 1000000) (hp : s.d.pend.length + 1 + 2 * k ≤ 100000) (hr : s.T.last < s.T.slots) (epoch : Int) (rc : Rec) : (s.put epoch rc).2.2.2.Fine k := by
  unfold LSt.put
  split
  · have h4 := write_pend s.d s.T.at_ (s.recOf epoch rc).sector
    exact ⟨s.T.count_ok hT hr,⟨by show 1 ≤ s.lsn + 1;omega,by show s.lsn + 1 + 2 * k < _;omega⟩,hg,by show (s.d.writeS _ _).pend.length + 2 * k ≤ _;omega⟩
  · exact ⟨hT,⟨hl.1,by show s.lsn + 2 * k < _;omega⟩,hg,by show s.d.pend.length + 2 * k ≤ _;omega⟩
theorem LSt.Fine.append (h : s.Fine (k + 1)) (epoch : Int) (rc : Rec) : (s.append epoch rc).2.2.2.Fine k := by
  unfold LSt.append
  split
  · exact h.le
  split
  · exact h.le
  split
  · split
    · rename_i hz
      obtain ⟨h1,h2,h3,h4⟩ := h.seal epoch
      have hsl := h1.slots
      exact put_fine h1 h2 h3 h4 (by rw [seal_last hz];omega) epoch rc
    · exact h.sealed epoch
  · rename_i hn
    have h1 := h.lsn
    have h2 := h.gen
    have h3 := h.pend
    have h5 := h.t.last
    exact put_fine h.t ⟨h1.1,by omega⟩ ⟨h2.1,by omega⟩ (by omega) (by omega) epoch rc
end
structure Opn where
  kind : Int
  r : Rec
  n : Int
  ver : Int
abbrev Opn.cells (o : Opn) : Array Value := #[.int .i64 o.kind, .int .u64 o.r.lsn, .int .u32 o.r.epoch, .int .i64 o.r.kind, .int .u64 o.r.ver, .int .u64 o.r.dl, .string o.r.id, .string o.r.val, .int .i64 o.n, .int .u64 o.ver]
structure Opn.Wf (o : Opn) : Prop where
  r : o.r.Fits
  n : -9223372036854775808 ≤ o.n ∧ o.n ≤ 9223372036854775807
  ver : 0 ≤ o.ver ∧ o.ver < 18446744073709551616
def LSt.act (s : LSt) (epoch : Int) (o : Opn) : Int × Int × Int × LSt :=
  if bits BinOp.and IntKind.i64 o.kind 7 = 0 then ((s.seal epoch).1,0,0,(s.seal epoch).2)
  else if bits BinOp.and IntKind.i64 o.kind 7 = 1 then ((s.drop epoch o.n o.ver).1,0,0,(s.drop epoch o.n o.ver).2)
  else if bits BinOp.and IntKind.i64 o.kind 7 = 2 then ((s.ck epoch o.ver).1,0,0,(s.ck epoch o.ver).2)
  else s.append epoch o.r.cut
theorem LSt.Fine.act {s : LSt} {k : Nat} (h : s.Fine (k + 1)) (epoch : Int) (o : Opn) : (s.act epoch o).2.2.2.Fine k := by
  unfold LSt.act
  split
  · exact h.sealed epoch
  split
  · exact h.drop epoch _ _
  split
  · exact h.ck epoch _
  · exact h.append epoch _
theorem LDrop_any {s : LSt} (hs : s.Ok) (hp : s.d.pend.length ≤ 100000) (g gd : Nat) (epoch : Int) (he : 0 ≤ epoch ∧ epoch < 4294967296) (seg ver : Int) (hv : 0 ≤ ver ∧ ver < 18446744073709551616) (AO : Option Addr) (cO : Nat) (AL : Option Addr) (cL : Nat) (AF : Option Addr) (cF : Nat)
    {S0 : Nat → Prop} {w0 w : World} {L : List Thing} (hS : Now S0 w0 w (s.parts g gd epoch AO cO AL cL AF cF ++ L)) :
    Calls Tryz.prog 59 #[.pointer (some ⟨g,0,none⟩), .int .i64 seg, .int .u64 ver] w fun e w' => e = .returned (.int .i64 (s.drop epoch seg ver).1) ∧ GotLog S0 w0 w' (s.drop epoch seg ver).2 g gd epoch L := by
  have hl := hs.lsn
  have hg := hs.gen
  unfold LSt.drop
  by_cases hb : idx s.T.order seg < 0 ∨ idx s.T.order seg = (s.T.order.length - 1 : Nat)
  · rw [if_pos hb]
    exact (LDrop_bad g gd s.T hs.t AO cO AL cL AF cF s.lsn epoch s.gen seg ver s.d hb hS).mono fun e w' h => ⟨h.1,AO,cO,AL,cL,AF,cF,h.2⟩
  · rw [if_neg hb]
    obtain ⟨h1,h2⟩ := drop_place hs.t hb
    exact LDrop_ok g gd s.T hs.t AO cO AL cL AF cF s.lsn epoch s.gen seg ver s.d (by omega) ⟨hl.1,by omega⟩ he ⟨hg.1,by omega⟩ hv _ h2 h1 hS
theorem Ck_any {s : LSt} (hs : s.Ok) (g gd : Nat) (epoch : Int) (he : 0 ≤ epoch ∧ epoch < 4294967296) (ver : Int) (hv : 0 ≤ ver ∧ ver < 18446744073709551616) (AO : Option Addr) (cO : Nat) (AL : Option Addr) (cL : Nat) (AF : Option Addr) (cF : Nat)
    {S0 : Nat → Prop} {w0 w : World} {L : List Thing} (hS : Now S0 w0 w (s.parts g gd epoch AO cO AL cL AF cF ++ L)) :
    Calls Tryz.prog 65 #[.pointer (some ⟨g,0,none⟩), .int .u64 ver] w fun e w' => e = .returned (.int .i64 (s.ck epoch ver).1) ∧ GotLog S0 w0 w' (s.ck epoch ver).2 g gd epoch L := by
  have hl := hs.lsn
  have hg := hs.gen
  have hp := hs.pend
  exact (Checkpoint_any g gd s.T hs.t AO cO AL cL AF cF s.lsn epoch s.gen ver s.d (by omega) ⟨hl.1,by omega⟩ he ⟨hg.1,by omega⟩ hv hS).mono fun e w' h => ⟨h.1,AO,cO,AL,cL,AF,cF,h.2⟩
end Go.Proofs.YtidacaihmjdmkaaGreat
namespace Go.Proofs.YtidacaihmjdmkaaGreat
open Go.RowKit
attribute [local go_sem high] run_mx run_mn
theorem RDsk.flush_no (r : RDsk) (h : r.flushE ≠ 0) : r.flushS = r := by
  unfold RDsk.flushE at h
  unfold RDsk.flushS
  by_cases h0 : r.left = 0
  · rw [if_pos h0]
  · rw [if_neg h0] at h;exact absurd rfl h
set_option maxHeartbeats 8000000 in
theorem RCk_any {s : LSt} (hs : s.Ok) (r : RDsk) (hRl : Rel s.d r) (g gd : Nat) (epoch : Int) (he : 0 ≤ epoch ∧ epoch < 4294967296) (ver : Int) (hv : 0 ≤ ver ∧ ver < 18446744073709551616) (AO : Option Addr) (cO : Nat) (AL : Option Addr) (cL : Nat) (AF : Option Addr) (cF : Nat)
    {S0 : Nat → Prop} {w0 w : World} {L : List Thing} (hS : Now S0 w0 w (rlogParts g gd s.T AO cO AL cL AF cF s.lsn epoch s.gen r ++ L)) :
    Calls Tryz.prog 62 #[.pointer (some ⟨g,0,none⟩), .int .u64 ver] w fun e w' => e = .returned (.int .i64 (s.ck epoch ver).1) ∧ GotR S0 w0 w' (s.ck epoch ver).2 g gd epoch L := by
  obtain ⟨T,lsn,gen,d⟩ := s
  have hT : T.Ok := hs.t
  have hl : 1 ≤ lsn ∧ lsn < 1000000 := hs.lsn
  have hg : 0 ≤ gen ∧ gen < 1000000 := hs.gen
  have hp : d.pend.length ≤ 100000 := hs.pend
  have hRl : Rel d r := hRl
  have hR := T.chk_right hT (gen + 1) epoch lsn ver (by omega) (by omega)
  have hNm : (T.chk (gen + 1) epoch lsn ver).Nums := ⟨⟨by show 0 ≤ gen + 1;omega,by show gen + 1 < _;omega⟩,he,⟨by show 0 ≤ lsn;omega,by show lsn < _;omega⟩,hv⟩
  obtain ⟨SC,hSC⟩ : ∃ SC,(⟨(T.chk (gen + 1) epoch lsn ver).enc.toArray⟩ : ByteArray) = SC := ⟨_,rfl⟩
  have hE := fun v (hv : ChkIn v v.heap.size (T.chk (gen + 1) epoch lsn ver) AO AL) => REnc7 (T.chk (gen + 1) epoch lsn ver) hR hNm AO cO AL cL v hv
  unfold LSt.ck
  dsimp only at hS ⊢
  rw [hSC] at hE ⊢
  have r1 := hRl.flush
  have r2 := r1.2.write ((gen + 1) % 2) SC
  have r3 := r2.2.flush
  have p1 := flushS_len d
  have p2 := writeS_len d.flushS ((gen + 1) % 2) SC
  have l1 := RFlush_all gd r (hRl.fits (by omega)) hRl.ins
  have l2 := RWrite_all gd r.flushS ((gen + 1) % 2) SC (r1.2.fits (by omega))
  have l3 := RFlush_all gd (r.flushS.writeS ((gen + 1) % 2) SC) (r2.2.fits (by omega)) r2.2.ins
  have s1 := r.flush_no
  have s2 : r.flushS.writeE ((gen + 1) % 2) SC ≠ 0 → r.flushS.writeS ((gen + 1) % 2) SC = r.flushS := fun h => by unfold RDsk.writeS;rw [if_neg h]
  have s3 := (r.flushS.writeS ((gen + 1) % 2) SC).flush_no
  have hck : ∃ e2 g2 D r',ckDo d gen SC = (e2,g2,D) ∧ Rel D r' ∧
      ((r.flushE ≠ 0 ∧ e2 = r.flushE ∧ g2 = gen ∧ r' = r) ∨
       (r.flushE = 0 ∧ r.flushS.writeE ((gen + 1) % 2) SC ≠ 0 ∧ e2 = r.flushS.writeE ((gen + 1) % 2) SC ∧ g2 = gen ∧ r' = r.flushS) ∨
       (r.flushE = 0 ∧ r.flushS.writeE ((gen + 1) % 2) SC = 0 ∧ (r.flushS.writeS ((gen + 1) % 2) SC).flushE ≠ 0 ∧ e2 = (r.flushS.writeS ((gen + 1) % 2) SC).flushE ∧ g2 = gen ∧ r' = r.flushS.writeS ((gen + 1) % 2) SC) ∨
       (r.flushE = 0 ∧ r.flushS.writeE ((gen + 1) % 2) SC = 0 ∧ (r.flushS.writeS ((gen + 1) % 2) SC).flushE = 0 ∧ e2 = 0 ∧ g2 = gen + 1 ∧ r' = (r.flushS.writeS ((gen + 1) % 2) SC).flushS)) := by
    unfold ckDo
    rw [r1.1,r2.1,r3.1]
    by_cases z1 : r.flushE = 0
    case neg => exact ⟨_,_,_,r,if_pos z1,hRl, .inl ⟨z1,rfl,rfl,rfl⟩⟩
    rw [if_neg (fun h => h z1)]
    by_cases z2 : r.flushS.writeE ((gen + 1) % 2) SC = 0
    case neg => exact ⟨_,_,_,r.flushS,if_pos z2,r1.2, .inr (.inl ⟨z1,z2,rfl,rfl,rfl⟩)⟩
    rw [if_neg (fun h => h z2)]
    by_cases z3 : (r.flushS.writeS ((gen + 1) % 2) SC).flushE = 0
    case neg => exact ⟨_,_,_,_,if_pos z3,r2.2, .inr (.inr (.inl ⟨z1,z2,z3,rfl,rfl,rfl⟩))⟩
    rw [if_neg (fun h => h z3)]
    exact ⟨_,_,_,_,rfl,r3.2, .inr (.inr (.inr ⟨z1,z2,z3,rfl,rfl,rfl⟩))⟩
  obtain ⟨e2,g2,D,r',hck,hRD,hcase⟩ := hck
  rw [hck]
  clear hck r1 r2 r3 p1 p2 hRl hs
  generalize (r.flushS.writeS ((gen + 1) % 2) SC).flushS = ρ3 at *
  generalize (r.flushS.writeS ((gen + 1) % 2) SC).flushE = ε3 at *
  generalize r.flushS.writeS ((gen + 1) % 2) SC = ρ2 at *
  generalize r.flushS.writeE ((gen + 1) % 2) SC = ε2 at *
  generalize r.flushS = ρ1 at *
  generalize r.flushE = ε1 at *
  have hlog := Now.blk (pre:=[]) hS
  have c0 : _ = some (Value.pointer (some ⟨gd,0,none⟩)) := hlog.cell 0
  have hf1 := fun v (h : Now S0 w0 v (rlogParts g gd T AO cO AL cL AF cF lsn epoch gen r ++ L)) => Loc.atZ l1 [_,_,_,_] L h
  have hf2 := fun v (h : Now S0 w0 v (rlogParts g gd T AO cO AL cL AF cF lsn epoch gen ρ1 ++ L)) => Loc.atZ l2 [_,_,_,_] L h
  have hf3 := fun v (h : Now S0 w0 v (rlogParts g gd T AO cO AL cL AF cF lsn epoch gen ρ2 ++ L)) => Loc.atZ l3 [_,_,_,_] L h
  clear hlog l1 l2 l3 hSC hR hNm
  have hg1 : IntKind.u64.wrap (gen + 1) = gen + 1 := IntWalk.u64_in _ (by omega)
  have m1 : (gen + 1).tmod 2 = (gen + 1) % 2 := Int.tmod_eq_emod_of_nonneg (by omega)
  have m2 : IntKind.u64.wrap ((gen + 1) % 2) = (gen + 1) % 2 := IntWalk.u64_in _ (by omega)
  have m3 : IntKind.i64.wrap ((gen + 1) % 2) = (gen + 1) % 2 := IntWalk.i64_in _ (by omega)
  have hux : (gen + 1) % 18446744073709551616 = gen + 1 := Int.emod_eq_of_lt (by omega) (by omega)
  by_cases z1 : ε1 = 0
  case neg =>
    obtain ⟨rfl,rfl,rfl⟩ : e2 = ε1 ∧ g2 = gen ∧ r' = r := by
      rcases hcase with ⟨_,h⟩ | ⟨h,_⟩ | ⟨h,_⟩ | ⟨h,_⟩
      · exact h
      · exact absurd h z1
      · exact absurd h z1
      · exact absurd h z1
    have n1 : (e2 == 0) = false := beq_eq_false_iff_ne.2 z1
    rw [s1 z1] at hf1
    clear hcase hf2 hf3 hE
    go_enter Tryz.func62,Tryz.ntmps62
    go_wp2_with (go_at_call 121;have h' := hf1 _ hS;clear hf1 hS c0;(with_reducible refine h'.mono ?_);clear h';rintro e w1 ⟨rfl,_,hS⟩)
    go_ret
    exact ⟨rfl,r',_,_,_,_,_,_,hRD,hS⟩
  subst z1
  go_enter Tryz.func62,Tryz.ntmps62
  go_wp2_with (go_at_call 121;have h' := hf1 _ hS;clear hf1 hS c0;(with_reducible refine h'.mono ?_);clear h';rintro e w1 ⟨rfl,_,hS⟩)
  have hlog := Now.blk (pre:=[]) hS
  have htab := tabIn_of (pre:=[_]) hS
  have hcell : ∀ v,Newer w1.drew v → v.cell? ⟨g,8,none⟩ = some (.int .u64 gen) ∧ v.cell? ⟨g,7,none⟩ = some (.int .u32 epoch) ∧ v.cell? ⟨g,6,none⟩ = some (.int .u64 lsn) ∧ v.cell? ⟨g,3,none⟩ = some (.slice AO T.order.length cO) ∧ v.cell? ⟨g,4,none⟩ = some (.slice AL T.lens.length cL) := fun v hv => by
    have hb1 := hlog.below hv.undrew hlog.lt
    exact ⟨hb1.cell 8,hb1.cell 7,hb1.cell 6,hb1.cell 3,hb1.cell 4⟩
  have hE2 : ∀ v,Newer w1.drew v → Calls Tryz.prog 122 #[.agg #[.int .u64 (gen + 1), .int .u32 epoch, .int .u64 lsn, .int .u64 ver, .slice AO T.order.length cO, .slice AL T.lens.length cL]] v fun e w' => e = .returned (.tuple #[.string SC, .int .i64 0]) ∧ Newer v w' := fun v hv =>
    hE v ⟨((htab.below hv.undrew).more hv.size).o,((htab.below hv.undrew).more hv.size).l⟩
  replace hS := hS.drew
  clear hlog htab hE
  refine wp_region_ord Newer.grow [(0,true),(1,true),(2,true),(3,true),(4,true),(5,true),(6,true),(7,true),(8,true),(9,true),(10,true),(11,true),(12,true),(13,true),(14,true),(15,true),(16,true),(17,true),(18,true),(19,true),(20,true),(21,true),(22,true),(23,true),(24,true),(25,true),(26,true),(27,true),(28,true),(29,true),(30,true)] [] (by kernel_rfl) (by kernel_rfl) rfl (by kernel_rfl) (by intro _ _ d _ _ h;cases d <;> exact h) ?_
  iterate 31
    (apply wpOrd_take
     · exact rfl
     · intro w1 h1
       (obtain ⟨c8,c7,c6,c3,c4⟩ := hcell _ h1)
       go_simp
       first
         | with_reducible exact ⟨rfl,sqN _⟩
         | with_reducible exact hE2 _ h1
     simp only [Act.put,sqA,sqB,sqC])
  refine wpOrd_done fun w3 h3 => ?_
  replace hS := Now.below hS h3
  clear h3 hcell hE2
  go_wp2_with fail
  have hlog := Now.blk (pre:=[]) hS
  have HB : g < w3.drew.heap.size := hlog.lt
  have hcell : ∀ v,KeepG g w3.drew v → v.cell? ⟨g,0,none⟩ = some (.pointer (some ⟨gd,0,none⟩)) ∧ v.cell? ⟨g,8,none⟩ = some (.int .u64 gen) := fun v hv => by
    have hb1 := KeepG.blk (w := w3.drew) hv hlog
    exact ⟨hb1.cell 0,hb1.cell 8⟩
  replace hS := hS.drew
  clear hlog
  refine wp_region_takes (KeepG.grow g) [] [(0,false),(1,false),(2,false),(3,false),(4,false),(5,false),(6,false),(7,false),(8,false),(9,false),(10,false),(11,false)] 2 (by kernel_rfl) (by kernel_rfl) rfl (by kernel_rfl) (by intro _ _ d _ _ h;cases d <;> exact h) ?_
  iterate 12
    (apply wpTakes_take
     · exact rfl
     · intro w1v hR1
       (obtain ⟨d0,d8⟩ := hcell _ hR1)
       go_simp
       first
         | with_reducible exact ⟨rfl,sqN _⟩
     simp only [Act.put,sqA,sqB,sqC])
  refine wpTakes_done ?_
  clear hcell HB
  generalize w3.drew = wc at hS ⊢
  refine wpAnyE_fork [12] (by kernel_rfl) (by simp) ?_
  refine sqM ?_
  refine ⟨_,rfl,?_⟩
  intro w1 h1 K hK
  replace hS := Now.below hS h1
  have hwr := hf2 _ hS
  go_simp
  go_at_call 24
  refine hwr.mono ?_
  rintro e w8 ⟨rfl,hz,hS9⟩
  refine hK _ _ (fun _ _ => ⟨(Now.blk (pre:=[]) hS9).trans (Now.blk (pre:=[]) hS).symm,hz⟩) ?_
  clear hK K hwr hS hz h1 hf2
  clear w1
  try simp only [Act.put,sqA,sqB,sqC]
  apply wpAnyE_pure (KeepG.grow g) 13
  · kernel_rfl
  · intro _ _ d _ _ h;cases d <;> exact h
  · exact rfl
  · kernel_rfl
  · intro w1
    go_simp
    exact ⟨rfl,sqN _⟩
  try simp only [Act.put,sqA,sqB,sqC]
  refine wpAnyE_end (by kernel_rfl) fun w10 h10 => ?_
  have hS := Now.below hS9 h10
  clear h10 hS9
  by_cases z2 : ε2 = 0
  case neg =>
    obtain ⟨rfl,rfl,rfl⟩ : e2 = ε2 ∧ g2 = gen ∧ r' = ρ1 := by
      rcases hcase with ⟨h,_⟩ | ⟨_,_,h⟩ | ⟨_,h,_⟩ | ⟨_,h,_⟩
      · exact absurd rfl h
      · exact h
      · exact absurd h z2
      · exact absurd h z2
    have n2 : (e2 == 0) = false := beq_eq_false_iff_ne.2 z2
    replace hS : Now S0 w0 w10 (rlogParts g gd T AO cO AL cL AF cF lsn epoch g2 r' ++ L) := by
      have h := hS
      rw [s2 z2] at h
      exact h
    clear hcase hf3
    go_wp2_with fail
    go_ret
    exact ⟨rfl,r',_,_,_,_,_,_,hRD,hS⟩
  subst z2
  replace hS : Now S0 w0 w10 (rlogParts g gd T AO cO AL cL AF cF lsn epoch gen ρ2 ++ L) := hS
  have c0 : w10.cell? ⟨g,0,none⟩ = some (Value.pointer (some ⟨gd,0,none⟩)) := (Now.blk (pre:=[]) hS).cell 0
  by_cases z3 : ε3 = 0
  case neg =>
    obtain ⟨rfl,rfl,rfl⟩ : e2 = ε3 ∧ g2 = gen ∧ r' = ρ2 := by
      rcases hcase with ⟨h,_⟩ | ⟨_,h,_⟩ | ⟨_,_,_,h⟩ | ⟨_,_,h,_⟩
      · exact absurd rfl h
      · exact absurd rfl h
      · exact h
      · exact absurd h z3
    have n3 : (e2 == 0) = false := beq_eq_false_iff_ne.2 z3
    rw [s3 z3] at hf3
    clear hcase
    go_wp2_with (go_at_call 121;have h' := hf3 _ hS;clear hf3 hS c0;(with_reducible refine h'.mono ?_);clear h';rintro e w11 ⟨rfl,_,hS⟩)
    go_ret
    exact ⟨rfl,r',_,_,_,_,_,_,hRD,hS⟩
  subst z3
  obtain ⟨rfl,rfl,rfl⟩ : e2 = 0 ∧ g2 = gen + 1 ∧ r' = ρ3 := by
    rcases hcase with ⟨h,_⟩ | ⟨_,h,_⟩ | ⟨_,_,h,_⟩ | ⟨_,_,_,h⟩
    · exact absurd rfl h
    · exact absurd rfl h
    · exact absurd rfl h
    · exact h
  clear hcase
  go_wp2_with (go_at_call 121;have h' := hf3 _ hS;clear hf3 hS c0;(with_reducible refine h'.mono ?_);clear h';rintro e w11 ⟨rfl,_,hS⟩;have hlog := Now.blk (pre:=[]) hS;have c8 : w11.cell? ⟨g,8,none⟩ = some (.int .u64 gen) := hlog.cell 8;have f8 := hlog.frozen 8;clear hlog;replace hS := Lib.hid (Now.set_ (pre:=[]) hS 8 (.int .u64 (gen + 1))))
  go_ret
  exact ⟨rfl,r',_,_,_,_,_,_,hRD,hS.out⟩
end Go.Proofs.YtidacaihmjdmkaaGreat
