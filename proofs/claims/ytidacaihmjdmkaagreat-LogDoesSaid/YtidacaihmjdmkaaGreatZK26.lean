/- What the laws of this seat lean on, part 26. -/
import Derived.Test.YtidacaihmjdmkaaGreatZK25
import Derived.Test.YtidacaihmjdmkaaGreatZK20
import Derived.Test.YtidacaihmjdmkaaGreatZK16
import Derived.Test.YtidacaihmjdmkaaGreatZK23
import Derived.Test.YtidacaihmjdmkaaGreatZK22
import Derived.Test.YtidacaihmjdmkaaGreatZK9
set_option linter.unusedSimpArgs false
set_option linter.unusedVariables false
set_option maxRecDepth 100000
namespace Go.Proofs.YtidacaihmjdmkaaGreat
open Go.RowKit
attribute [local go_sem high] run_mx run_mn
theorem RReadN_bad (h : Nat) (r : RDsk) (i : Int) (hi : ¬ (0 ≤ i ∧ i < r.L.length)) :
    ∀ (w : World) (S : Nat → Prop),(refT h r).is w S → Calls Tryz.prog 70 #[.pointer (some ⟨h,0,none⟩), .int .i64 i] w fun e w' => e = .returned (.tuple #[.string ⟨#[]⟩, .int .i64 1]) ∧ w = w' := by
  intro w S hO
  obtain ⟨vL,vW,vX,hN⟩ := (Now.start1 hO).refOpen
  obtain ⟨c0,c1,c2,c3,cf⟩ := hN.refCells
  obtain ⟨⟨A,c,rfl,_⟩,_⟩ := hN.refRows
  have HN := Lib.hid hN
  clear hN c1 c2 c3 cf hO
  by_cases h0 : i < 0
  · go_enter Tryz.func70,Tryz.ntmps70
    go_wp2
    go_ret2
    exact ⟨rfl,rfl⟩
  · have h1 : (r.L.length : Int) ≤ i := by omega
    clear hi
    go_enter Tryz.func70,Tryz.ntmps70
    go_wp2
    go_ret2
    exact ⟨rfl,rfl⟩
set_option maxRecDepth 100000 in
set_option maxHeartbeats 1600000 in
theorem RReadN_ok (h : Nat) (r : RDsk) (i : Int) (hr : r.Fits) (hi : 0 ≤ i ∧ i < r.L.length) :
    ∀ (w : World) (S : Nat → Prop),(refT h r).is w S → Calls Tryz.prog 70 #[.pointer (some ⟨h,0,none⟩), .int .i64 i] w fun e w' => e = .returned (.tuple #[.string (readTo r.L r.pend i r.pend.length), .int .i64 0]) ∧ w = w' := by
  intro w S hO
  obtain ⟨vL,vW,vX,hN⟩ := (Now.start1 hO).refOpen
  obtain ⟨c0,c1,c2,c3,cf⟩ := hN.refCells
  obtain ⟨⟨AL,cL,rfl,rd0⟩,⟨AW,cW,rfl,rd1⟩,⟨AX,cX,rfl,rd2⟩⟩ := hN.refRows
  obtain ⟨q,rfl⟩ : ∃ q : Nat,i = q := ⟨i.toNat,by omega⟩
  have hql : q < r.L.length := by omega
  obtain ⟨ad,rfl,g0⟩ := reads_cell (u := .string r.L[q]) rd0 hql (by rw [List.getElem?_map,List.getElem?_eq_getElem hql];rfl)
  have hq1 : (q : Int) < (r.L.length : Int) := by omega
  have hst : readTo r.L r.pend (q : Int) 0 = r.L[q] := by show (r.L[((q : Int)).toNat]?).getD zeros = _;rw [Int.toNat_natCast,List.getElem?_eq_getElem hql];rfl
  have hp := hr.pend
  have hlen := hr.len
  have HST := Lib.hid hst
  have HN := Lib.hid hN
  have HR1 := Lib.hid rd1
  have HR2 := Lib.hid rd2
  generalize r.L[q] = s0 at *
  clear hN cf hO c3 hr rd0 rd1 rd2 hst hi
  go_enter Tryz.func70,Tryz.ntmps70
  go_wp2
  clear c0 g0
  go_loop [6,7] (fun s i => ∃ k : Nat,k ≤ r.pend.length ∧ i = .int .i64 k ∧ s = .string (readTo r.L r.pend (q : Int) k)) (fun _ i => r.pend.length - (intOf i).toNat)
  case atStart => exact ⟨0,by omega,rfl,by rw [HST.out]⟩
  case round =>
    obtain ⟨k,hk,rfl,rfl⟩ := hrel
    by_cases hlt : k < r.pend.length
    · have hpk : r.pend[k]? = some r.pend[k] := List.getElem?_eq_getElem hlt
      obtain ⟨adW,rfl,g1⟩ := reads_cell (u := .int .i64 r.pend[k].1) HR1.out hlt (by rw [List.getElem?_map,hpk];rfl)
      obtain ⟨adX,rfl,g2⟩ := reads_cell (u := .string r.pend[k].2) HR2.out hlt (by rw [List.getElem?_map,hpk];rfl)
      have hs : readTo r.L r.pend (q : Int) (k + 1) = if r.pend[k].1 = (q : Int) then r.pend[k].2 else readTo r.L r.pend (q : Int) k := by
        show (match r.pend[k]? with | some p => _ | none => _) = _
        rw [hpk]
      have HS := Lib.hid hs
      clear hs hpk
      generalize r.pend[k] = p at *
      by_cases hx : p.1 = (q : Int)
      · have hx1 : p.1 ≤ (q : Int) := by omega
        have hx2 : (q : Int) ≤ p.1 := by omega
        have HX := Lib.hid hx
        clear hx
        go_wp2
        go_round
        case rel => exact ⟨k + 1,by omega,by go_num,by rw [HS.out,if_pos HX.out]⟩
        case measure => simp [intOf];omega
      · go_wp2
        go_round
        case rel => exact ⟨k + 1,by omega,by go_num,by rw [HS.out,if_neg hx]⟩
        case measure => simp [intOf];omega
    · obtain rfl : k = r.pend.length := by omega
      go_wp2
      go_ret2
      exact ⟨rfl,rfl⟩
theorem RReadN (h : Nat) (r : RDsk) (i : Int) (hr : r.Fits) : ∀ (w : World) (S : Nat → Prop),(refT h r).is w S → Calls Tryz.prog 70 #[.pointer (some ⟨h,0,none⟩), .int .i64 i] w fun e w' => e = .returned (.tuple #[.string (r.readV i), .int .i64 (r.readE i)]) ∧ w = w' := by
  unfold RDsk.readV RDsk.readE
  by_cases hi : 0 ≤ i ∧ i < r.L.length
  · rw [if_pos hi,if_pos hi];exact RReadN_ok h r i hr hi
  · rw [if_neg hi,if_neg hi];exact RReadN_bad h r i hi
theorem Thing.newer (T : Thing) {w w' : World} {S : Nat → Prop} (h : T.is w S) (hw : Newer w w') : T.is w' S :=
  T.keep h (Fr.of_below hw) (fun k hk hn => absurd (T.lt h hk) (Nat.not_lt.2 hn))
set_option maxRecDepth 100000 in
set_option maxHeartbeats 4000000 in
theorem SameN (g h : Nat) (d : Dsk) (r : RDsk) (hR : Rel d r) (hp : d.pend.length ≤ 1000000000) (w : World) (SD SR : Nat → Prop) (hD : (dskT g d).is w SD) (hO : (refT h r).is w SR) :
    Calls Tryz.prog 20 #[.pointer (some ⟨g,0,none⟩), .pointer (some ⟨h,0,none⟩)] w fun e w' => e = .returned (.int .i64 1) ∧ Newer w w' := by
  have hF := hR.fits hp
  have hlen := hR.len
  have HD := Lib.hid hD
  have HO := Lib.hid hO
  clear hD hO
  go_enter Tryz.func20,Tryz.ntmps20
  go_wp2
  go_loopw [5] (fun i wr => ∃ k : Nat,k ≤ r.L.length ∧ i = .int .i64 k ∧ Newer w wr) (fun i _ => r.L.length - (intOf i).toNat)
  case atStart => exact ⟨0,by omega,rfl,Newer.refl _⟩
  case round =>
    obtain ⟨k,hk,rfl,hN⟩ := hrel
    have h1 := (refT h r).newer HO.out hN
    have hd1 := (dskT g d).newer HD.out hN
    obtain ⟨vL,vW,vX,hP⟩ := (Now.start1 h1).refOpen
    obtain ⟨c0,_⟩ := hP.refCells
    obtain ⟨⟨AL,cL,rfl,_⟩,_⟩ := hP.refRows
    clear hP
    by_cases hlt : k < r.L.length ∧ k < 64
    · obtain ⟨hlt,hlt2⟩ := hlt
      have e1 : d.readE k = 0 := by unfold Dsk.readE;rw [if_pos (by rw [hR.n];omega)]
      obtain ⟨e2,e3⟩ := hR.read k
      have r1 := NRead g d k hp wr SD hd1
      have r2 := fun v (hv : Newer w v) => RReadN h r k hF v SR ((refT h r).newer HO.out hv)
      rw [← e2, ← e3,e1] at r2
      rw [e1] at r1
      generalize d.readV (k : Int) = s at r1 r2
      clear e1 e2 e3 hR hF h1 hd1
      go_wp2_with (first
        | (go_at_call 57;with_reducible refine r1.mono ?_;rintro e w1 ⟨rfl,hB⟩;have hN1 := hN.trans hB;clear r1 c0 hB)
        | (go_at_call 70;with_reducible refine (r2 _ hN1).mono ?_;rintro e w2 ⟨rfl,rfl⟩;clear r2))
      go_roundw
      case rel => exact ⟨k + 1,by omega,by go_num,hN1⟩
      case measure => simp [intOf];omega
    · have hgd : (k < r.L.length ∧ ¬ k < 64) ∨ ¬ k < r.L.length := by omega
      clear hlt hd1 h1
      rcases hgd with ⟨h1,h2⟩ | h1
      all_goals
        go_wp2
        go_ret
        exact ⟨rfl,hN⟩
end Go.Proofs.YtidacaihmjdmkaaGreat
namespace Go.Proofs.YtidacaihmjdmkaaGreat
open Go.RowKit
section
open Go.ChangeShapes Go.WideShapes Go.ChangeAt Go.Deep
variable {H : Type} {enc : TypeId × Value → H} {W : World} {b0 : Nat}
abbrev op9Form : List (List Value → Prop) := [rdInt .i64,Parts recForm,rdInt .i64,rdInt .u64]
set_option maxRecDepth 100000 in
theorem tr_op9 : Rd enc Tryz.prog W 48 (Parts op9Form) :=
  tr_struct Tryz.underlying48 (by kernel_rfl) ⟨rfl,tr_int Tryz.underlying3,by kernel_rfl,tr_rec,by kernel_rfl,tr_int Tryz.underlying3,by kernel_rfl,tr_int Tryz.underlying43,trivial⟩
end
theorem op9_form {cs : List Value} (h : Parts op9Form cs) : ∃ o : Opn,cs = o.cells.toList ∧ o.Wf := by
  obtain ⟨_,_,rfl,⟨k,rfl,_⟩,g1⟩ := h.cons
  obtain ⟨a,_,rfl,hr,g2⟩ := g1.cons
  obtain ⟨_,_,rfl,⟨n,rfl,hn⟩,g3⟩ := g2.cons
  obtain ⟨_,_,rfl,⟨ver,rfl,hv⟩,g4⟩ := g3.cons
  have g4 : _ = [] := g4
  subst g4
  obtain ⟨r,he,hf⟩ := rec_form hr
  have ha : a = [.int .u64 r.lsn, .int .u32 r.epoch, .int .i64 r.kind, .int .u64 r.ver, .int .u64 r.dl, .string r.id, .string r.val] := (congrArg Array.toList (Value.agg.inj he)).symm
  subst ha
  exact ⟨⟨k,r,n,ver⟩,rfl,hf,bounds_i64 hn,lt_u64 hv⟩
theorem op10 {W w : World} {L : List Thing} {ad : Addr} {k : Nat} {o : Opn} (hN : Sep W w L) (hb : ad.block < W.heap.size) (hc : ∀ q,q < 10 → W.cell? (ad.add (k * 10 + q)) = o.cells.toList[q]?) :
    w.cell? (ad.add (k * 10)) = some (.int .i64 o.kind) ∧ w.cell? ⟨(ad.add (k * 10)).block,(ad.add (k * 10)).off + 1,none⟩ = some (.int .u64 o.r.lsn) ∧ w.cell? ⟨(ad.add (k * 10)).block,(ad.add (k * 10)).off + 2,none⟩ = some (.int .u32 o.r.epoch) ∧ w.cell? ⟨(ad.add (k * 10)).block,(ad.add (k * 10)).off + 3,none⟩ = some (.int .i64 o.r.kind) ∧ w.cell? ⟨(ad.add (k * 10)).block,(ad.add (k * 10)).off + 4,none⟩ = some (.int .u64 o.r.ver) ∧ w.cell? ⟨(ad.add (k * 10)).block,(ad.add (k * 10)).off + 5,none⟩ = some (.int .u64 o.r.dl) ∧ w.cell? ⟨(ad.add (k * 10)).block,(ad.add (k * 10)).off + 6,none⟩ = some (.string o.r.id) ∧ w.cell? ⟨(ad.add (k * 10)).block,(ad.add (k * 10)).off + 7,none⟩ = some (.string o.r.val) ∧ w.cell? ⟨(ad.add (k * 10)).block,(ad.add (k * 10)).off + 8,none⟩ = some (.int .i64 o.n) ∧ w.cell? ⟨(ad.add (k * 10)).block,(ad.add (k * 10)).off + 9,none⟩ = some (.int .u64 o.ver) := by
  have hw : ∀ q,q < 10 → w.cell? ((ad.add (k * 10)).add q) = o.cells.toList[q]? := fun q hq => by
    rw [add_of_add]
    exact ((Sep.base hN).cell (by rw [block_of_add];exact hb)).trans (hc q hq)
  refine ⟨?_,cell_off (hw 1 (by omega)),cell_off (hw 2 (by omega)),cell_off (hw 3 (by omega)),cell_off (hw 4 (by omega)),cell_off (hw 5 (by omega)),cell_off (hw 6 (by omega)),cell_off (hw 7 (by omega)),cell_off (hw 8 (by omega)),cell_off (hw 9 (by omega))⟩
  have := hw 0 (by omega)
  rwa [show (ad.add (k * 10)).add 0 = ad.add (k * 10) from rfl] at this
theorem somes {S0 : Nat → Prop} {w0 w : World} {s : LSt} (hT : s.T.Ok) {g gd : Nat} {ep : Int} {A1 : Option Addr} {k1 : Nat} {A2 : Option Addr} {k2 : Nat} {A3 : Option Addr} {k3 : Nat} {L : List Thing} (hS : Now S0 w0 w (s.parts g gd ep A1 k1 A2 k2 A3 k3 ++ L)) : ∃ t1 t2 t3,A1 = some t1 ∧ A2 = some t2 ∧ A3 = some t3 := by
  have hpos := hT.pos
  have hll := hT.len
  have hfs := hT.fst
  obtain ⟨t1,e1,_⟩ := (Reads.of_own (Now.row (pre:=[_]) hS)).2 (by omega)
  obtain ⟨t2,e2,_⟩ := (Reads.of_own (Now.row (pre:=[_,_]) hS)).2 (show 0 < s.T.lens.length by omega)
  obtain ⟨t3,e3,_⟩ := (Reads.of_own (Now.row (pre:=[_,_,_]) hS)).2 (show 0 < s.T.firsts.length by omega)
  exact ⟨t1,t2,t3,e1,e2,e3⟩
end Go.Proofs.YtidacaihmjdmkaaGreat
