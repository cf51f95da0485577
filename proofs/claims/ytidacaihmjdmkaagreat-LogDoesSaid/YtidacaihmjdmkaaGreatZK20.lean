/- What the laws of this seat lean on, part 20. -/
import Derived.Test.YtidacaihmjdmkaaGreatZK10
import Derived.Test.YtidacaihmjdmkaaGreatZK4
import Derived.Test.YtidacaihmjdmkaaGreatZK19
import Derived.Test.YtidacaihmjdmkaaGreatZK12
set_option linter.unusedSimpArgs false
set_option linter.unusedVariables false
set_option maxRecDepth 100000
namespace Go.Proofs.YtidacaihmjdmkaaGreat
def stepS (i : Int) (bs : List Bool) (t a : Int) (j : Nat) (p : Int × ByteArray) (cur : ByteArray) : ByteArray :=
  if p.1 = i then (if bs[j]? = some true then p.2 else if (j : Int) = t then mix p.2 cur (cutAt a) else cur) else cur
theorem holds_do (d : Dsk) (p : Int × ByteArray) (i : Int) : (d.do_ p).holds i = if p.1 = i then p.2 else d.holds i := by
  show (if i = p.1 then some p.2 else d.held i).getD zeros = _
  by_cases h : p.1 = i
  · rw [if_pos h,if_pos h.symm];rfl
  · rw [if_neg h,if_neg (fun e => h e.symm)];rfl
theorem holds_crash1 (d : Dsk) (bs : List Bool) (t a : Int) (j : Nat) (p : Int × ByteArray) (i : Int) : (d.crash1 bs t a j p).holds i = stepS i bs t a j p (d.holds i) := by
  unfold Dsk.crash1 stepS
  by_cases hb : bs[j]? = some true
  · rw [if_pos hb,holds_do]
    by_cases h : p.1 = i
    · rw [if_pos h,if_pos h,if_pos hb]
    · rw [if_neg h,if_neg h]
  · rw [if_neg hb]
    by_cases ht : (j : Int) = t
    · rw [if_pos ht]
      unfold Dsk.tear
      rw [holds_do]
      by_cases h : p.1 = i
      · rw [if_pos h,if_pos h,if_neg hb,if_pos ht,h]
      · rw [if_neg h,if_neg h]
    · rw [if_neg ht]
      by_cases h : p.1 = i
      · rw [if_pos h,if_neg hb,if_neg ht]
      · rw [if_neg h]
theorem holds_crashTo (d : Dsk) (bs : List Bool) (t a : Int) (l : List (Int × ByteArray)) (k : Nat) (i : Int) {p : Int × ByteArray} (hp : l[k]? = some p) :
    (d.crashTo bs t a l (k + 1)).holds i = stepS i bs t a k p ((d.crashTo bs t a l k).holds i) := by
  rw [← holds_crash1]
  show (match l[k]? with | some p => (d.crashTo bs t a l k).crash1 bs t a k p | none => d.crashTo bs t a l k).holds i = _
  rw [hp]
theorem holds_crash (d : Dsk) (bs : List Bool) (t a : Int) (i : Int) : (d.crash bs t a).holds i = (d.crashTo bs t a d.pend d.pend.length).holds i := rfl
theorem crash_n (d : Dsk) (bs : List Bool) (t a : Int) : (d.crash bs t a).n = d.n := (Dsk.crashTo_kept d bs t a d.pend d.pend.length).2
end Go.Proofs.YtidacaihmjdmkaaGreat
namespace Go.Proofs.YtidacaihmjdmkaaGreat
open Go.RowKit
attribute [local go_sem high] run_mx run_mn
set_option maxRecDepth 100000 in
theorem RFlush_dead (h : Nat) (r : RDsk) (hr : r.Fits) (hl : r.left = 0) : Loc Tryz.prog 121 #[.pointer (some ⟨h,0,none⟩)] (refT h r) (.int .i64 9) (refT h r) := by
  intro w S hO
  have hu := Ruse_any h r hr.hi hr.lo w S hO
  have e1 : decide (r.left ≠ 0) = false := by simp [hl]
  have e2 : r.use = r := by unfold RDsk.use;rw [if_neg (by omega)]
  rw [e1,e2] at hu
  clear hO hr hl e1 e2
  go_enter Tryz.func121,Tryz.ntmps121
  go_wp2_with (go_at_call 73;refine hu.mono ?_;rintro e w1 ⟨rfl,hN1⟩;clear hu)
  go_ret
  exact ⟨rfl,hN1⟩
theorem RFlush_all (h : Nat) (r : RDsk) (hr : r.Fits) (hin : r.Ins) : Loc Tryz.prog 121 #[.pointer (some ⟨h,0,none⟩)] (refT h r) (.int .i64 r.flushE) (refT h r.flushS) := by
  unfold RDsk.flushE RDsk.flushS
  by_cases hl : r.left = 0
  · rw [if_pos hl,if_pos hl];exact RFlush_dead h r hr hl
  · rw [if_neg hl,if_neg hl];exact RFlush_ok h r hr hin hl
def RDsk.readE (r : RDsk) (i : Int) : Int := if 0 ≤ i ∧ i < r.L.length then 0 else 1
def readTo (L : List ByteArray) (pd : List (Int × ByteArray)) (i : Int) : Nat → ByteArray
  | 0 => L[i.toNat]?.getD zeros
  | k + 1 => match pd[k]? with
    | some p => if p.1 = i then p.2 else readTo L pd i k
    | none => readTo L pd i k
def RDsk.readV (r : RDsk) (i : Int) : ByteArray := if 0 ≤ i ∧ i < r.L.length then readTo r.L r.pend i r.pend.length else ⟨#[]⟩
theorem RRead_bad (h : Nat) (r : RDsk) (i : Int) (hi : ¬ (0 ≤ i ∧ i < r.L.length)) :
    Loc Tryz.prog 70 #[.pointer (some ⟨h,0,none⟩), .int .i64 i] (refT h r) (.tuple #[.string ⟨#[]⟩, .int .i64 1]) (refT h r) := by
  intro w S hO
  obtain ⟨vL,vW,vX,hN⟩ := (Now.start1 hO).refOpen
  obtain ⟨c0,c1,c2,c3,cf⟩ := hN.refCells
  obtain ⟨⟨A,c,rfl,_⟩,_⟩ := hN.refRows
  have HN := Lib.hid hN
  clear hN c1 c2 c3 cf hO
  by_cases h0 : i < 0
  · go_enter Tryz.func70,Tryz.ntmps70
    go_wp2
    go_ret2
    exact ⟨rfl,HN.out.refClose⟩
  · have h1 : (r.L.length : Int) ≤ i := by omega
    clear hi
    go_enter Tryz.func70,Tryz.ntmps70
    go_wp2
    go_ret2
    exact ⟨rfl,HN.out.refClose⟩
set_option maxRecDepth 100000 in
set_option maxHeartbeats 1600000 in
theorem RRead_ok (h : Nat) (r : RDsk) (i : Int) (hr : r.Fits) (hi : 0 ≤ i ∧ i < r.L.length) :
    Loc Tryz.prog 70 #[.pointer (some ⟨h,0,none⟩), .int .i64 i] (refT h r) (.tuple #[.string (readTo r.L r.pend i r.pend.length), .int .i64 0]) (refT h r) := by
  intro w S hO
  obtain ⟨vL,vW,vX,hN⟩ := (Now.start1 hO).refOpen
  obtain ⟨c0,c1,c2,c3,cf⟩ := hN.refCells
  obtain ⟨⟨AL,cL,rfl,rd0⟩,⟨AW,cW,rfl,rd1⟩,⟨AX,cX,rfl,rd2⟩⟩ := hN.refRows
  obtain ⟨q,rfl⟩ : ∃ q : Nat,i = q := ⟨i.toNat,by omega⟩
  have hql : q < r.L.length := by omega
  obtain ⟨ad,rfl,g0⟩ := reads_cell (u := .string r.L[q]) rd0 hql (by rw [List.getElem?_map,List.getElem?_eq_getElem hql];rfl)
  have hq1 : (q : Int) < (r.L.length : Int) := by omega
  have hst : readTo r.L r.pend (q : Int) 0 = r.L[q] := by show (r.L[((q : Int)).toNat]?).getD zeros = _;rw [Int.toNat_natCast,List.getElem?_eq_getElem hql];rfl
  have hp := hr.pend
  have hlen := hr.len
  have HST := Lib.hid hst
  have HN := Lib.hid hN
  have HR1 := Lib.hid rd1
  have HR2 := Lib.hid rd2
  generalize r.L[q] = s0 at *
  clear hN cf hO c3 hr rd0 rd1 rd2 hst hi
  go_enter Tryz.func70,Tryz.ntmps70
  go_wp2
  clear c0 g0
  go_loop [6,7] (fun s i => ∃ k : Nat,k ≤ r.pend.length ∧ i = .int .i64 k ∧ s = .string (readTo r.L r.pend (q : Int) k)) (fun _ i => r.pend.length - (intOf i).toNat)
  case atStart => exact ⟨0,by omega,rfl,by rw [HST.out]⟩
  case round =>
    obtain ⟨k,hk,rfl,rfl⟩ := hrel
    by_cases hlt : k < r.pend.length
    · have hpk : r.pend[k]? = some r.pend[k] := List.getElem?_eq_getElem hlt
      obtain ⟨adW,rfl,g1⟩ := reads_cell (u := .int .i64 r.pend[k].1) HR1.out hlt (by rw [List.getElem?_map,hpk];rfl)
      obtain ⟨adX,rfl,g2⟩ := reads_cell (u := .string r.pend[k].2) HR2.out hlt (by rw [List.getElem?_map,hpk];rfl)
      have hs : readTo r.L r.pend (q : Int) (k + 1) = if r.pend[k].1 = (q : Int) then r.pend[k].2 else readTo r.L r.pend (q : Int) k := by
        show (match r.pend[k]? with | some p => _ | none => _) = _
        rw [hpk]
      have HS := Lib.hid hs
      clear hs hpk
      generalize r.pend[k] = p at *
      by_cases hx : p.1 = (q : Int)
      · have hx1 : p.1 ≤ (q : Int) := by omega
        have hx2 : (q : Int) ≤ p.1 := by omega
        have HX := Lib.hid hx
        clear hx
        go_wp2
        go_round
        case rel => exact ⟨k + 1,by omega,by go_num,by rw [HS.out,if_pos HX.out]⟩
        case measure => simp [intOf];omega
      · go_wp2
        go_round
        case rel => exact ⟨k + 1,by omega,by go_num,by rw [HS.out,if_neg hx]⟩
        case measure => simp [intOf];omega
    · obtain rfl : k = r.pend.length := by omega
      go_wp2
      go_ret2
      exact ⟨rfl,HN.out.refClose⟩
theorem RRead_all (h : Nat) (r : RDsk) (i : Int) (hr : r.Fits) : Loc Tryz.prog 70 #[.pointer (some ⟨h,0,none⟩), .int .i64 i] (refT h r) (.tuple #[.string (r.readV i), .int .i64 (r.readE i)]) (refT h r) := by
  unfold RDsk.readV RDsk.readE
  by_cases hi : 0 ≤ i ∧ i < r.L.length
  · rw [if_pos hi,if_pos hi];exact RRead_ok h r i hr hi
  · rw [if_neg hi,if_neg hi];exact RRead_bad h r i hi
theorem RNew_bad (n : Int) (w : World) (hn : n < 1 ∨ 4096 < n) :
    Calls Tryz.prog 13 #[.int .i64 n] w fun e w' => e = .returned (.tuple #[.pointer none, .int .i64 1]) ∧ w = w' := by
  by_cases h1 : n < 1
  · go_enter Tryz.func13,Tryz.ntmps13
    go_wp2
    go_ret2
    exact ⟨rfl,rfl⟩
  · have h2 : 4096 < n := by omega
    go_enter Tryz.func13,Tryz.ntmps13
    go_wp2
    go_ret2
    exact ⟨rfl,rfl⟩
def newRef (n : Nat) : RDsk := ⟨List.replicate n zeros,[], -1⟩
theorem strs_succ (k : Nat) : strs (List.replicate (k + 1) zeros) = strs (List.replicate k zeros) ++ [.string zeros] := by
  unfold strs;rw [List.replicate_succ',List.map_append];rfl
set_option maxRecDepth 100000 in
set_option maxHeartbeats 1600000 in
theorem RNew_ok (n : Nat) (w : World) (hn : 1 ≤ n) (hn2 : n ≤ 4096) :
    Calls Tryz.prog 13 #[.int .i64 n] w fun e w' => ∃ h,e = .returned (.tuple #[.pointer (some ⟨h,0,none⟩), .int .i64 0]) ∧ Now (fun _ => False) w w' [refT h (newRef n)] := by
  obtain ⟨j0,hj0,hy0,hy1,hy2⟩ := info_parts infoStr5
  have hN0 : Now (fun _ => False) w (w.alloc (.cells #[.slice none 0 0, .slice none 0 0, .slice none 0 0, .int .i64 (-1)] 53)) (refParts w.heap.size (.slice none 0 0) (.slice none 0 0) (.slice none 0 0) [] [] (-1)) :=
    ((((Sep.start w).pushNil 9 1).pushNil 3 1).pushNil 9 1).pushCells 53 _
  go_enter Tryz.func13,Tryz.ntmps13
  go_wp2_with (go_at_call 54;with_reducible refine (Zero_any _).mono ?_;rintro e w3 ⟨rfl,rfl⟩)
  obtain ⟨h,hh⟩ : ∃ h,w.heap.size = h := ⟨_,rfl⟩
  rw [hh] at hN0 ⊢
  have HH := Lib.hid hh
  clear hh
  go_loopw [6] (fun i wr => ∃ (k : Nat) (vL : Value),k ≤ n ∧ i = .int .i64 k ∧ Now (fun _ => False) w wr (refParts h vL (.slice none 0 0) (.slice none 0 0) (List.replicate k zeros) [] (-1))) (fun i _ => n - (intOf i).toNat)
  case atStart => exact ⟨0,_,by omega,rfl,hN0⟩
  case round =>
    clear hN0
    obtain ⟨k,vL,hk,rfl,hN⟩ := hrel
    by_cases hlt : k < n
    · unfold refParts at hN
      rw [List.length_replicate] at hN
      have hrow := Now.row (pre:=[_]) hN
      obtain ⟨A,c,rfl,_⟩ := own_slice hrow
      have hb := Now.blk (pre:=[]) hN
      have c0 : wr.cell? ⟨h,0,none⟩ = some (.slice A k c) := hb.cell 0
      have f0 := hb.frozen 0
      have hm1 : k + 1 ≤ maxLen := by unfold maxLen;omega
      have hm2 : (k + 1) * 16 ≤ 140737488355328 := by omega
      have hks := Lib.hid (strs_succ k)
      clear hb
      go_wp2_with (at_builtin;refine wpList_app1 _ rfl _ _ 50 rfl 0 9 Tryz.underlying50 hj0 hy0 hy1 hy2 rfl hrow rfl rfl rfl hm1 hm2 (Nat.zero_le _) ?_;intro v2 w2 ho hg hn';obtain ⟨A2,c2,rfl,_⟩ := own_slice ho;have hN2 := Now.grown (pre:=[_]) hN ho hg (hn'.imp id fun h => ⟨_,by omega,h⟩);have hb2 := Now.blk (pre:=[]) hN2;have c0 : w2.cell? ⟨h,0,none⟩ = some (.slice A k c) := hb2.cell 0;have f0 := hb2.frozen 0;have hN3 := Now.set_ (pre:=[]) hN2 0 (.slice A2 (k + 1) c2);have HN := Lib.hid hN3;clear hN hN2 hN3 hb2 hrow ho hg hn')
      go_roundw
      case rel =>
        refine ⟨k + 1, .slice A2 (k + 1) c2,by omega,by go_num,?_⟩
        have := HN.out
        show Now _ w _ [_,Thing.row _ 1 _ (List.replicate (k + 1) zeros).length (strs (List.replicate (k + 1) zeros)),_,_]
        rw [hks.out,List.length_replicate]
        exact this
      case measure => simp [intOf];omega
    · obtain rfl : k = n := by omega
      have HN := Lib.hid hN
      clear hN
      go_wp2
      go_ret2
      exact ⟨h,rfl,HN.out.refClose⟩
end Go.Proofs.YtidacaihmjdmkaaGreat
namespace Go.Proofs.YtidacaihmjdmkaaGreat
open Go.RowKit
def feet (w : World) (l : List (Nat × Dsk)) (k : Nat) : Prop := ∃ p ∈ l, ∃ b v,DskAt w p.1 b v p.2 ∧ foot p.1 b v k
structure Turn (w w' : World) (l l' : List (Nat × Dsk)) : Prop where
  fr : Fr (feet w l) w w'
  new : ∀ k,feet w' l' k → feet w l k ∨ w.heap.size ≤ k
section
variable {B : Nat} {W w w' w'' : World} {l l' l'' pre post : List (Nat × Dsk)} {g : Nat} {d d' : Dsk}
theorem DskAt.same {b b' : Nat} {v v' : Value} (h : DskAt w g b v d) (h' : DskAt w g b' v' d') : b = b' ∧ v = v' := by
  have h1 := h.blk
  have h2 := h'.blk
  unfold Blk at h1 h2
  rw [h1] at h2
  simp only [Option.some.injEq,Obj.cells.injEq] at h2
  have h3 := h2.1
  simp at h3
  exact ⟨h3.2.2.2.1,h3.2.2.2.2⟩
theorem feet_lt {k : Nat} (h : feet w l k) : k < w.heap.size := by
  obtain ⟨p,_,b,v,hD,hk⟩ := h
  exact hD.lt hk
theorem feet_keep (h : Disks B W w l) {S : Nat → Prop} (hF : Fr S w w') (hS : ∀ k,feet w l k → ¬ S k) {k : Nat} (hk : feet w' l k) : feet w l k := by
  obtain ⟨L,e,h1,h2,h3,h4,h5⟩ := h
  obtain ⟨p,hp,b,v,hD,hk⟩ := hk
  have hp' := hp
  rw [← e] at hp'
  obtain ⟨t,ht,rfl⟩ := List.mem_map.1 hp'
  have ht1 := h1 t ht
  have ht2 := DskAt.keep ht1 hF (fun k hk => hS k ⟨(t.g,t.d),hp,t.b,t.v,ht1,hk⟩)
  obtain ⟨rfl,rfl⟩ := DskAt.same ht2 hD
  exact ⟨(t.g,t.d),hp,t.b,t.v,ht1,hk⟩
theorem Disks.kept (h : Disks B W w l) {S : Nat → Prop} (hF : Fr S w w') (hS : ∀ k,feet w l k → ¬ S k) (hB : ∀ k,k < w.heap.size → S k → B ≤ k) : Disks B W w' l :=
  h.fr hF hB (fun L h1 e s hs k hk => hS k ⟨(s.g,s.d),by rw [← e];exact List.mem_map_of_mem hs,s.b,s.v,h1 s hs,hk⟩)
theorem Turn.below (h : Disks B W w l) (hb : Below w.heap.size w w') : Turn w w' l l :=
  ⟨Fr.of_below hb,fun _ hk => .inl (feet_keep h (S := fun k => w.heap.size ≤ k) (Fr.of_below hb) (fun k hk hn => by have := feet_lt hk;omega) hk)⟩
end
structure Room (w : World) (l : List (Nat × Dsk)) (B : Nat) (t : TypeId) (v : Value) (n : Nat) (xs : List Value) : Prop where
  row : w.ownsRow B t 1 v n xs
  clear : ∀ k,v.ownBlock = some k → ¬ feet w l k
section
variable {B : Nat} {W w w' : World} {l l' : List (Nat × Dsk)} {t t' : TypeId} {v v' u : Value} {n n' m : Nat} {xs xs' ys : List Value}
theorem Room.turn (h : Room w l B t v n xs) (ht : Turn w w' l l') : Room w' l' B t v n xs :=
  ⟨ht.fr.own h.row h.clear,fun k hk hf => by
    rcases ht.new k hf with h1 | h1
    · exact h.clear k hk h1
    · have := (h.row.lt k hk).2;omega⟩
theorem Room.below (h : Room w l B t v n xs) (hD : Disks B W w l) (hb : Below w.heap.size w w') : Room w' l B t v n xs := h.turn (Turn.below hD hb)
theorem Room.alloc (h : Room w l B t v n xs) (hD : Disks B W w l) (o : Obj) : Room (w.alloc o) l B t v n xs := h.below hD ((Below.refl _ _).alloc (Nat.le_refl _) o)
theorem Room.drew (h : Room w l B t v n xs) (hD : Disks B W w l) : Room w.drew l B t v n xs := h.below hD ⟨rfl,rfl,rfl,Nat.le_refl _,fun _ _ => rfl⟩
theorem Room.grown (h : Room w l B t v n xs) (hD : Disks B W w l) (ho : w'.ownsRow B t 1 v' n' xs') (hg : w.grownBy w' v.ownBlock) (hn : v'.ownBlock = v.ownBlock ∨ ∃ q,w.heap.size ≤ q ∧ v'.ownBlock = some q) : Disks B W w' l ∧ Room w' l B t v' n' xs' := by
  have hF : Fr (fun k => v.ownBlock = some k) w w' := Fr.of_grown hg (fun k e => e)
  have hS : ∀ k,feet w l k → ¬ v.ownBlock = some k := fun k hf e => h.clear k e hf
  refine ⟨hD.kept hF hS (fun k _ e => (h.row.lt k e).1),ho,fun k hk hf => ?_⟩
  have hf' := feet_keep hD hF hS hf
  rcases hn with e | ⟨q,hq,e⟩
  · exact h.clear k (e ▸ hk) hf'
  · rw [e] at hk;obtain rfl := Option.some.inj hk
    have := feet_lt hf';omega
theorem Room.other (h : Room w l B t u m ys) (hv : Room w l B t' v n xs) (hD : Disks B W w l) (hg : w.grownBy w' v.ownBlock) (hne : ∀ k,u.ownBlock = some k → v.ownBlock ≠ some k) : Room w' l B t u m ys := by
  have hF : Fr (fun k => v.ownBlock = some k) w w' := Fr.of_grown hg (fun k e => e)
  exact ⟨hF.own h.row (fun k hk => hne k hk),fun k hk hf => h.clear k hk (feet_keep hD hF (fun k hf e => hv.clear k e hf) hf)⟩
theorem Room.new (hD : Disks B W w l) (t : TypeId) (xs : Array Value) (n : Nat) (hxs : xs.size = n) (hmx : n ≤ maxLen) : Room (w.alloc (.cells xs t)) l B t (.slice (some ⟨w.heap.size,0,none⟩) n n) n xs.toList :=
  ⟨World.ownsRow_lit (e := t) (base := B) (size := 1) w xs n hD.size hmx (by omega),fun k hk hf => by
    simp [Value.ownBlock] at hk
    subst hk
    have := feet_lt (feet_keep hD (S := fun k => w.heap.size ≤ k) ((Fr.refl _ w).alloc _) (fun k hk hn => by have := feet_lt hk;omega) hf)
    omega⟩
theorem Room.slice (h : Room w l B t v n xs) : ∃ A c,v = .slice A n c ∧ Reads w w.heap.size 1 A n xs := own_slice h.row
theorem Room.bools {A : Option Addr} {c : Nat} {bs : List Bool} (h : Room w l B t (.slice A n c) n (bs.map Value.bool)) : ∀ S : Nat → Prop,(∀ k,S k → feet w l k) → Bools w S A n bs := by
  intro S hS
  obtain ⟨A',c',e,hR⟩ := h.slice
  simp only [Value.slice.injEq,true_and] at e
  obtain ⟨rfl,_⟩ := e
  refine ⟨by have := hR.1;simpa using this,fun k hk => ?_⟩
  obtain ⟨ad,x,rfl,_,hx,hc⟩ := hR.at_ hk
  refine ⟨ad,rfl,fun hs => h.clear _ rfl ?_,?_⟩
  · rw [block_of_add] at hs;exact hS _ hs
  · rw [hc, ← hx,List.getElem?_map]
    have hk' : k < bs.length := by have := hR.1;simp at this;omega
    rw [List.getElem?_eq_getElem hk'];rfl
theorem Bools.nil (w : World) (l : List (Nat × Dsk)) : ∀ S : Nat → Prop,(∀ k,S k → feet w l k) → Bools w S none 0 [] := fun _ _ => ⟨rfl,fun k hk => by omega⟩
end
end Go.Proofs.YtidacaihmjdmkaaGreat
namespace Go.Proofs.YtidacaihmjdmkaaGreat
open Go.RowKit
attribute [local go_sem high] run_mx run_mn
def crash1R (keep : List Bool) (torn at_ : Int) (L : List ByteArray) (k : Nat) (p : Int × ByteArray) : List ByteArray :=
  if keep[k]? = some true then L.set p.1.toNat p.2 else if (k : Int) = torn then L.set p.1.toNat (mix p.2 (L[p.1.toNat]?.getD zeros) (cutAt at_)) else L
def crashToR (keep : List Bool) (torn at_ : Int) (L : List ByteArray) (pd : List (Int × ByteArray)) : Nat → List ByteArray
  | 0 => L
  | k + 1 => match pd[k]? with
    | some p => crash1R keep torn at_ (crashToR keep torn at_ L pd k) k p
    | none => crashToR keep torn at_ L pd k
def RDsk.crash (r : RDsk) (keep : List Bool) (torn at_ : Int) : RDsk := ⟨crashToR keep torn at_ r.L r.pend r.pend.length,[], -1⟩
theorem crashToR_len (keep : List Bool) (torn at_ : Int) (L : List ByteArray) (pd : List (Int × ByteArray)) (k : Nat) : (crashToR keep torn at_ L pd k).length = L.length := by
  induction k with
  | zero => rfl
  | succ k ih =>
    unfold crashToR
    split
    · unfold crash1R
      split
      · rw [List.length_set];exact ih
      · split
        · rw [List.length_set];exact ih
        · exact ih
    · exact ih
structure RDsk.Good (r : RDsk) : Prop where
  pend : ∀ p ∈ r.pend,p.2.size = 128
  L : ∀ s ∈ r.L,s.size = 128
end Go.Proofs.YtidacaihmjdmkaaGreat
namespace Go.Proofs.YtidacaihmjdmkaaGreat
open Go.RowKit
structure Rel (d : Dsk) (r : RDsk) : Prop where
  n : d.n = r.L.length
  pend : d.pend = r.pend
  lim : (d.lim = false ∧ r.left = -1) ∨ (d.lim = true ∧ r.left = max 0 d.left)
  lo : -9223372036854775808 ≤ d.left
  hi : d.left ≤ 9223372036854775807
  held : ∀ q : Nat,q < r.L.length → r.L[q]? = some (d.holds q)
  good : d.Good
  ins : r.Ins
  pos : 0 < r.L.length
  len : r.L.length ≤ 4096
theorem Rel.fits {d : Dsk} {r : RDsk} (h : Rel d r) (hp : d.pend.length ≤ 1000000000) : r.Fits :=
  ⟨h.pos,by have := h.lim;have := h.lo;omega,by have := h.lim;have := h.hi;omega,h.len,by rw [← h.pend];exact hp⟩
theorem Rel.dead {d : Dsk} {r : RDsk} (h : Rel d r) : d.dead = decide (r.left = 0) := by
  unfold Dsk.dead
  rcases h.lim with ⟨a,b⟩ | ⟨a,b⟩
  · rw [a,b];rfl
  · rw [a,b,Bool.true_and]
    congr 1
    apply propext
    omega
theorem Rel.use {d : Dsk} {r : RDsk} (h : Rel d r) (hl : r.left ≠ 0) : ((d.use.lim = false ∧ r.use.left = -1) ∨ (d.use.lim = true ∧ r.use.left = max 0 d.use.left)) ∧ -9223372036854775808 ≤ d.use.left ∧ d.use.left ≤ 9223372036854775807 := by
  have hw : -9223372036854775808 ≤ wrap64 (d.left - 1) ∧ wrap64 (d.left - 1) ≤ 9223372036854775807 := by unfold wrap64;omega
  refine ⟨?_,hw⟩
  show (d.lim = false ∧ (if 0 < r.left then r.left - 1 else r.left) = -1) ∨ (d.lim = true ∧ (if 0 < r.left then r.left - 1 else r.left) = max 0 (wrap64 (d.left - 1)))
  have h1 := h.lo
  have h2 := h.hi
  rcases h.lim with ⟨a,b⟩ | ⟨a,b⟩
  · exact .inl ⟨a,by rw [if_neg (by omega)];exact b⟩
  · refine .inr ⟨a,?_⟩
    have : wrap64 (d.left - 1) = d.left - 1 := by unfold wrap64;omega
    rw [this,if_pos (by omega)]
    omega
theorem Rel.write {d : Dsk} {r : RDsk} (h : Rel d r) (i : Int) (s : ByteArray) : d.writeE i s = r.writeE i s ∧ Rel (d.writeS i s) (r.writeS i s) := by
  have he : d.writeE i s = r.writeE i s := by
    unfold Dsk.writeE RDsk.writeE
    rw [h.n,h.dead]
    by_cases hl : r.left = 0 <;> simp [hl]
  refine ⟨he,?_⟩
  unfold Dsk.writeS RDsk.writeS
  rw [← he]
  by_cases hz : d.writeE i s = 0
  · rw [if_pos hz,if_pos hz]
    have hz' := hz
    rw [he] at hz'
    unfold RDsk.writeE at hz'
    have hi : 0 ≤ i ∧ i < r.L.length := by
      by_cases hi : 0 ≤ i ∧ i < r.L.length
      · exact hi
      · rw [if_neg hi] at hz';omega
    rw [if_pos hi] at hz'
    have hs : s.size = 128 := by
      by_cases hs : s.size = 128
      · exact hs
      · rw [if_neg hs] at hz';omega
    rw [if_pos hs] at hz'
    have hl : r.left ≠ 0 := by
      intro hl
      rw [if_pos hl] at hz';omega
    obtain ⟨u1,u2,u3⟩ := h.use hl
    refine ⟨h.n,?_,u1,u2,u3,h.held,Dsk.Good.write h.good hs,?_,h.pos,h.len⟩
    · show d.pend ++ [(i,s)] = r.pend ++ [(i,s)]
      rw [h.pend]
    · intro p hp
      rcases List.mem_append.1 hp with hp | hp
      · exact h.ins p hp
      · simp at hp;subst hp;exact hi
  · rw [if_neg hz,if_neg hz];exact h
theorem holds_same {d : Dsk} {L : List ByteArray} (h : ∀ q : Nat,q < L.length → L[q]? = some (d.holds q)) {p : Int × ByteArray} (hp : 0 ≤ p.1 ∧ p.1 < L.length) : ∀ q : Nat,q < (L.set p.1.toNat p.2).length → (L.set p.1.toNat p.2)[q]? = some ((d.do_ p).holds q) := by
  intro q hq
  rw [List.length_set] at hq
  rw [List.getElem?_set,holds_do]
  by_cases e : p.1 = (q : Int)
  · rw [if_pos (by omega),if_pos (by omega),if_pos e]
  · rw [if_neg (by omega),if_neg e]
    exact h q hq
theorem doAll_same (l : List (Int × ByteArray)) : ∀ (d : Dsk) (L : List ByteArray),(∀ q : Nat,q < L.length → L[q]? = some (d.holds q)) → (∀ p ∈ l,0 ≤ p.1 ∧ p.1 < L.length) → ∀ q : Nat,q < L.length → (putAll L l)[q]? = some ((d.doAll l).holds q) := by
  induction l with
  | nil => intro d L h _ q hq;exact h q hq
  | cons p l ih =>
    intro d L h hp q hq
    exact ih (d.do_ p) (L.set p.1.toNat p.2) (holds_same h (hp p (by simp))) (fun x hx => by rw [List.length_set];exact hp x (by simp [hx])) q (by rw [List.length_set];exact hq)
theorem Good_doAll (l : List (Int × ByteArray)) : ∀ d : Dsk,d.Good → (∀ p ∈ l,p.2.size = 128) → (d.doAll l).Good := by
  induction l with
  | nil => intro d h _;exact h
  | cons p l ih => intro d h hp;exact ih (d.do_ p) (Dsk.Good.do_ h (hp p (by simp))) (fun x hx => hp x (by simp [hx]))
theorem Rel.flush {d : Dsk} {r : RDsk} (h : Rel d r) : d.flushE = r.flushE ∧ Rel d.flushS r.flushS := by
  unfold Dsk.flushE RDsk.flushE Dsk.flushS RDsk.flushS
  rw [h.dead]
  by_cases hl : r.left = 0
  · simp only [hl,decide_true,if_true];exact ⟨trivial,h⟩
  · simp only [hl,decide_false,Bool.false_eq_true,if_false]
    refine ⟨trivial,?_⟩
    obtain ⟨u1,u2,u3⟩ := h.use hl
    obtain ⟨k1,k2,k3,k4⟩ := Dsk.doAll_pend d.pend d.use
    have hG := Good_doAll d.pend d.use (Dsk.Good.use h.good) h.good.1
    have hlen : r.flush.L.length = r.L.length := putAll_len _ _
    refine ⟨?_,rfl,?_,?_,?_,fun q hq => ?_,⟨by simp [Dsk.flush],hG.2⟩,by intro p hp;simp [RDsk.flush] at hp,by rw [hlen];exact h.pos,by rw [hlen];exact h.len⟩
    · rw [hlen];exact k2.trans h.n
    · show ((Dsk.doAll d.use d.pend).lim = false ∧ r.use.left = -1) ∨ ((Dsk.doAll d.use d.pend).lim = true ∧ r.use.left = max 0 (Dsk.doAll d.use d.pend).left)
      rw [k3,k4];exact u1
    · show -9223372036854775808 ≤ (Dsk.doAll d.use d.pend).left
      rw [k4];exact u2
    · show (Dsk.doAll d.use d.pend).left ≤ 9223372036854775807
      rw [k4];exact u3
    · rw [hlen] at hq
      show (putAll r.L r.pend)[q]? = some ((d.use.doAll d.pend).holds q)
      rw [← h.pend]
      exact doAll_same d.pend d.use r.L h.held (fun p hp => h.ins p (by rw [← h.pend];exact hp)) q hq
theorem Rel.limit {d : Dsk} {r : RDsk} (h : Rel d r) (n : Int) (h1 : -9223372036854775808 ≤ n) (h2 : n ≤ 9223372036854775807) : Rel (d.limit n) (r.limit n) :=
  ⟨h.n,h.pend, .inr ⟨rfl,rfl⟩,h1,h2,h.held,h.good,h.ins,h.pos,h.len⟩
theorem crash_same {d : Dsk} {L : List ByteArray} (keep : List Bool) (torn at_ : Int) (l : List (Int × ByteArray)) (h : ∀ q : Nat,q < L.length → L[q]? = some (d.holds q)) (hl : ∀ p ∈ l,0 ≤ p.1 ∧ p.1 < L.length) (k : Nat) :
    ∀ q : Nat,q < L.length → (crashToR keep torn at_ L l k)[q]? = some ((d.crashTo keep torn at_ l k).holds q) := by
  induction k with
  | zero => exact h
  | succ k ih =>
    intro q hq
    cases hp : l[k]? with
    | none =>
      have e1 : crashToR keep torn at_ L l (k + 1) = crashToR keep torn at_ L l k := by rw [crashToR,hp]
      have e2 : d.crashTo keep torn at_ l (k + 1) = d.crashTo keep torn at_ l k := by rw [Dsk.crashTo,hp]
      rw [e1,e2];exact ih q hq
    | some p =>
      have e1 : crashToR keep torn at_ L l (k + 1) = crash1R keep torn at_ (crashToR keep torn at_ L l k) k p := by rw [crashToR,hp]
      rw [e1,holds_crashTo _ _ _ _ _ _ (q : Int) hp]
      have hin := hl p (List.mem_of_getElem? hp)
      have ih' := ih
      have hlen := crashToR_len keep torn at_ L l k
      have hcur := ih p.1.toNat (by omega)
      have hpq := ih q hq
      generalize crashToR keep torn at_ L l k = L1 at *
      generalize d.crashTo keep torn at_ l k = d1 at *
      unfold crash1R stepS
      by_cases e : p.1 = (q : Int)
      · have e' : p.1.toNat = q := by omega
        rw [if_pos e,e']
        rw [e'] at hcur
        by_cases hb : keep[k]? = some true
        · rw [if_pos hb,if_pos hb,List.getElem?_set,if_pos rfl,if_pos (by omega)]
        · rw [if_neg hb,if_neg hb]
          by_cases ht : (k : Int) = torn
          · rw [if_pos ht,if_pos ht,List.getElem?_set,if_pos rfl,if_pos (by omega),hpq];rfl
          · rw [if_neg ht,if_neg ht];exact hpq
      · have e' : ¬ p.1.toNat = q := by omega
        rw [if_neg e]
        by_cases hb : keep[k]? = some true
        · rw [if_pos hb,List.getElem?_set,if_neg e'];exact hpq
        · rw [if_neg hb]
          by_cases ht : (k : Int) = torn
          · rw [if_pos ht,List.getElem?_set,if_neg e'];exact hpq
          · rw [if_neg ht];exact hpq
theorem Rel.crash {d : Dsk} {r : RDsk} (h : Rel d r) (keep : List Bool) (torn at_ : Int) : Rel (d.crash keep torn at_) (r.crash keep torn at_) := by
  have hlen : (r.crash keep torn at_).L.length = r.L.length := crashToR_len ..
  refine ⟨?_,rfl, .inl ⟨rfl,rfl⟩,by show -9223372036854775808 ≤ (0 : Int);omega,by show (0 : Int) ≤ 9223372036854775807;omega,fun q hq => ?_,Dsk.Good.crash h.good keep torn at_,by intro p hp;simp [RDsk.crash] at hp,by rw [hlen];exact h.pos,by rw [hlen];exact h.len⟩
  · rw [hlen,crash_n];exact h.n
  · rw [hlen] at hq
    show (crashToR keep torn at_ r.L r.pend r.pend.length)[q]? = _
    rw [holds_crash,h.pend]
    exact crash_same keep torn at_ r.pend h.held h.ins r.pend.length q hq
theorem readTo_find (L : List ByteArray) (pd : List (Int × ByteArray)) (i : Int) (k : Nat) (hk : k ≤ pd.length) : readTo L pd i k = (((pd.take k).reverse.find? fun p => p.1 == i).map (·.2)).getD (L[i.toNat]?.getD zeros) := by
  induction k with
  | zero => rfl
  | succ k ih =>
    have hp : pd[k]? = some pd[k] := List.getElem?_eq_getElem (by omega)
    have e : readTo L pd i (k + 1) = if pd[k].1 = i then pd[k].2 else readTo L pd i k := by
      show (match pd[k]? with | some p => _ | none => _) = _
      rw [hp]
    rw [e,List.take_succ_eq_append_getElem (by omega),List.reverse_append,List.reverse_singleton,List.singleton_append]
    by_cases hx : pd[k].1 = i
    · rw [if_pos hx,List.find?_cons_of_pos (by simpa using hx)];rfl
    · rw [if_neg hx,List.find?_cons_of_neg (by simpa using hx)]
      exact ih (by omega)
theorem Rel.read {d : Dsk} {r : RDsk} (h : Rel d r) (i : Int) : d.readE i = r.readE i ∧ d.readV i = r.readV i := by
  unfold Dsk.readE RDsk.readE Dsk.readV RDsk.readV
  rw [h.n]
  refine ⟨rfl,?_⟩
  by_cases hi : 0 ≤ i ∧ i < r.L.length
  · rw [if_pos hi,if_pos hi,readTo_find _ _ _ _ (Nat.le_refl _),List.take_length]
    unfold Dsk.read
    rw [h.pend,h.held i.toNat (by omega),Int.toNat_of_nonneg hi.1]
    rfl
  · rw [if_neg hi,if_neg hi]
theorem Rel.new (n : Nat) (h1 : 1 ≤ n) (h2 : n ≤ 4096) : Rel (newDsk n) (newRef n) := by
  have hl : (newRef n).L.length = n := List.length_replicate
  refine ⟨by rw [hl];rfl,rfl, .inl ⟨rfl,rfl⟩,by show -9223372036854775808 ≤ (0 : Int);omega,by show (0 : Int) ≤ 9223372036854775807;omega,fun q hq => ?_,⟨by simp [newDsk],by simp [newDsk]⟩,by intro p hp;simp [newRef] at hp,by rw [hl];omega,by rw [hl];omega⟩
  rw [hl] at hq
  show (List.replicate n zeros)[q]? = _
  rw [List.getElem?_replicate,if_pos hq];rfl
theorem writeS_len (d : Dsk) (i : Int) (s : ByteArray) : (d.writeS i s).pend.length ≤ d.pend.length + 1 := by
  unfold Dsk.writeS
  split
  · show (d.pend ++ [(i,s)]).length ≤ _
    simp
  · omega
theorem flushS_len (d : Dsk) : d.flushS.pend.length ≤ d.pend.length := by
  unfold Dsk.flushS
  split
  · omega
  · simp [Dsk.flush]
end Go.Proofs.YtidacaihmjdmkaaGreat
namespace Go.Proofs.YtidacaihmjdmkaaGreat
open Go.RowKit
attribute [local go_sem high] run_mx run_mn
theorem RPutN8 (n : Int) (hn : 0 ≤ n ∧ n < 18446744073709551616) (u : World) : Calls Tryz.prog 161 #[.int .u64 n, .int .i64 8] u fun e v => e = .returned (.string (putB n 8)) ∧ Newer u v := RPut_any n 8 (by omega) hn u
theorem RPutN4 (n : Int) (hn : 0 ≤ n ∧ n < 18446744073709551616) (u : World) : Calls Tryz.prog 161 #[.int .u64 n, .int .i64 4] u fun e v => e = .returned (.string (putB n 4)) ∧ Newer u v := RPut_any n 4 (by omega) hn u
theorem RSumN (s : ByteArray) (hs : s.size ≤ 1000) (u : World) : Calls Tryz.prog 162 #[.string s] u fun e v => e = .returned (.int .u32 (crcOf s.data.toList)) ∧ Newer u v :=
  (RSum_any s (by omega) u).mono fun _ _ ⟨he,h⟩ => ⟨he,h ▸ Newer.refl u⟩
theorem zeroB_succ (j : Nat) : zeroB j ++ ByteArray.mk #[0] = zeroB (j + 1) := by
  refine ByteArray.ext (Array.ext' ?_)
  rw [ByteArray.data_append,Array.toList_append]
  show (List.replicate j (0 : UInt8)) ++ [0] = List.replicate (j + 1) 0
  rw [List.replicate_succ']
theorem zeroB_zero : zeroB 0 = ByteArray.empty := rfl
def strOf : Value → ByteArray
  | .string s => s
  | _ => ByteArray.empty
set_option maxRecDepth 100000 in
set_option maxHeartbeats 4000000 in
theorem RRight_any (r : Rec) (hr : r.Fits) (w : World) : Calls Tryz.prog 125 #[r.value] w fun e w' => e = .returned (.bool r.right) ∧ Below w.heap.size w w' := by
  unfold Rec.value
  have hB : Below w.heap.size w (w.alloc (.cells #[.int .u64 r.lsn, .int .u32 r.epoch, .int .i64 r.kind, .int .u64 r.ver, .int .u64 r.dl, .string r.id, .string r.val] 118)) := (Below.refl _ _).alloc (Nat.le_refl _) _
  have hid := hr.id
  go_enter Tryz.func125,Tryz.ntmps125
  go_wp2_with (first
    | (go_at_call 164;refine (RID_any _ hid _).mono ?_;rintro e w' ⟨rfl,rfl⟩)
    | (go_at_call 165;refine (RValue_any _ _).mono ?_;rintro e w' ⟨rfl,rfl⟩))
  all_goals
    go_ret
    refine ⟨?_,?_⟩
    · simp_all [Rec.right]
    · simp_all
set_option maxRecDepth 100000 in
set_option maxHeartbeats 4000000 in
theorem REncode_no (r : Rec) (hr : r.Fits) (hn : r.right = false) (w : World) : Calls Tryz.prog 163 #[r.value] w fun e w' => e = .returned (.tuple #[.string ⟨#[]⟩, .int .i64 5]) ∧ Below w.heap.size w w' := by
  have hR := RRight_any r hr
  rw [hn] at hR
  unfold Rec.value at hR ⊢
  go_enter Tryz.func163,Tryz.ntmps163
  go_wp2_with (first | (go_at_call 125;with_reducible refine (hR _).mono ?_;rintro e w' ⟨rfl,hB⟩))
  go_ret2
  exact ⟨rfl,((Below.refl _ _).alloc (Nat.le_refl _) _).trans (hB.mono (by simp))⟩
set_option maxRecDepth 100000 in
set_option maxHeartbeats 4000000 in
theorem REncode_yes (r : Rec) (hr : r.Fits) (hn : r.right = true) (w : World) : Calls Tryz.prog 163 #[r.value] w fun e w' => e = .returned (.tuple #[.string r.sector, .int .i64 0]) ∧ Below w.heap.size w w' := by
  have hR := RRight_any r hr
  rw [hn] at hR
  have hsz := Rec.sizes hn
  unfold Rec.value at hR ⊢
  go_enter Tryz.func163,Tryz.ntmps163
  go_upto_region 3 with (first | (go_at_call 125;with_reducible refine (hR _).mono ?_;rintro e w' ⟨rfl,hB⟩))
  have hbl := (Blk.new w 118 #[.int .u64 r.lsn, .int .u32 r.epoch, .int .i64 r.kind, .int .u64 r.ver, .int .u64 r.dl, .string r.id, .string r.val]).below hB (by simp)
  have hW : Below w.heap.size w w' := ((Below.refl _ _).alloc (Nat.le_refl _) _).trans (hB.mono (by simp))
  have hlt : w.heap.size < w'.heap.size := Nat.lt_of_lt_of_le (by simp) hB.size
  clear hB hR
  have hl1 := hr.lsn
  have hl2 : 0 ≤ r.epoch ∧ r.epoch < 18446744073709551616 := by have := hr.epoch;omega
  have hl3 := hr.ver
  have hl4 := hr.dl
  have hk1 : 0 ≤ r.kind ∧ r.kind ≤ 255 := by omega
  have hk2 : 0 ≤ (r.id.size : Int) ∧ (r.id.size : Int) ≤ 255 := by omega
  have hk3 : 0 ≤ (r.val.size : Int) ∧ (r.val.size : Int) ≤ 255 := by omega
  have hths : r.three.size = 3 := rfl
  have g1 := run_add (putB r.lsn 8) (putB r.epoch 4) (by rw [putB_size];omega) (by rw [putB_size];omega)
  have g2 := run_add (putB r.lsn 8 ++ putB r.epoch 4) r.three (by simp only [ByteArray.size_append,putB_size];omega) (by omega)
  have g3 := run_add (putB r.lsn 8 ++ putB r.epoch 4 ++ r.three) (putB r.ver 8) (by simp only [ByteArray.size_append,putB_size,hths];omega) (by rw [putB_size];omega)
  have g4 := run_add (putB r.lsn 8 ++ putB r.epoch 4 ++ r.three ++ putB r.ver 8) (putB r.dl 8) (by simp only [ByteArray.size_append,putB_size,hths];omega) (by rw [putB_size];omega)
  have g5 := run_add (putB r.lsn 8 ++ putB r.epoch 4 ++ r.three ++ putB r.ver 8 ++ putB r.dl 8) r.id (by simp only [ByteArray.size_append,putB_size,hths];omega) (by omega)
  have g6 := run_add (putB r.lsn 8 ++ putB r.epoch 4 ++ r.three ++ putB r.ver 8 ++ putB r.dl 8 ++ r.id) r.val (by simp only [ByteArray.size_append,putB_size,hths];omega) (by omega)
  have hhs := r.head_size
  have hwe : IntKind.u64.wrap r.epoch = r.epoch := by rw [IntKind.wrap_u64];omega
  have hwk : IntKind.u8.wrap r.kind = r.kind := by rw [IntKind.wrap_u8];omega
  have hwi : IntKind.u8.wrap (r.id.size : Int) = r.id.size := by rw [IntKind.wrap_u8];omega
  have hwv : IntKind.u8.wrap (r.val.size : Int) = r.val.size := by rw [IntKind.wrap_u8];omega
  have hcell := fun w1 (h : Newer w'.drew w1) => keep7 (w' := w'.drew) hbl (h.mono hlt)
  refine wp_region_ord Newer.grow [(0,true),(1,true),(2,true),(3,true),(4,true),(5,true),(6,true),(7,true),(8,true),(9,true),(10,true),(11,true),(12,true),(13,true),(14,true),(15,true),(16,true),(17,true),(18,true),(22,true),(23,true),(24,true),(26,true),(27,true),(28,true),(30,true),(31,true),(33,true),(34,true),(19,false),(20,true),(21,true),(25,true),(29,true),(32,true),(35,true),(36,true)] [] (by kernel_rfl) (by kernel_rfl) rfl (by kernel_rfl) (by intro _ _ d _ _ h;cases d <;> exact h) ?_
  have hC : ∀ w1,Newer w'.drew w1 → w'.heap.size ≤ w1.heap.size := fun w1 h => h.size
  iterate 29
    (apply wpOrd_take
     · exact rfl
     · intro w1 h1
       (obtain ⟨c0,c1,c2,c3,c4,c5,c6⟩ := hcell w1 h1)
       go_simp
       first
         | with_reducible exact ⟨rfl,sqN _⟩
         | with_reducible exact RPutN8 _ hl1 _ | with_reducible exact RPutN4 _ hl2 _ | with_reducible exact RPutN8 _ hl3 _ | with_reducible exact RPutN8 _ hl4 _
     simp only [Act.put,sqA,sqB,sqC])
  refine wpOrd_do rfl ?_
  intro w2 h2 K hK
  go_simp
  have h3 : Newer w2 (w2.alloc (.cells #[.int .u8 r.kind, .int .u8 r.id.size, .int .u8 r.val.size] 5)) := (Below.refl _ _).alloc (Nat.le_refl _) _
  refine hK _ _ h3 ?_
  clear hK K
  have hcv := conv_threeN w2 r.kind r.id.size r.val.size hk1 hk2 hk3
  rw [show (⟨#[UInt8.ofNat r.kind.toNat,UInt8.ofNat (r.id.size : Int).toNat,UInt8.ofNat (r.val.size : Int).toNat]⟩ : ByteArray) = r.three from rfl] at hcv
  have hx := fun w1 (h : Newer _ w1) => Newer.grow.trans _ _ _ h2 (Newer.grow.trans _ _ _ h3 h)
  generalize w2.alloc (.cells #[.int .u8 r.kind, .int .u8 r.id.size, .int .u8 r.val.size] 5) = w3 at *
  iterate 7
    (apply wpOrd_take
     · exact rfl
     · intro w1 h1
       (have cv := hcv w1 h1)
       go_simp
       first
         | with_reducible exact ⟨rfl,sqN _⟩
     simp only [Act.put,sqA,sqB,sqC])
  refine wpOrd_done fun w4 h4 => ?_
  have h5 : Newer w'.drew w4 := hx w4 h4
  have hcell2 := fun w1 (h : Newer w4 w1) => keep2 (w' := w'.drew) hbl ((Newer.grow.trans _ _ _ h5 h).mono hlt)
  clear g1 g2 g3 g4 g5 g6 hcell hcv hwi hwv hwk
  rw [show putB r.lsn 8 ++ putB r.epoch 4 ++ r.three ++ putB r.ver 8 ++ putB r.dl 8 ++ r.id ++ r.val = r.head from rfl]
  have hB4 : Newer w w4 := Newer.trans hW h5.undrew
  have hrk : 112 - r.head.size ≤ 112 := by omega
  have hrv : (112 : Int) - (r.head.size : Int) = ((112 - r.head.size : Nat) : Int) := by omega
  have hra := run_add r.head (zeroB (112 - r.head.size)) (by omega) (by rw [zeroB_size];omega)
  rw [show r.head ++ zeroB (112 - r.head.size) = r.body from rfl] at hra
  have hh111 : (r.head.size : Int) ≤ 111 := by omega
  have hwr : wrap64 (112 - (r.head.size : Int)) = ((112 - r.head.size : Nat) : Int) := by unfold wrap64;omega
  have hcl := crcOf_lt r.body.data.toList
  have hbs := Rec.body_size hn
  have hwc : IntKind.u64.wrap (crcOf r.body.data.toList : Int) = (crcOf r.body.data.toList : Int) := by rw [IntKind.wrap_u64];omega
  have hlc : 0 ≤ (crcOf r.body.data.toList : Int) ∧ (crcOf r.body.data.toList : Int) < 18446744073709551616 := by omega
  have s1 := run_add r.body (putB (crcOf r.body.data.toList) 4) (by omega) (by rw [putB_size];omega)
  have s2 := run_add (r.body ++ putB (crcOf r.body.data.toList) 4) (putB r.lsn 8) (by simp only [ByteArray.size_append,putB_size];omega) (by rw [putB_size];omega)
  have s3 := run_add (r.body ++ putB (crcOf r.body.data.toList) 4 ++ putB r.lsn 8) (putB r.epoch 4) (by simp only [ByteArray.size_append,putB_size];omega) (by rw [putB_size];omega)
  rw [show r.body ++ putB (crcOf r.body.data.toList) 4 ++ putB r.lsn 8 ++ putB r.epoch 4 = r.sector from rfl] at s3
  have hSum := fun u => RSumN r.body (by omega) u
  clear hx h2 h3 h5 hhs
  have hz : ∀ j : Nat,j < 112 - r.head.size → ∀ u : World,(Op.stringOp .add (r.head ++ zeroB j) (ByteArray.mk #[0])).run Tryz.prog u = .ok (.string (r.head ++ zeroB (j + 1))) u := fun j hj u => by
    rw [run_add _ _ (by rw [ByteArray.size_append,zeroB_size];omega) (by show 1 ≤ 1000;omega),ByteArray.append_assoc];rw [zeroB_succ]
  go_wp2_with fail
  go_loopw [4] (fun s wr => ∃ j : Nat,j ≤ 112 - r.head.size ∧ s = .string (r.head ++ zeroB j) ∧ wr = w4) (fun s _ => 112 - (strOf s).size)
  case atStart => exact ⟨0,by omega,by rw [zeroB_zero,ByteArray.append_empty],rfl⟩
  case round =>
    obtain ⟨j,hj,rfl,rfl⟩ := hrel
    have hsz1 : (r.head ++ zeroB j).size = r.head.size + j := by rw [ByteArray.size_append,zeroB_size]
    have hsz2 : (r.head ++ zeroB (j + 1)).size = r.head.size + (j + 1) := by rw [ByteArray.size_append,zeroB_size]
    by_cases hlt : j < 112 - r.head.size
    · have hl : ((r.head ++ zeroB j).size : Int) < 112 := by omega
      have hzj := hz j hlt
      go_wp2_with fail
      go_roundw
      case rel => exact ⟨j + 1,by omega,rfl,by first | rfl | trivial⟩
      case measure => simp [strOf,hsz1,hsz2];omega
    · obtain rfl : j = 112 - r.head.size := by omega
      generalize hbd : r.head ++ zeroB (112 - r.head.size) = bd at *
      obtain rfl : bd = r.body := hbd.symm
      have hl : ¬ (r.body.size : Int) < 112 := by omega
      clear hz hbd hsz1 hlt hj
      go_wp2_with fail
      have hcell3 := fun w1 (h : Newer wr.drew w1) => hcell2 w1 h.undrew
      refine wp_region_ord Newer.grow [(0,true),(1,true),(2,true),(3,true),(4,true),(5,true),(6,true),(7,true),(8,true),(9,true),(10,true),(11,true),(12,true),(13,true),(14,true),(15,true),(16,true)] [] (by kernel_rfl) (by kernel_rfl) rfl (by kernel_rfl) (by intro _ _ d _ _ h;cases d <;> exact h) ?_
      iterate 17
        (apply wpOrd_take
         · exact rfl
         · intro w1 h1
           (obtain ⟨c0,c1⟩ := hcell3 w1 h1)
           go_simp
           first
             | with_reducible exact ⟨rfl,sqN _⟩
             | with_reducible exact RPutN8 _ hl1 _ | with_reducible exact RPutN4 _ hl2 _ | with_reducible exact RPutN4 _ hlc _ | with_reducible exact hSum _
         simp only [Act.put,sqA,sqB,sqC])
      refine wpOrd_done fun w6 h6 => ?_
      go_wp2_with fail
      go_ret2
      exact ⟨rfl,hB4.trans h6.undrew⟩
end Go.Proofs.YtidacaihmjdmkaaGreat
namespace Go.Proofs.YtidacaihmjdmkaaGreat
open Go.RowKit
attribute [local go_sem high] run_mx run_mn
abbrev rlogParts (h hd : Nat) (T : Tab) (AO : Option Addr) (cO : Nat) (AL : Option Addr) (cL : Nat) (AF : Option Addr) (cF : Nat) (lsn epoch gen : Int) (r : RDsk) : List Thing :=
  [Thing.cells h 112 (logCells hd T AO cO AL cL AF cF lsn epoch gen),Thing.row 3 1 (.slice AO T.order.length cO) T.order.length (ints T.order),Thing.row 3 1 (.slice AL T.lens.length cL) T.lens.length (ints T.lens),Thing.row 43 1 (.slice AF T.firsts.length cF) T.firsts.length (u64s T.firsts),refT hd r]
theorem ropen_any (g gd : Nat) (T : Tab) (hT : T.Ok) (AO : Option Addr) (cO : Nat) (AL : Option Addr) (cL : Nat) (AF : Option Addr) (cF : Nat) (lsn epoch gen : Int) (w : World) (h : Blk w g 112 (logCells gd T AO cO AL cL AF cF lsn epoch gen)) (B : Nat) (hr : Reads w B 1 AO T.order.length (ints T.order)) (hB : B ≤ w.heap.size) :
    Calls Tryz.prog 127 #[.pointer (some ⟨g,0,none⟩)] w fun e w' => e = .returned (.int .i64 T.open_) ∧ Newer w w' := by
  have hp := hT.pos
  have hmn := hT.many
  obtain ⟨x,hx⟩ : ∃ x,T.order[T.order.length - 1]? = some x := ⟨_,List.getElem?_eq_getElem (by omega)⟩
  obtain ⟨ad,rfl,hadB,hc⟩ := read_cell (k := T.order.length - 1) (u := .int .i64 x) hr (by omega) (by rw [List.getElem?_map,hx];rfl)
  have ho : T.open_ = x := by unfold Tab.open_;rw [hx];rfl
  rw [ho]
  obtain ⟨m,hm⟩ : ∃ m : Nat,T.order.length - 1 = m := ⟨_,rfl⟩
  rw [hm] at hc
  have hm1 : (m : Int) < (T.order.length : Int) := by omega
  have hm2 : IntKind.i64.wrap ((T.order.length : Int) - 1) = (m : Int) := by rw [IntWalk.i64_in _ (by omega)];omega
  have hcell : ∀ w1,Newer w.drew w1 → w1.cell? ⟨g,3,none⟩ = some (.slice (some ad) T.order.length cO) ∧ w1.cell? (ad.add m) = some (.int .i64 x) := fun w1 hw => by
    have hb1 := h.below hw.undrew h.lt
    exact ⟨hb1.cell 3,(hw.undrew.cell (by rw [block_of_add];omega)).trans hc⟩
  clear hx ho hm hT hr h hc hp
  go_enter Tryz.func127,Tryz.ntmps127
  go_wp2_with fail
  refine wp_region_ord Newer.grow [(0,true),(1,true),(2,true),(3,true),(4,true),(5,true),(6,true),(7,true),(8,true),(9,true),(10,true),(11,true),(12,true),(13,true),(14,true)] [] (by kernel_rfl) (by kernel_rfl) rfl (by kernel_rfl) (by intro _ _ d _ _ h;cases d <;> exact h) ?_
  iterate 15
    (apply wpOrd_take
     · exact rfl
     · intro w1 h1
       (obtain ⟨c0,c1⟩ := hcell w1 h1)
       go_simp
       first
         | with_reducible exact ⟨rfl,sqN _⟩
     simp only [Act.put,sqA,sqB,sqC])
  refine wpOrd_done fun w6 h6 => ?_
  go_wp2_with fail
  go_ret
  exact ⟨rfl,h6.undrew⟩
def RPut (S0 : Nat → Prop) (w0 w' : World) (g gd : Nat) (T : Tab) (AO : Option Addr) (cO : Nat) (AL : Option Addr) (cL : Nat) (AF : Option Addr) (cF : Nat) (lsn epoch gen : Int) (r : RDsk) (SC : ByteArray) (L : List Thing) (e : Ending) : Prop :=
  (r.writeE T.at_ SC = 0 → e = .returned (.tuple #[.agg #[.int .i64 T.open_, .int .i64 (T.len T.open_)], .int .i64 0]) ∧ Now S0 w0 w' (rlogParts g gd T AO cO AL cL AF cF (lsn + 1) epoch gen (r.writeS T.at_ SC) ++ L)) ∧
  (∀ x,x ≠ 0 → r.writeE T.at_ SC = x → e = .returned (.tuple #[.agg #[.int .i64 0, .int .i64 0], .int .i64 x]) ∧ Now S0 w0 w' (rlogParts g gd T AO cO AL cL AF cF lsn epoch gen r ++ L))
set_option maxHeartbeats 8000000 in
theorem rwrite_any (g gd : Nat) (T : Tab) (hT : T.Ok) (AO : Option Addr) (cO : Nat) (AL : Option Addr) (cL : Nat) (AF : Option Addr) (cF : Nat) (lsn epoch gen : Int) (hl : 0 ≤ lsn ∧ lsn + 1 < 18446744073709551616) (r : RDsk) (hrf : r.Fits) (rc : Rec) (hF : ({ rc with lsn := lsn,epoch := epoch } : Rec).Fits) (hR : ({ rc with lsn := lsn,epoch := epoch } : Rec).right = true)
    {S0 : Nat → Prop} {w0 w : World} {L : List Thing} (hS : Now S0 w0 w (rlogParts g gd T AO cO AL cL AF cF lsn epoch gen r ++ L)) :
    Calls Tryz.prog 123 #[.pointer (some ⟨g,0,none⟩),rc.value] w fun e w' => RPut S0 w0 w' g gd T AO cO AL cL AF cF lsn epoch gen r ({ rc with lsn := lsn,epoch := epoch } : Rec).sector L e := by
  obtain ⟨SC,hSC⟩ : ∃ SC,({ rc with lsn := lsn,epoch := epoch } : Rec).sector = SC := ⟨_,rfl⟩
  have hE := fun v => REncode_yes { rc with lsn := lsn,epoch := epoch } hF hR v
  rw [hSC] at hE ⊢
  obtain ⟨r0,r1,r2,r3,r4,r5,r6⟩ := rc
  have hopen : 0 ≤ T.open_ ∧ T.open_ < 16 := T.open_in hT
  have hlen : 0 ≤ T.len T.open_ ∧ T.len T.open_ ≤ T.slots := T.len_in hT _
  have hgw : g < w.heap.size := (Now.blk (pre:=[]) hS).lt
  have hS1 := Now.pushCells (Now.pushCells hS 118 #[.int .u64 r0, .int .u32 r1, .int .i64 r2, .int .u64 r3, .int .u64 r4, .string r5, .string r6]) 90 #[.int .i64 0, .int .i64 0]
  simp only [World.size_alloc] at hS1
  unfold Rec.value at hE ⊢
  clear hSC hF hR hS
  go_enter Tryz.func123,Tryz.ntmps123
  go_wp2_with fail
  generalize (w.alloc (.cells #[.int .u64 r0, .int .u32 r1, .int .i64 r2, .int .u64 r3, .int .u64 r4, .string r5, .string r6] 118)).alloc (.cells #[.int .i64 0, .int .i64 0] 90) = wb at hS1 ⊢
  have hlog := Now.blk (pre:=[_,_]) hS1
  have htab := tabIn_of (pre:=[_,_,_]) hS1
  have hop := fun v (hv : Newer wb.drew v) => ropen_any g gd T hT AO cO AL cL AF cF lsn epoch gen v (hlog.below hv.undrew hlog.lt) wb.heap.size (htab.below hv.undrew).o hv.size
  have hle := fun v (hv : Newer wb.drew v) => RLen_any T hT AO cO AL cL AF cF T.open_ v ((htab.below hv.undrew).more hv.size)
  have hcell : ∀ v,Newer wb.drew v → v.cell? ⟨g,1,none⟩ = some (.int .i64 T.segs) ∧ v.cell? ⟨g,2,none⟩ = some (.int .i64 T.slots) ∧ v.cell? ⟨g,3,none⟩ = some (.slice AO T.order.length cO) ∧ v.cell? ⟨g,4,none⟩ = some (.slice AL T.lens.length cL) ∧ v.cell? ⟨g,5,none⟩ = some (.slice AF T.firsts.length cF) := fun v hv => by
    have hb1 := hlog.below hv.undrew hlog.lt
    exact ⟨hb1.cell 1,hb1.cell 2,hb1.cell 3,hb1.cell 4,hb1.cell 5⟩
  have hS2 := hS1.drew
  clear hS1 hlog htab
  refine wp_region_ord Newer.grow [(0,true),(1,true),(2,true),(3,true),(4,true),(5,true),(6,true),(7,true),(8,true),(9,true),(10,false),(11,false)] [11] (by kernel_rfl) (by kernel_rfl) rfl (by kernel_rfl) (by intro _ _ d _ _ h;cases d <;> exact h) ?_
  iterate 10
    (apply wpOrd_take
     · exact rfl
     · intro w1 h1
       (obtain ⟨c1,c2,c3,c4,c5⟩ := hcell w1 h1)
       go_simp
       first
         | with_reducible exact ⟨rfl,sqN _⟩
         | with_reducible exact hop _ h1 | with_reducible exact hle _ h1
     simp only [Act.put,sqA,sqB,sqC])
  refine wpOrd_do rfl ?_
  intro w1 h1 K hK
  have hS3 := Now.pushCells (Now.below hS2 h1) 90 #[.int .i64 0, .int .i64 0]
  go_simp
  refine hK _ _ ((Newer.refl w1).alloc _) ?_
  clear hK K hop hle hcell hS2 h1
  generalize w1.alloc (.cells #[.int .i64 0, .int .i64 0] 90) = w2 at hS3 ⊢
  generalize w1.heap.size = x at hS3 ⊢
  clear w1
  try simp only [Act.put,sqA,sqB,sqC]
  refine wpOrd_last rfl (by decide) ?_
  intro w3 h3 K hK
  have hS4 := Now.below hS3 h3
  have hxb := Now.blk (pre:=[]) hS4
  have c0 : w3.cell? ⟨x,0,none⟩ = some (.int .i64 0) := hxb.cell 0
  have c1 : w3.cell? ⟨x,1,none⟩ = some (.int .i64 0) := hxb.cell 1
  have f0 := fun k => hxb.frozen k
  go_simp
  refine hK _ _ ?_
  have hS5 := Now.set_ (pre:=[]) (Now.set_ (pre:=[]) hS4 0 (.int .i64 T.open_)) 1 (.int .i64 (T.len T.open_))
  clear hK K hxb c0 c1 f0 h3 hS4 hS3
  generalize (w3.setCell ⟨x,0,none⟩ (.int .i64 T.open_)).setCell ⟨x,1,none⟩ (.int .i64 (T.len T.open_)) = w4 at hS5 ⊢
  clear w3
  refine wpOrd_done fun w5 h5 => ?_
  replace hS5 := Now.below hS5 h5
  clear h5
  have hrb := Now.blk (pre:=[_,_]) hS5
  have q0 : w5.cell? ⟨w.heap.size,0,none⟩ = some (.int .u64 r0) := hrb.cell 0
  have q1 : w5.cell? ⟨w.heap.size,1,none⟩ = some (.int .u32 r1) := hrb.cell 1
  have q2 : w5.cell? ⟨w.heap.size,2,none⟩ = some (.int .i64 r2) := hrb.cell 2
  have q3 : w5.cell? ⟨w.heap.size,3,none⟩ = some (.int .u64 r3) := hrb.cell 3
  have q4 : w5.cell? ⟨w.heap.size,4,none⟩ = some (.int .u64 r4) := hrb.cell 4
  have q5 : w5.cell? ⟨w.heap.size,5,none⟩ = some (.string r5) := hrb.cell 5
  have q6 : w5.cell? ⟨w.heap.size,6,none⟩ = some (.string r6) := hrb.cell 6
  have fq := fun k => hrb.frozen k
  have hlog := Now.blk (pre:=[_,_,_]) hS5
  have d6 : w5.cell? ⟨g,6,none⟩ = some (.int .u64 lsn) := hlog.cell 6
  have d7 : w5.cell? ⟨g,7,none⟩ = some (.int .u32 epoch) := hlog.cell 7
  have hgne : w.heap.size ≠ g := by omega
  have hgne2 : g ≠ w.heap.size := by omega
  have hS6 := Now.set_ (pre:=[_,_]) (Now.set_ (pre:=[_,_]) hS5 0 (.int .u64 lsn)) 1 (.int .u32 epoch)
  clear hrb hlog
  go_wp2_with (go_at_call 163;(with_reducible refine (hE _).mono ?_);rintro e w7 ⟨rfl,hB⟩;have hS7 := Now.below hS6 hB;clear hE hB hS6 hS5 q0 q1 q2 q3 q4 q5 q6 fq d6 d7)
  have hlog := Now.blk (pre:=[_,_,_]) hS7
  have hxb := Now.blk (pre:=[]) hS7
  have HB : g < w7.drew.heap.size := hlog.lt
  have hcell : ∀ v,(KeepG g w7.drew v ∧ KeepG x w7.drew v) → v.cell? ⟨g,0,none⟩ = some (.pointer (some ⟨gd,0,none⟩)) ∧ v.cell? ⟨g,2,none⟩ = some (.int .i64 T.slots) ∧ v.cell? ⟨x,0,none⟩ = some (.int .i64 T.open_) ∧ v.cell? ⟨x,1,none⟩ = some (.int .i64 (T.len T.open_)) := fun v hv => by
    have hb1 := KeepG.blk (w := w7.drew) hv.1 hlog
    have hb2 := KeepG.blk (w := w7.drew) hv.2 hxb
    exact ⟨hb1.cell 0,hb1.cell 2,hb2.cell 0,hb2.cell 1⟩
  have hsec := fun v => RSector_ok T.slots T.open_ (T.len T.open_) hT.slots hopen hlen v
  have hS8 := hS7.drew
  clear hS7 hlog hxb
  refine wp_region_takes ((KeepG.grow g).and (KeepG.grow x)) [] [(0,false),(1,false),(2,false),(3,false),(4,false),(5,false),(6,false),(7,false),(8,false),(9,false),(10,false),(11,false)] 2 (by kernel_rfl) (by kernel_rfl) rfl (by kernel_rfl) (by intro _ _ d _ _ h;cases d <;> exact h) ?_
  iterate 12
    (apply wpTakes_take
     · exact rfl
     · intro w1v hR1
       (obtain ⟨d0,d1,d2,d3⟩ := hcell w1v hR1)
       go_simp
       first
         | with_reducible exact ⟨rfl,sqN _⟩
         | with_reducible exact hsec _
     simp only [Act.put,sqA,sqB,sqC])
  refine wpTakes_done ?_
  clear hcell HB
  generalize w7.drew = wc at hS8 ⊢
  refine wpAnyE_fork [12] (by kernel_rfl) (by simp) ?_
  refine sqM ?_
  refine ⟨_,rfl,?_⟩
  intro w1 h1 K hK
  replace hS8 := Now.below hS8 h1
  have hwr := Loc.atZ (RWrite_all gd r (secOf T.slots T.open_ (T.len T.open_)) SC hrf) [_,_,_,_,_,_,_] L hS8
  go_simp
  go_at_call 24
  refine hwr.mono ?_
  rintro e w8 ⟨rfl,hz,hS9⟩
  refine hK _ _ (fun _ => ⟨fun _ => ⟨(Now.blk (pre:=[_,_,_]) hS9).trans (Now.blk (pre:=[_,_,_]) hS8).symm,hz⟩,fun _ => ⟨(Now.blk (pre:=[]) hS9).trans (Now.blk (pre:=[]) hS8).symm,hz⟩⟩) ?_
  clear hK K hwr hS8 hz h1
  clear w1
  try simp only [Act.put,sqA,sqB,sqC]
  obtain ⟨we,hwe⟩ : ∃ we,r.writeE (secOf T.slots T.open_ (T.len T.open_)) SC = we := ⟨_,rfl⟩
  rw [hwe]
  apply wpAnyE_pure ((KeepG.grow g).and (KeepG.grow x)) 13
  · kernel_rfl
  · intro _ _ d _ _ h;cases d <;> exact h
  · exact rfl
  · kernel_rfl
  · intro w1
    go_simp
    exact ⟨rfl,sqN _⟩
  try simp only [Act.put,sqA,sqB,sqC]
  refine wpAnyE_end (by kernel_rfl) fun w10 h10 => ?_
  replace hS9 := Now.below hS9 h10
  clear h10
  have hob := Now.blk (pre:=[_]) hS9
  have o0 : w10.cell? ⟨w.heap.size + 1,0,none⟩ = some (.int .i64 0) := hob.cell 0
  have o1 : w10.cell? ⟨w.heap.size + 1,1,none⟩ = some (.int .i64 0) := hob.cell 1
  have fo := fun k => hob.frozen k
  clear hob
  by_cases h0 : we = 0
  · subst h0
    have HWE := Lib.hid hwe
    clear hwe
    have hlog := Now.blk (pre:=[_,_,_]) hS9
    have c6 : w10.cell? ⟨g,6,none⟩ = some (.int .u64 lsn) := hlog.cell 6
    have f6 := hlog.frozen 6
    have hxb := Now.blk (pre:=[]) hS9
    have d0 : w10.cell? ⟨x,0,none⟩ = some (.int .i64 T.open_) := hxb.cell 0
    have d1 : w10.cell? ⟨x,1,none⟩ = some (.int .i64 (T.len T.open_)) := hxb.cell 1
    have hS10 := Lib.hid (Now.set_ (pre:=[_]) (Now.set_ (pre:=[_]) (Now.set_ (pre:=[_,_,_]) hS9 6 (.int .u64 (lsn + 1))) 0 (.int .i64 T.open_)) 1 (.int .i64 (T.len T.open_)))
    have hux : (lsn + 1) % 18446744073709551616 = lsn + 1 := Int.emod_eq_of_lt (by omega) hl.2
    have huw : IntKind.u64.wrap (lsn + 1) = lsn + 1 := IntWalk.u64_in _ (by omega)
    clear hlog hxb hS9
    go_wp2_with fail
    refine bodyPost_ret (v := .tuple #[.agg #[.int .i64 T.open_, .int .i64 (T.len T.open_)], .int .i64 0]) ?_ rfl ⟨fun _ => ⟨rfl,Now.drop (pre:=[]) (Now.drop (pre:=[]) (Now.drop (pre:=[]) hS10.out))⟩,fun y hy he => absurd (he.symm.trans HWE.out) hy⟩
    exact results_row_tmp rfl _ _ _ _ _ _ _ (by simp) (by simp) (Now.blk (pre:=[_]) hS10.out) Tryz.underlying90 rfl (by kernel_rfl)
  · have hws : r.writeS (secOf T.slots T.open_ (T.len T.open_)) SC = r := by unfold RDsk.writeS;rw [hwe,if_neg h0]
    rw [hws] at hS9
    have hne : (we == 0) = false := beq_eq_false_iff_ne.2 h0
    have HWE := Lib.hid hwe
    have hS10 := Lib.hid (Now.set_ (pre:=[_]) (Now.set_ (pre:=[_]) hS9 0 (.int .i64 0)) 1 (.int .i64 0))
    clear hwe hS9 hws
    go_wp2_with fail
    refine bodyPost_ret (v := .tuple #[.agg #[.int .i64 0, .int .i64 0], .int .i64 we]) ?_ rfl ⟨fun h => absurd (HWE.out.symm.trans h) h0,fun y _ hy => ⟨by rw [← HWE.out];exact congrArg (fun z => Ending.returned (.tuple #[.agg #[.int .i64 0, .int .i64 0], .int .i64 z])) hy,Now.drop (pre:=[]) (Now.drop (pre:=[]) (Now.drop (pre:=[]) hS10.out))⟩⟩
    exact results_row_tmp rfl _ _ _ _ _ _ _ (by simp) (by simp) (Now.blk (pre:=[_]) hS10.out) Tryz.underlying90 rfl (by kernel_rfl)
end Go.Proofs.YtidacaihmjdmkaaGreat
