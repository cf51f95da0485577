/- What the laws of this seat lean on, part 10. -/
import Derived.Test.YtidacaihmjdmkaaGreatZK9
import Derived.Test.YtidacaihmjdmkaaGreatProg
import Derived.Test.YtidacaihmjdmkaaGreatZK1
import Derived.WalkKit
import Derived.Lib.Hide
import Derived.WalkLawsBesides
import Derived.WalkSpells
import Derived.Test.YtidacaihmjdmkaaGreatZK4
import Derived.StillTailTactics
import Derived.Test.YtidacaihmjdmkaaGreatZK5
set_option linter.unusedSimpArgs false
set_option linter.unusedVariables false
set_option maxRecDepth 100000
namespace Go.Proofs.YtidacaihmjdmkaaGreat
open Go.RowKit
attribute [local go_sem high] run_mx run_mn
def Dsk.Good (d : Dsk) : Prop := (∀ p ∈ d.pend,p.2.size = 128) ∧ ∀ i s,d.held i = some s → s.size = 128
theorem zeros_size : zeros.size = 128 := by show (Array.replicate 128 (0 : UInt8)).size = 128;rw [Array.size_replicate]
theorem Dsk.Good.holds {d : Dsk} (h : d.Good) (i : Int) : (d.holds i).size = 128 := by
  unfold Dsk.holds
  cases hs : d.held i with
  | none => exact zeros_size
  | some s => exact h.2 i s hs
theorem mix_size (s r : ByteArray) (k : Nat) (hs : s.size = 128) (hr : r.size = 128) (hk : k ≤ 128) : (mix s r k).size = 128 := by
  have hsl : s.data.toList.length = 128 := by rw [Array.length_toList];exact hs
  have hrl : r.data.toList.length = 128 := by rw [Array.length_toList];exact hr
  show (s.data.toList.take k ++ r.data.toList.drop k).toArray.size = 128
  rw [List.size_toArray,List.length_append,List.length_take,List.length_drop,hsl,hrl]
  omega
theorem Dsk.Good.do_ {d : Dsk} (h : d.Good) {p : Int × ByteArray} (hp : p.2.size = 128) : (d.do_ p).Good := by
  refine ⟨h.1,fun i s hs => ?_⟩
  unfold Dsk.do_ upd at hs
  simp only at hs
  split at hs
  · cases hs;exact hp
  · exact h.2 i s hs
theorem cutAt_le (a : Int) : cutAt a ≤ 128 := by unfold cutAt;omega
theorem Dsk.Good.tear {d : Dsk} (h : d.Good) {p : Int × ByteArray} (hp : p.2.size = 128) (a : Int) : (d.tear p a).Good := Good.do_ h (mix_size _ _ _ hp (h.holds _) (cutAt_le a))
theorem Dsk.Good.use {d : Dsk} (h : d.Good) : d.use.Good := h
theorem Dsk.Good.write {d : Dsk} (h : d.Good) {i : Int} {s : ByteArray} (hs : s.size = 128) : (d.write i s).Good :=
  ⟨fun p hp => by
    rcases List.mem_append.1 hp with hp | hp
    · exact h.1 p hp
    · simp at hp;subst hp;exact hs,h.2⟩
def Dsk.crash1 (d : Dsk) (keep : List Bool) (torn at_ : Int) (k : Nat) (p : Int × ByteArray) : Dsk :=
  if keep[k]? = some true then d.do_ p else if (k : Int) = torn then d.tear p at_ else d
def Dsk.crashTo (d : Dsk) (keep : List Bool) (torn at_ : Int) (l : List (Int × ByteArray)) : Nat → Dsk
  | 0 => d
  | k + 1 => match l[k]? with
    | some p => (d.crashTo keep torn at_ l k).crash1 keep torn at_ k p
    | none => d.crashTo keep torn at_ l k
def Dsk.crash (d : Dsk) (keep : List Bool) (torn at_ : Int) : Dsk := { d.crashTo keep torn at_ d.pend d.pend.length with lim := false,left := 0,pend := [] }
theorem Dsk.crash1_kept (d : Dsk) (keep : List Bool) (torn at_ : Int) (k : Nat) (p : Int × ByteArray) : (d.crash1 keep torn at_ k p).pend = d.pend ∧ (d.crash1 keep torn at_ k p).n = d.n := by
  unfold crash1;split
  · exact ⟨rfl,rfl⟩
  · split <;> exact ⟨rfl,rfl⟩
theorem Dsk.crashTo_kept (d : Dsk) (keep : List Bool) (torn at_ : Int) (l : List (Int × ByteArray)) (k : Nat) : (d.crashTo keep torn at_ l k).pend = d.pend ∧ (d.crashTo keep torn at_ l k).n = d.n := by
  induction k with
  | zero => exact ⟨rfl,rfl⟩
  | succ k ih =>
    unfold crashTo
    split
    · have := crash1_kept (d.crashTo keep torn at_ l k) keep torn at_ k ‹_›
      exact ⟨this.1.trans ih.1,this.2.trans ih.2⟩
    · exact ih
theorem Dsk.Good.crashTo {d : Dsk} (h : d.Good) (keep : List Bool) (torn at_ : Int) (l : List (Int × ByteArray)) (hl : ∀ p ∈ l,p.2.size = 128) (k : Nat) : (d.crashTo keep torn at_ l k).Good := by
  induction k with
  | zero => exact h
  | succ k ih =>
    unfold Dsk.crashTo
    split
    · rename_i p hp
      have hps := hl p (List.mem_of_getElem? hp)
      unfold Dsk.crash1
      split
      · exact Good.do_ ih hps
      · split
        · exact Good.tear ih hps _
        · exact ih
    · exact ih
theorem Dsk.Good.crash {d : Dsk} (h : d.Good) (keep : List Bool) (torn at_ : Int) : (d.crash keep torn at_).Good :=
  ⟨by simp [Dsk.crash],(h.crashTo keep torn at_ d.pend h.1 _).2⟩
def Bools (w : World) (S : Nat → Prop) (A : Option Addr) (n : Nat) (bs : List Bool) : Prop := bs.length = n ∧ ∀ k,k < n → ∃ ad,A = some ad ∧ ¬ S (ad.add k).block ∧ w.cell? (ad.add k) = some (.bool (bs[k]?.getD false))
theorem Bools.keep {w w' : World} {S T : Nat → Prop} {A : Option Addr} {n : Nat} {bs : List Bool} (h : Bools w S A n bs) (hf : Fr T w w') (hs : ∀ k,T k → S k) : Bools w' S A n bs :=
  ⟨h.1,fun k hk => by
    obtain ⟨ad,e,hn,hc⟩ := h.2 k hk
    exact ⟨ad,e,hn,hf.cell hc (fun ht => hn (hs _ ht))⟩⟩
end Go.Proofs.YtidacaihmjdmkaaGreat
namespace Go.Proofs.YtidacaihmjdmkaaGreat
open Go.RowKit Go.Shelf
attribute [local go_sem] Oper.semAt_some
theorem backTo_all (zs : List (Int × ByteArray)) : (backTo zs zs.length).map (·.2) = zs.reverse := by
  apply List.ext_getElem
  · simp [backTo]
  · intro i h1 h2
    have hi : i < zs.length := by simpa using h2
    simp only [backTo,List.map_map,List.getElem_map,List.getElem_range,Function.comp,List.getElem_reverse]
    rw [List.getElem?_eq_getElem (by omega)]
    rfl
def Dsk.read (d : Dsk) (i : Int) : ByteArray := ((d.pend.reverse.find? fun p => p.1 == i).map (·.2)).getD (d.holds i)
theorem Dsk.read_none (d : Dsk) (i : Int) (h : ∀ x ∈ backTo d.pend d.pend.length,x.2.1 ≠ i) : d.read i = d.holds i := by
  unfold Dsk.read
  have : d.pend.reverse.find? (fun p => p.1 == i) = none := by
    rw [← backTo_all,List.find?_eq_none]
    intro p hp
    obtain ⟨x,hx,rfl⟩ := List.mem_map.1 hp
    simpa using h x hx
  rw [this];rfl
theorem Dsk.read_some (d : Dsk) (i : Int) (k : Nat) (hk : k ≤ d.pend.length) (ini : List (Nat × Int × ByteArray)) (last : Nat × Int × ByteArray) (e : backTo d.pend k = ini ++ [last]) (h : ∀ x ∈ ini,x.2.1 ≠ i) (hl : last.2.1 = i) : d.read i = last.2.2 := by
  unfold Dsk.read
  have hall : d.pend.reverse = (ini.map (·.2)) ++ last.2 :: ((backTo d.pend d.pend.length).drop k).map (·.2) := by
    rw [← backTo_all]
    have : backTo d.pend d.pend.length = backTo d.pend k ++ (backTo d.pend d.pend.length).drop k := by
      have h1 : backTo d.pend k = (backTo d.pend d.pend.length).take k := by
        unfold backTo
        rw [← List.map_take,List.take_range,Nat.min_eq_left hk]
      rw [h1,List.take_append_drop]
    rw [e] at this
    have h3 := congrArg (List.map (·.2)) this
    simp only [List.map_append,List.map_cons,List.append_assoc,List.cons_append,List.nil_append] at h3
    exact h3
  have hini : (ini.map (·.2)).find? (fun p => p.1 == i) = none := by
    rw [List.find?_eq_none]
    intro p hp
    obtain ⟨x,hx,rfl⟩ := List.mem_map.1 hp
    simpa using h x hx
  rw [hall,List.find?_append,hini,List.find?_cons_of_pos (by simpa using hl)]
  rfl
def Boxed2 (W : World) (B : Nat) (p : Int × ByteArray) : Prop := Blk W B 152 #[.int .i64 p.1, .string p.2]
theorem Boxed2.keep {W W' : World} {B : Nat} {p : Int × ByteArray} {row : Option Nat} (h : Boxed2 W B p) (hg : W.grownBy W' row) (hr : ∀ r,row = some r → ∃ o : Obj,W.heap[r]? = some o ∧ o.isCells = false) : Boxed2 W' B p := by
  refine Blk.grown h hg (fun e => ?_)
  obtain ⟨o,h1,h2⟩ := hr B e.symm
  unfold Boxed2 Blk at h
  rw [h] at h1
  cases h1
  simp [Obj.isCells] at h2
set_option maxRecDepth 100000 in
set_option maxHeartbeats 4000000 in
theorem Read_ok (g b : Nat) (v : Value) (d : Dsk) (i : Int) (w : World) (h : DskAt w g b v d) (hi : 0 ≤ i ∧ i < d.n) (hp : d.pend.length ≤ 1000000000) :
    Calls Tryz.prog 57 #[.pointer (some ⟨g,0,none⟩), .int .i64 i] w fun e w' => e = .returned (.tuple #[.string (d.read i), .int .i64 0]) ∧ Below w.heap.size w w' := by
  have hd : decide (0 ≤ i ∧ i < d.n) = true := by simpa using hi
  clear hi
  obtain ⟨A,c,rfl,_⟩ := own_slice2 h.row
  refine (callsIn_wide (n := 4)).1 ?_
  refine callsIn_of_wp_marks Tryz.func57 rfl trivial ?_ rfl
  simp only [Tryz.ntmps57,List.size_toArray,List.length_cons,List.length_nil,Nat.reduceAdd,Nat.reduceSub,Array.replicate_succ,Array.replicate_zero,List.push_toArray,List.append_toArray,List.nil_append,List.cons_append]
  have h3 := ((h.alloc (.cells #[.int .i64 i] 3)).alloc (.cells #[.string ⟨#[]⟩] 9)).alloc (.cells #[.int .i64 0] 31)
  have hhas := has_any g b _ d i _ h3
  rw [hd] at hhas
  obtain ⟨c0,c1,c2,c3,c4⟩ := h3.cells
  have hz := h.blk.lt
  have hlt := fun q hq => h.lt (k := q) hq
  have hat : ∀ (W : World),Below w.heap.size w W → ∀ j,j < d.pend.length → ∃ ad,A = some ad ∧ (ad.add (j * 2)).block < w.heap.size ∧ W.cell? (ad.add (j * 2)) = some (.int .i64 (d.pend[j]?.getD (0,ByteArray.empty)).1) ∧ W.cell? ⟨(ad.add (j * 2)).block,(ad.add (j * 2)).off + 1,none⟩ = some (.string (d.pend[j]?.getD (0,ByteArray.empty)).2) := by
    intro W hb j hj
    obtain ⟨ad,e,h1,h2⟩ := h.at_ (List.getElem?_eq_getElem hj)
    rw [List.getElem?_eq_getElem hj]
    have hbl : (ad.add (j * 2)).block < w.heap.size := lt_of_cell h1
    exact ⟨ad,e,hbl,(hb.cell hbl).trans h1,(hb.cell (p := ⟨(ad.add (j * 2)).block,(ad.add (j * 2)).off + 1,none⟩) hbl).trans h2⟩
  have b0 := (((Boxed.new w 3 (.int .i64 i)).alloc (.cells #[.string ⟨#[]⟩] 9)).alloc (.cells #[.int .i64 0] 31)).alloc (.cells #[.slice A d.pend.length c] 142)
  have b1 := ((Boxed.new (w.alloc (.cells #[.int .i64 i] 3)) 9 (.string ⟨#[]⟩)).alloc (.cells #[.int .i64 0] 31)).alloc (.cells #[.slice A d.pend.length c] 142)
  have b2 := (Boxed.new ((w.alloc (.cells #[.int .i64 i] 3)).alloc (.cells #[.string ⟨#[]⟩] 9)) 31 (.int .i64 0)).alloc (.cells #[.slice A d.pend.length c] 142)
  have b3 := Boxed.new (((w.alloc (.cells #[.int .i64 i] 3)).alloc (.cells #[.string ⟨#[]⟩] 9)).alloc (.cells #[.int .i64 0] 31)) 142 (.slice A d.pend.length c)
  simp only [World.size_alloc] at b1 b2 b3
  have hB0 : Below w.heap.size w ((((w.alloc (.cells #[.int .i64 i] 3)).alloc (.cells #[.string ⟨#[]⟩] 9)).alloc (.cells #[.int .i64 0] 31)).alloc (.cells #[.slice A d.pend.length c] 142)) := ((((Below.refl _ w).alloc (Nat.le_refl _) _).alloc (by simp) _).alloc (by simp;omega) _).alloc (by simp;omega) _
  have hsz : ((((w.alloc (.cells #[.int .i64 i] 3)).alloc (.cells #[.string ⟨#[]⟩] 9)).alloc (.cells #[.int .i64 0] 31)).alloc (.cells #[.slice A d.pend.length c] 142)).heap.size = w.heap.size + 4 := by simp
  gi_wp2_with (first | (refine ⟨trivial,?_⟩;gi_at_call 71;refine (callsIn_wide.2 hhas).mono ?_;rintro e w' ⟨rfl,rfl⟩) | (refine ⟨trivial,?_⟩;gi_at_call 111;refine (back_in Fence.wide _ trivial rfl _ _ _ _).mono ?_;rintro e w' ⟨rfl,rfl⟩))
  clear c0 c1 c2 c3 c4 hhas h3
  obtain ⟨W0,hW0⟩ : ∃ W0,(((w.alloc (.cells #[.int .i64 i] 3)).alloc (.cells #[.string ⟨#[]⟩] 9)).alloc (.cells #[.int .i64 0] 31)).alloc (.cells #[.slice A d.pend.length c] 142) = W0 := ⟨_,rfl⟩
  rw [hW0] at b0 b1 b2 b3 hB0 hsz ⊢
  clear hW0
  refine wpIn_rangeFunc_ownH (F := Fence.wide) (n := 4) rfl (by omega) (gf := 152) (lb := #[.pointer (some ⟨w.heap.size + 1 + 1 + 1,0,none⟩)]) rfl trivial (enters_of Tryz.func152 (by kernel_rfl) rfl)
    (back_stops Fence.wide 3 trivial rfl (by omega) (w.heap.size + 1 + 1 + 1) W0.heap.size A c d.pend hp W0 (by omega) (Nat.le_refl _) b3.cell (fun j hj => by obtain ⟨ad,e,h1,h2,h3⟩ := hat W0 hB0 j hj;exact ⟨ad,e,by omega,h2,h3⟩)) belowK_t (belowK_b (Nat.le_refl _)) (Below.refl _ _) (fun _ => rfl)
    (fun pre W => (((((∀ x ∈ pre,x.2.1 ≠ i) ∧ Boxed W w.heap.size 3 (.int .i64 i)) ∧ Boxed W (w.heap.size + 1) 9 (.string ⟨#[]⟩)) ∧ Boxed W (w.heap.size + 1 + 1) 31 (.int .i64 0)) ∧ Below W0.heap.size W0 W))
    (fun c' pre W => (((c' = .ret ∧ ∃ ini last,pre = ini ++ [last] ∧ (∀ x ∈ ini,x.2.1 ≠ i) ∧ last.2.1 = i ∧ Boxed W (w.heap.size + 1) 9 (.string last.2.2)) ∧ Boxed W (w.heap.size + 1 + 1) 31 (.int .i64 0)) ∧ Below w.heap.size w W))
    (OwnFrom.and (OwnFrom.and (OwnFrom.and (OwnFrom.and (ownFrom_pure _ _) (Own.from (boxed_own _ _ _) _)) (Own.from (boxed_own _ _ _) _)) (Own.from (boxed_own _ _ _) _)) (ownFrom_below (Nat.le_refl _) (by omega)))
    (fun c' => OwnFrom.and (OwnFrom.and (fun s X Y row hs hg hr => by
      obtain ⟨e0,ini,last,e1,e2,e3,e4⟩ := hs
      exact ⟨e0,ini,last,e1,e2,e3,boxed_own (w.heap.size + 1) 9 (fun (_ : Unit) => Value.string last.2.2) () X Y row e4 hg (fun r e => (hr r e).2)⟩) (Own.from (boxed_own _ _ _) _)) (ownFrom_below (Nat.le_refl _) (by omega)))
    ⟨⟨⟨⟨by simp,b0⟩,b1⟩,b2⟩,Below.refl _ _⟩
    (fun x a' W => ∃ Bx,W0.heap.size ≤ Bx ∧ Boxed2 W Bx x.2 ∧ a' = { tmps := #[.pointer (some ⟨g,0,none⟩), .int .i64 i,undef, .pointer (some ⟨w.heap.size,0,none⟩), .pointer (some ⟨w.heap.size + 1,0,none⟩), .pointer (some ⟨w.heap.size + 1 + 1,0,none⟩),undef, .pointer (some ⟨Bx,0,none⟩), .pointer (some ⟨g,0,none⟩), .int .i64 i, .bool true, .bool false, .pointer (some ⟨g,0,none⟩), .pointer (some ⟨g,0,none⟩), .pointer (some ⟨g,4,none⟩), .slice A d.pend.length c, .func (.func 152) #[] #[.pointer (some ⟨w.heap.size + 1 + 1 + 1,0,none⟩)], .int .i64 (x.1 : Int), .agg #[.int .i64 x.2.1, .string x.2.2],undef,undef,undef,undef,undef,undef,undef,undef,undef],defers := [] })
    (fun x a' _ X Y row hs hg hr => by obtain ⟨Bx,e1,e2,e3⟩ := hs;exact ⟨Bx,e1,e2.keep hg (fun r e => (hr r e).2),e3⟩)
    ?assign ?body ?done ?stop
  case assign =>
    rintro l pre x W K ⟨⟨⟨⟨hp1,bA⟩,bB⟩,bC⟩,hB1⟩ hK
    gi_wp2
    exact hK _ _ ((KeepsOthers.alloc _ _).from _) ((Below.refl _ W).alloc hB1.size _) ⟨⟨⟨⟨hp1,bA.alloc _⟩,bB.alloc _⟩,bC.alloc _⟩,hB1.alloc hB1.size _⟩ ⟨W.heap.size,hB1.size,Blk.new _ _ _,rfl⟩
  case body =>
    rintro l pre x a' W hl ⟨r,hr⟩ ⟨⟨⟨⟨hp1,bA⟩,bB⟩,bC⟩,hB1⟩ ⟨Bx,hBx,bX,rfl⟩ hlt'
    have cA := bA.cell
    have cB := bB.cell
    have fB := bB.frozen
    have cC := bC.cell
    have fC := bC.frozen
    have x0 : W.cell? ⟨Bx,0,none⟩ = some (.int .i64 x.2.1) := bX.cell 0
    have x1 : W.cell? ⟨Bx,1,none⟩ = some (.string x.2.2) := bX.cell 1
    have hBw := hB0.trans (hB1.mono (B' := w.heap.size) (by omega))
    by_cases hx : x.2.1 = i
    · have hx1 : x.2.1 ≤ i := by omega
      have hx2 : i ≤ x.2.1 := by omega
      have HX := Lib.hid hx
      clear hx
      gi_wp2
      exact ⟨((KeepsOthers.setCell _ _ _).trans (KeepsOthers.setCell _ _ _)).from _,⟨⟨rfl,pre,x,rfl,hp1,HX.out,(bB.set _).other (by omega) _⟩,(bC.other (by omega) _).set _⟩,(hBw.setCell (p := ⟨w.heap.size + 1,0,none⟩) (by simp) _).setCell (p := ⟨w.heap.size + 1 + 1,0,none⟩) (by simp;omega) _⟩
    · gi_wp2
      exact ⟨KeepsFrom.refl _ _,Below.refl _ _,⟨⟨⟨fun z hz => (List.mem_append.1 hz).elim (hp1 z) (fun e => by simp at e;subst e;exact hx),bA⟩,bB⟩,bC⟩,hB1⟩
  case done =>
    rintro D ys W hD rfl ⟨⟨⟨⟨hp1,bA⟩,bB⟩,bC⟩,hB1⟩ hK
    have hBw := hB0.trans (hB1.mono (B' := w.heap.size) (by omega))
    have hread := d.read_none i hp1
    have hho := holds_any g b _ d i W (h.keep (S := fun _ => False) (Fr.of_below hBw) (fun _ _ h => h))
    rw [← hread] at hho
    obtain ⟨rd,hrd⟩ : ∃ rd,d.read i = rd := ⟨_,rfl⟩
    rw [hrd] at hho
    have HRD := Lib.hid hrd
    have cA := bA.cell
    clear hread hrd
    gi_wp2_with (refine ⟨trivial,?_⟩;gi_at_call 112;refine (callsIn_wide.2 hho).mono ?_;rintro e W1 ⟨rfl,hb1⟩;have bB' : Boxed W1 (w.heap.size + 1) 9 (.string ⟨#[]⟩) := (hb1.block _ bB.lt).trans bB;have bC' : Boxed W1 (w.heap.size + 1 + 1) 31 (.int .i64 0) := (hb1.block _ bC.lt).trans bC;have cB := bB'.cell;have fB := bB'.frozen;have cC := bC'.cell;have fC := bC'.frozen;have hK1 : W1.heap[D]? = some (.deferred (some [])) := (hb1.block _ (Array.getElem?_eq_some_iff.1 hK).1).trans hK)
    have hK2 := ((KeepsOthers.setCell W1 ⟨w.heap.size + 1,0,none⟩ (.string rd)).trans (KeepsOthers.setCell _ ⟨w.heap.size + 1 + 1,0,none⟩ (.int .i64 0))).same D _ hK1 rfl
    refine ⟨by simp, .inl ⟨_,_,rfl,run_takeDeferred hK2,?_⟩⟩
    have hc5 := cell_kept ((bB'.set (.string rd)).other (B' := w.heap.size + 1 + 1) (by omega) (.int .i64 0)).cell (grownBy_putObj' _ D (.deferred none)) (fun r e => by cases e;exact ⟨_,hK2,rfl⟩)
    have hc6 := cell_kept ((bC'.other (B' := w.heap.size + 1) (by omega) (.string rd)).set (.int .i64 0)).cell (grownBy_putObj' _ D (.deferred none)) (fun r e => by cases e;exact ⟨_,hK2,rfl⟩)
    have hBz := hBw.size
    have hB2 : Below w.heap.size w ((W1.setCell ⟨w.heap.size + 1,0,none⟩ (.string rd)).setCell ⟨w.heap.size + 1 + 1,0,none⟩ (.int .i64 0)) := ((hBw.trans (hb1.mono hBz)).setCell (p := ⟨w.heap.size + 1,0,none⟩) (by simp) _).setCell (p := ⟨w.heap.size + 1 + 1,0,none⟩) (by simp;omega) _
    refine ⟨.tuple #[.string rd, .int .i64 0],?_,by rw [HRD.out],hB2.trans (belowK_b (w := w) (Nat.le_refl _) _ D _ _ (by omega) hK2 rfl rfl)⟩
    simp [results,Tryz.f57,go_sem,hc5,hc6]
  case stop =>
    rintro D c' pre W hD ⟨k,hk,rfl⟩ ⟨⟨⟨rfl,ini,last,e1,e2,e3,bB⟩,bC⟩,hBw⟩ hK
    have hread := d.read_some i k hk ini last e1 e2 e3
    gi_wp2
    refine ⟨by simp, .inl ⟨_,_,rfl,run_takeDeferred hK,?_⟩⟩
    have hc5 := cell_kept bB.cell (grownBy_putObj' _ D (.deferred none)) (fun r e => by cases e;exact ⟨_,hK,rfl⟩)
    have hc6 := cell_kept bC.cell (grownBy_putObj' _ D (.deferred none)) (fun r e => by cases e;exact ⟨_,hK,rfl⟩)
    refine ⟨.tuple #[.string last.2.2, .int .i64 0],?_,by rw [hread],hBw.trans (belowK_b (w := w) (Nat.le_refl _) W D _ _ (by omega) hK rfl rfl)⟩
    simp [results,Tryz.f57,go_sem,hc5,hc6]
set_option maxHeartbeats 1000000 in
theorem Read_bad (g b : Nat) (v : Value) (d : Dsk) (i : Int) (w : World) (h : DskAt w g b v d) (hi : ¬ (0 ≤ i ∧ i < d.n)) :
    Calls Tryz.prog 57 #[.pointer (some ⟨g,0,none⟩), .int .i64 i] w fun e w' => e = .returned (.tuple #[.string ⟨#[]⟩, .int .i64 1]) ∧ Below w.heap.size w w' := by
  have hd : decide (0 ≤ i ∧ i < d.n) = false := by simpa using hi
  clear hi
  have h3 := ((h.alloc (.cells #[.int .i64 i] 3)).alloc (.cells #[.string ⟨#[]⟩] 9)).alloc (.cells #[.int .i64 0] 31)
  have hhas := has_any g b _ d i _ h3
  rw [hd] at hhas
  clear h3 h
  go_enter Tryz.func57,Tryz.ntmps57
  go_wp2_with (go_at_call 71;refine hhas.mono ?_;rintro e w' ⟨rfl,rfl⟩)
  exact bodyPost_ret (v := .tuple #[.string ⟨#[]⟩, .int .i64 1]) (by simp [results,Tryz.f57,go_sem]) rfl ⟨rfl,(((Below.refl _ w).alloc (Nat.le_refl _) _).alloc (by simp) _).alloc (by simp;omega) _⟩
end Go.Proofs.YtidacaihmjdmkaaGreat
namespace Go.Proofs.YtidacaihmjdmkaaGreat
open Go.RowKit
attribute [local go_sem high] run_mx run_mn
def zeroN (k : Nat) : ByteArray := ⟨Array.replicate k 0⟩
theorem zeroN_succ (k : Nat) : zeroN (k + 1) = zeroN k ++ ⟨#[0]⟩ := by
  apply ByteArray.ext
  show Array.replicate (k + 1) 0 = (zeroN k ++ ⟨#[0]⟩).data
  rw [ByteArray.data_append]
  show _ = Array.replicate k 0 ++ #[0]
  rw [Array.replicate_succ];rfl
set_option maxRecDepth 100000 in
theorem Zero_any (w : World) : Calls Tryz.prog 54 #[] w fun e w' => e = .returned (.string zeros) ∧ w = w' := by
  go_enter Tryz.func54,Tryz.ntmps54
  go_wp2
  go_loop [1,2] (fun s i => ∃ k : Nat,k ≤ 128 ∧ i = .int .i64 k ∧ s = .string (zeroN k)) (fun _ i => 128 - (intOf i).toNat)
  case atStart => exact ⟨0,by omega,rfl,rfl⟩
  case round =>
    obtain ⟨k,hk,rfl,rfl⟩ := hrel
    by_cases hlt : k < 128
    · have hadd : (Op.stringOp .add (zeroN k) ⟨#[0]⟩).run Tryz.prog w = .ok (.string (zeroN (k + 1))) w := by
        rw [run_string_add_sum, ← zeroN_succ]
        show (Array.replicate k (0 : UInt8)).size + 1 ≤ _
        rw [Array.size_replicate];omega
      go_wp2
      go_round
      case rel => exact ⟨k + 1,by omega,by go_num,rfl⟩
      case measure => simp [intOf];omega
    · obtain rfl : k = 128 := by omega
      go_wp2
      go_ret
      exact ⟨rfl,rfl⟩
end Go.Proofs.YtidacaihmjdmkaaGreat
namespace Go.Proofs.YtidacaihmjdmkaaGreat
open Go.RowKit
attribute [local go_sem high] run_mx run_mn
def Dsk.dead (d : Dsk) : Bool := d.lim && decide (d.left < 1)
def Dsk.writeE (d : Dsk) (i : Int) (s : ByteArray) : Int := if 0 ≤ i ∧ i < d.n then (if s.size = 128 then (if d.dead then 9 else 0) else 5) else 1
def Dsk.writeS (d : Dsk) (i : Int) (s : ByteArray) : Dsk := if d.writeE i s = 0 then d.write i s else d
def Dsk.flushE (d : Dsk) : Int := if d.dead then 9 else 0
def Dsk.flushS (d : Dsk) : Dsk := if d.dead then d else d.flush
def Dsk.readE (d : Dsk) (i : Int) : Int := if 0 ≤ i ∧ i < d.n then 0 else 1
def Dsk.readV (d : Dsk) (i : Int) : ByteArray := if 0 ≤ i ∧ i < d.n then d.read i else ⟨#[]⟩
def Dsk.limit (d : Dsk) (n : Int) : Dsk := { d with lim := true,left := n }
theorem Dsk.dead_no {d : Dsk} (h : d.dead = false) : d.lim = false ∨ 1 ≤ d.left := by
  unfold Dsk.dead at h
  cases hl : d.lim with
  | false => exact .inl rfl
  | true => rw [hl] at h;simp at h;exact .inr (by omega)
theorem Dsk.dead_yes {d : Dsk} (h : d.dead = true) : d.lim = true ∧ d.left < 1 := by
  unfold Dsk.dead at h
  simpa using h
theorem Write_all (g b : Nat) (v : Value) (d : Dsk) (i : Int) (s : ByteArray) (w : World) (h : DskAt w g b v d) (hp : d.pend.length ≤ 1000000000) :
    Calls Tryz.prog 23 #[.pointer (some ⟨g,0,none⟩), .int .i64 i, .string s] w fun e w' => e = .returned (.int .i64 (d.writeE i s)) ∧
      ∃ v',DskAt w' g b v' (d.writeS i s) ∧ Fr (foot g b v) w w' ∧ ∀ k,foot g b v' k → foot g b v k ∨ w.heap.size ≤ k := by
  unfold Dsk.writeS Dsk.writeE
  by_cases hi : 0 ≤ i ∧ i < d.n
  · by_cases hs : s.size = 128
    · cases hd : d.dead with
      | true =>
        rw [if_pos hi,if_pos hs,if_pos rfl,if_neg (by omega)]
        exact (Write_dead g b v d i s w h hi hs (d.dead_yes hd).1 (d.dead_yes hd).2).mono fun e w' ⟨he,hw⟩ => ⟨he,v,hw ▸ h,hw ▸ Fr.refl _ _,fun _ hk => .inl hk⟩
      | false =>
        rw [if_pos hi,if_pos hs,if_neg (by simp),if_pos rfl]
        exact Write_ok g b v d i s w h hi hs (d.dead_no hd) hp
    · rw [if_pos hi,if_neg hs,if_neg (by omega)]
      exact (Write_form g b v d i s w h hi hs).mono fun e w' ⟨he,hw⟩ => ⟨he,v,hw ▸ h,hw ▸ Fr.refl _ _,fun _ hk => .inl hk⟩
  · rw [if_neg hi,if_neg (by omega)]
    exact (Write_bad g b v d i s w h hi).mono fun e w' ⟨he,hw⟩ => ⟨he,v,hw ▸ h,hw ▸ Fr.refl _ _,fun _ hk => .inl hk⟩
theorem Flush_all (g b : Nat) (v : Value) (d : Dsk) (w : World) (h : DskAt w g b v d) (hp : d.pend.length ≤ 1000000000) :
    Calls Tryz.prog 33 #[.pointer (some ⟨g,0,none⟩)] w fun e w' => e = .returned (.int .i64 d.flushE) ∧
      ∃ v',DskAt w' g b v' d.flushS ∧ Fr (foot g b v) w w' ∧ ∀ k,foot g b v' k → foot g b v k ∨ w.heap.size ≤ k := by
  unfold Dsk.flushS Dsk.flushE
  cases hd : d.dead with
  | true =>
    rw [if_pos rfl,if_pos rfl]
    exact (Flush_dead g b v d w h (d.dead_yes hd).1 (d.dead_yes hd).2).mono fun e w' ⟨he,hw⟩ => ⟨he,v,hw ▸ h,hw ▸ Fr.refl _ _,fun _ hk => .inl hk⟩
  | false =>
    rw [if_neg (by simp),if_neg (by simp)]
    exact (Flush_ok g b v d w h (d.dead_no hd) hp).mono fun e w' ⟨he,hw,hf⟩ => ⟨he,_,hw,hf,fun k hk => by
      rcases hk with hk | hk | hk
      · exact .inl (.inl hk)
      · exact .inl (.inr (.inl hk))
      · simp [Value.ownBlock] at hk⟩
theorem Read_all (g b : Nat) (v : Value) (d : Dsk) (i : Int) (w : World) (h : DskAt w g b v d) (hp : d.pend.length ≤ 1000000000) :
    Calls Tryz.prog 57 #[.pointer (some ⟨g,0,none⟩), .int .i64 i] w fun e w' => e = .returned (.tuple #[.string (d.readV i), .int .i64 (d.readE i)]) ∧ Below w.heap.size w w' := by
  unfold Dsk.readV Dsk.readE
  by_cases hi : 0 ≤ i ∧ i < d.n
  · rw [if_pos hi,if_pos hi];exact Read_ok g b v d i w h hi hp
  · rw [if_neg hi,if_neg hi];exact Read_bad g b v d i w h hi
structure Slot where
  g : Nat
  b : Nat
  v : Value
  d : Dsk
def Slot.foot (s : Slot) : Nat → Prop := Go.Proofs.YtidacaihmjdmkaaGreat.foot s.g s.b s.v
def Slot.at_ (w : World) (s : Slot) : Prop := DskAt w s.g s.b s.v s.d
def Slot.apart (s t : Slot) : Prop := ∀ k,s.foot k → ¬ t.foot k
def Disks (B : Nat) (W w : World) (l : List (Nat × Dsk)) : Prop :=
  ∃ L : List Slot,L.map (fun s => (s.g,s.d)) = l ∧ (∀ s ∈ L,s.at_ w) ∧ L.Pairwise Slot.apart ∧ (∀ s ∈ L,∀ k,s.foot k → B ≤ k) ∧ Below B W w ∧ B ≤ w.heap.size
section
variable {B : Nat} {W w w' : World} {l pre post : List (Nat × Dsk)} {g : Nat} {d d' : Dsk}
theorem Disks.start (W : World) : Disks W.heap.size W W [] := ⟨[],rfl,by simp,by simp,by simp,Below.refl _ _,Nat.le_refl _⟩
theorem Disks.base (h : Disks B W w l) : Below B W w := by obtain ⟨L,_,_,_,_,hb,_⟩ := h;exact hb
theorem Disks.size (h : Disks B W w l) : B ≤ w.heap.size := by obtain ⟨L,_,_,_,_,_,hb⟩ := h;exact hb
theorem Disks.below (h : Disks B W w l) (hb : Below w.heap.size w w') : Disks B W w' l := by
  obtain ⟨L,e,h1,h2,h3,h4,h5⟩ := h
  exact ⟨L,e,fun s hs => DskAt.below (h1 s hs) hb,h2,h3,h4.trans (hb.mono h5),Nat.le_trans h5 hb.size⟩
theorem Disks.drew (h : Disks B W w l) : Disks B W w.drew l := h.below ⟨rfl,rfl,rfl,Nat.le_refl _,fun _ _ => rfl⟩
theorem Disks.alloc (h : Disks B W w l) (o : Obj) : Disks B W (w.alloc o) l := h.below ((Below.refl _ _).alloc (Nat.le_refl _) o)
theorem Disks.fr {S : Nat → Prop} (h : Disks B W w l) (hf : Fr S w w') (hs : ∀ k,k < w.heap.size → S k → B ≤ k) (hn : ∀ L : List Slot,(∀ s ∈ L,s.at_ w) → L.map (fun s => (s.g,s.d)) = l → ∀ s ∈ L,∀ k,s.foot k → ¬ S k) : Disks B W w' l := by
  obtain ⟨L,e,h1,h2,h3,h4,h5⟩ := h
  exact ⟨L,e,fun s hs' => DskAt.keep (h1 s hs') hf (hn L h1 e s hs'),h2,h3,h4.trans (hf.below h5 hs),Nat.le_trans h5 hf.size⟩
theorem Disks.split (h : Disks B W w (pre ++ (g,d) :: post)) : ∃ b v,DskAt w g b v d ∧
    ∀ w' b' v' d',b' = b → DskAt w' g b' v' d' → Fr (foot g b v) w w' → (∀ k,foot g b' v' k → foot g b v k ∨ w.heap.size ≤ k) → Disks B W w' (pre ++ (g,d') :: post) := by
  obtain ⟨L,e,h1,h2,h3,h4,h5⟩ := h
  obtain ⟨L1,L2,rfl,e1,e2⟩ := List.map_eq_append_iff.1 e
  obtain ⟨s,L3,rfl,e3,e4⟩ := List.map_eq_cons_iff.1 e2
  obtain ⟨g0,b,v,d0⟩ := s
  simp only [Prod.mk.injEq] at e3
  obtain ⟨rfl,rfl⟩ := e3
  have hs : DskAt w g0 b v d0 := h1 ⟨g0,b,v,d0⟩ (by simp)
  refine ⟨b,v,hs,?_⟩
  rintro w' b' v' d' rfl hD hF hn
  rw [List.pairwise_append,List.pairwise_cons] at h2
  obtain ⟨p1,⟨p2,p3⟩,p4⟩ := h2
  have hlt : ∀ t : Slot,t ∈ L1 ++ ⟨g0,b',v,d0⟩ :: L3 → ∀ k,t.foot k → k < w.heap.size := fun t ht k hk => DskAt.lt (h1 t ht) hk
  refine ⟨L1 ++ ⟨g0,b',v',d'⟩ :: L3,by simp [e1,e4],?_,?_,?_,?_,Nat.le_trans h5 hF.size⟩
  · intro t ht
    rcases List.mem_append.1 ht with ht | ht
    · exact DskAt.keep (h1 t (by simp [ht])) hF (fun k hk hk' => p4 t ht ⟨g0,b',v,d0⟩ (by simp) k hk hk')
    · rcases List.mem_cons.1 ht with rfl | ht
      · exact hD
      · exact DskAt.keep (h1 t (by simp [ht])) hF (fun k hk hk' => p2 t ht k hk' hk)
  · rw [List.pairwise_append,List.pairwise_cons]
    refine ⟨p1,⟨fun t ht k hk hk' => ?_,p3⟩,fun t ht u hu => ?_⟩
    · rcases hn k hk with h | h
      · exact p2 t ht k h hk'
      · have := hlt t (by simp [ht]) k hk';omega
    · rcases List.mem_cons.1 hu with rfl | hu
      · intro k hk hk'
        rcases hn k hk' with h | h
        · exact p4 t ht ⟨g0,b',v,d0⟩ (by simp) k hk h
        · have := hlt t (by simp [ht]) k hk;omega
      · exact p4 t ht u (by simp [hu])
  · intro t ht k hk
    rcases List.mem_append.1 ht with ht | ht
    · exact h3 t (by simp [ht]) k hk
    · rcases List.mem_cons.1 ht with rfl | ht
      · rcases hn k hk with h | h
        · exact h3 ⟨g0,b',v,d0⟩ (by simp) k h
        · omega
      · exact h3 t (by simp [ht]) k hk
  · exact h4.trans (hF.below h5 (fun k _ hk => h3 ⟨g0,b',v,d0⟩ (by simp) k hk))
theorem Disks.push (h : Disks B W w l) {b : Nat} {v : Value} (hb : Below w.heap.size w w') (hD : DskAt w' g b v d) (hn : ∀ k,foot g b v k → w.heap.size ≤ k) : Disks B W w' (l ++ [(g,d)]) := by
  obtain ⟨L,e,h1,h2,h3,h4,h5⟩ := h
  refine ⟨L ++ [⟨g,b,v,d⟩],by simp [e],?_,?_,?_,h4.trans (hb.mono h5),Nat.le_trans h5 hb.size⟩
  · intro t ht
    rcases List.mem_append.1 ht with ht | ht
    · exact DskAt.below (h1 t ht) hb
    · simp at ht;subst ht;exact hD
  · rw [List.pairwise_append]
    refine ⟨h2,by simp,fun t ht u hu k hk hk' => ?_⟩
    simp at hu;subst hu
    have := hn k hk'
    have := DskAt.lt (h1 t ht) hk
    omega
  · intro t ht k hk
    rcases List.mem_append.1 ht with ht | ht
    · exact h3 t ht k hk
    · simp at ht;subst ht;have := hn k hk;omega
end
section
variable {B : Nat} {W w : World} {l : List (Nat × Dsk)} {g : Nat} {d : Dsk}
end
end Go.Proofs.YtidacaihmjdmkaaGreat
namespace Go.Proofs.YtidacaihmjdmkaaGreat
open Go.RowKit
attribute [local go_sem high] run_mx run_mn
structure RDsk where
  L : List ByteArray
  pend : List (Int × ByteArray)
  left : Int
abbrev strs (l : List ByteArray) : List Value := l.map Value.string
abbrev wheres (l : List (Int × ByteArray)) : List Value := l.map fun p => Value.int .i64 p.1
abbrev whats (l : List (Int × ByteArray)) : List Value := l.map fun p => Value.string p.2
theorem wheres_snoc (l : List (Int × ByteArray)) (p : Int × ByteArray) : wheres (l ++ [p]) = wheres l ++ [Value.int .i64 p.1] := by simp [wheres]
theorem whats_snoc (l : List (Int × ByteArray)) (p : Int × ByteArray) : whats (l ++ [p]) = whats l ++ [Value.string p.2] := by simp [whats]
abbrev refParts (h : Nat) (vL vW vX : Value) (L : List ByteArray) (pd : List (Int × ByteArray)) (left : Int) : List Thing :=
  [Thing.cells h 53 #[vL,vW,vX, .int .i64 left],Thing.row 9 1 vL L.length (strs L),Thing.row 3 1 vW pd.length (wheres pd),Thing.row 9 1 vX pd.length (whats pd)]
def refT (h : Nat) (r : RDsk) : Thing := Thing.ex fun v : Value × Value × Value => Thing.all (refParts h v.1 v.2.1 v.2.2 r.L r.pend r.left)
def dskT (g : Nat) (d : Dsk) : Thing where
  is w S := ∃ b v,DskAt w g b v d ∧ ∀ k,S k ↔ foot g b v k
  keep := by
    rintro w w' S T ⟨b,v,h,hS⟩ hF hn
    exact ⟨b,v,h.keep hF (fun k hk => hn k ((hS k).2 hk)),hS⟩
  lt := by
    rintro w S k ⟨b,v,h,hS⟩ hk
    exact h.lt ((hS k).1 hk)
section
variable {S S0 : Nat → Prop} {w0 w w' : World} {h : Nat} {r r' : RDsk} {vL vW vX : Value} {L : List Thing} {Ls : List ByteArray} {pd : List (Int × ByteArray)} {left : Int}
theorem Now.refOpen (hN : Now S0 w0 w [refT h r]) : ∃ vL vW vX,Now S0 w0 w (refParts h vL vW vX r.L r.pend r.left) := by
  obtain ⟨S,⟨S1,S2,⟨⟨vL,vW,vX⟩,h1⟩,h2,hd,hS⟩,hF,hk⟩ := hN
  exact ⟨vL,vW,vX,S1,h1,hF,fun k h => hk k ((hS k).2 (.inl h))⟩
theorem Now.refClose (hN : Now S0 w0 w (refParts h vL vW vX Ls pd left)) : Now S0 w0 w [refT h ⟨Ls,pd,left⟩] := by
  obtain ⟨S,h1,h2⟩ := hN
  exact ⟨S,⟨S,fun _ => False,⟨(vL,vW,vX),h1⟩,fun _ h => h,fun _ _ h => h,fun _ => ⟨.inl,fun h => h.elim id False.elim⟩⟩,h2⟩
theorem Now.refCells (hN : Now S0 w0 w (refParts h vL vW vX Ls pd left)) : w.cell? ⟨h,0,none⟩ = some vL ∧ w.cell? ⟨h,1,none⟩ = some vW ∧ w.cell? ⟨h,2,none⟩ = some vX ∧ w.cell? ⟨h,3,none⟩ = some (.int .i64 left) ∧ ∀ i,w.frozen? ⟨h,i,none⟩ = false := by
  have hb := Now.blk (pre:=[]) hN
  refine ⟨?_,?_,?_,?_,fun i => hb.frozen i⟩ <;> (rw [hb.cell];rfl)
theorem Now.refRows (hN : Now S0 w0 w (refParts h vL vW vX Ls pd left)) : (∃ A c,vL = .slice A Ls.length c ∧ Reads w w.heap.size 1 A Ls.length (strs Ls)) ∧ (∃ A c,vW = .slice A pd.length c ∧ Reads w w.heap.size 1 A pd.length (wheres pd)) ∧ ∃ A c,vX = .slice A pd.length c ∧ Reads w w.heap.size 1 A pd.length (whats pd) :=
  ⟨own_slice (Now.row (pre:=[_]) hN),own_slice (Now.row (pre:=[_,_]) hN),own_slice (Now.row (pre:=[_,_,_]) hN)⟩
end
def RDsk.use (r : RDsk) : RDsk := { r with left := if 0 < r.left then r.left - 1 else r.left }
set_option maxRecDepth 100000 in
theorem Ruse_any (h : Nat) (r : RDsk) (hr : r.left ≤ 9223372036854775807) (hr2 : -9223372036854775808 ≤ r.left) : Loc Tryz.prog 73 #[.pointer (some ⟨h,0,none⟩)] (refT h r) (.bool (decide (r.left ≠ 0))) (refT h r.use) := by
  intro w S hO
  obtain ⟨vL,vW,vX,hN⟩ := (Now.start1 hO).refOpen
  obtain ⟨c0,c1,c2,c3,cf⟩ := hN.refCells
  have f3 := cf 3
  have hset := Now.set_ (pre:=[]) hN 3 (.int .i64 (r.left - 1))
  unfold RDsk.use
  obtain ⟨L,pd,left⟩ := r
  simp only at *
  clear c0 c1 c2 cf hO
  have hcase : left < 0 ∨ left = 0 ∨ 0 < left := by omega
  rcases hcase with hc | hc | hc
  · have e : decide (left ≠ 0) = true := by simp;omega
    rw [e,if_neg (by omega)]
    have HN := Lib.hid hN
    clear hset hN e
    go_enter Tryz.func73,Tryz.ntmps73
    go_wp2
    go_ret
    exact ⟨rfl,HN.out.refClose⟩
  · subst hc
    have HN := Lib.hid hN
    clear hset hN
    go_enter Tryz.func73,Tryz.ntmps73
    go_wp2
    go_ret
    exact ⟨rfl,HN.out.refClose⟩
  · have e : decide (left ≠ 0) = true := by simp;omega
    rw [e,if_pos hc]
    have HN := Lib.hid hset
    clear hset hN e
    go_enter Tryz.func73,Tryz.ntmps73
    go_wp2
    go_ret
    exact ⟨rfl,HN.out.refClose⟩
def RDsk.writeE (r : RDsk) (i : Int) (s : ByteArray) : Int := if 0 ≤ i ∧ i < r.L.length then (if s.size = 128 then (if r.left = 0 then 9 else 0) else 5) else 1
def RDsk.write (r : RDsk) (i : Int) (s : ByteArray) : RDsk := { r.use with pend := r.pend ++ [(i,s)] }
def RDsk.writeS (r : RDsk) (i : Int) (s : ByteArray) : RDsk := if r.writeE i s = 0 then r.write i s else r
structure RDsk.Fits (r : RDsk) : Prop where
  pos : 0 < r.L.length
  lo : -9223372036854775808 ≤ r.left
  hi : r.left ≤ 9223372036854775807
  len : r.L.length ≤ 4096
  pend : r.pend.length ≤ 1000000000
theorem infoStr5 : (Tryz.prog.info? 9).map (fun i => (i.zero,i.size,i.bytes)) = some (some (.string ByteArray.empty),1,16) := by kernel_rfl
theorem infoInt5 : (Tryz.prog.info? 3).map (fun i => (i.zero,i.size,i.bytes)) = some (some (.int .i64 0),1,8) := by kernel_rfl
theorem RWrite_bad (h : Nat) (r : RDsk) (i : Int) (s : ByteArray) (hr : r.Fits) (hi : ¬ (0 ≤ i ∧ i < r.L.length)) :
    Loc Tryz.prog 24 #[.pointer (some ⟨h,0,none⟩), .int .i64 i, .string s] (refT h r) (.int .i64 1) (refT h r) := by
  intro w S hO
  obtain ⟨vL,vW,vX,hN⟩ := (Now.start1 hO).refOpen
  obtain ⟨c0,c1,c2,c3,cf⟩ := hN.refCells
  obtain ⟨⟨A,c,rfl,_⟩,_⟩ := hN.refRows
  have HN := Lib.hid hN
  clear hN c1 c2 c3 cf hO hr
  by_cases h0 : i < 0
  · go_enter Tryz.func24,Tryz.ntmps24
    go_wp2
    go_ret
    exact ⟨rfl,HN.out.refClose⟩
  · have h1 : (r.L.length : Int) ≤ i := by omega
    clear hi
    go_enter Tryz.func24,Tryz.ntmps24
    go_wp2
    go_ret
    exact ⟨rfl,HN.out.refClose⟩
theorem RWrite_form (h : Nat) (r : RDsk) (i : Int) (s : ByteArray) (hr : r.Fits) (hi : 0 ≤ i ∧ i < r.L.length) (hs : s.size ≠ 128) :
    Loc Tryz.prog 24 #[.pointer (some ⟨h,0,none⟩), .int .i64 i, .string s] (refT h r) (.int .i64 5) (refT h r) := by
  intro w S hO
  obtain ⟨vL,vW,vX,hN⟩ := (Now.start1 hO).refOpen
  obtain ⟨c0,c1,c2,c3,cf⟩ := hN.refCells
  obtain ⟨⟨A,c,rfl,_⟩,_⟩ := hN.refRows
  have HN := Lib.hid hN
  have hs2 : ¬ (s.size : Int) = 128 := by omega
  obtain ⟨hi1,hi2⟩ := hi
  clear hN c1 c2 c3 cf hO hr hs
  go_enter Tryz.func24,Tryz.ntmps24
  go_wp2
  go_ret
  exact ⟨rfl,HN.out.refClose⟩
set_option maxRecDepth 100000 in
theorem RWrite_dead (h : Nat) (r : RDsk) (i : Int) (s : ByteArray) (hr : r.Fits) (hi : 0 ≤ i ∧ i < r.L.length) (hs : s.size = 128) (hl : r.left = 0) :
    Loc Tryz.prog 24 #[.pointer (some ⟨h,0,none⟩), .int .i64 i, .string s] (refT h r) (.int .i64 9) (refT h r) := by
  intro w S hO
  have hu := Ruse_any h r hr.hi hr.lo w S hO
  have e1 : decide (r.left ≠ 0) = false := by simp [hl]
  have e2 : r.use = r := by unfold RDsk.use;rw [if_neg (by omega)]
  rw [e1,e2] at hu
  obtain ⟨vL,vW,vX,hN⟩ := (Now.start1 hO).refOpen
  obtain ⟨c0,c1,c2,c3,cf⟩ := hN.refCells
  obtain ⟨⟨A,c,rfl,_⟩,_⟩ := hN.refRows
  have hs1 : (s.size : Int) ≤ 128 := by omega
  have hs2 : (128 : Int) ≤ s.size := by omega
  obtain ⟨hi1,hi2⟩ := hi
  clear hN c1 c2 c3 cf hO hr hs hl e1 e2
  go_enter Tryz.func24,Tryz.ntmps24
  go_wp2_with (go_at_call 73;refine hu.mono ?_;rintro e w1 ⟨rfl,hN1⟩)
  go_ret
  exact ⟨rfl,hN1⟩
set_option maxRecDepth 100000 in
set_option maxHeartbeats 1600000 in
theorem RWrite_ok (h : Nat) (r : RDsk) (i : Int) (s : ByteArray) (hr : r.Fits) (hi : 0 ≤ i ∧ i < r.L.length) (hs : s.size = 128) (hl : r.left ≠ 0) :
    Loc Tryz.prog 24 #[.pointer (some ⟨h,0,none⟩), .int .i64 i, .string s] (refT h r) (.int .i64 0) (refT h (r.write i s)) := by
  intro w S hO
  obtain ⟨i0,hi0,hz0,hz1,hz2⟩ := info_parts infoInt5
  obtain ⟨j0,hj0,hy0,hy1,hy2⟩ := info_parts infoStr5
  have hu := Ruse_any h r hr.hi hr.lo w S hO
  have e1 : decide (r.left ≠ 0) = true := by simpa using hl
  rw [e1] at hu
  obtain ⟨vL,vW,vX,hN⟩ := (Now.start1 hO).refOpen
  obtain ⟨c0,c1,c2,c3,cf⟩ := hN.refCells
  obtain ⟨⟨A,c,rfl,_⟩,_⟩ := hN.refRows
  have hs1 : (s.size : Int) ≤ 128 := by omega
  have hs2 : (128 : Int) ≤ s.size := by omega
  obtain ⟨hi1,hi2⟩ := hi
  have hp := hr.pend
  have hm1 : r.pend.length + 1 ≤ maxLen := by unfold maxLen;omega
  have hm2 : (r.pend.length + 1) * 8 ≤ 140737488355328 := by omega
  have hm3 : (r.pend.length + 1) * 16 ≤ 140737488355328 := by omega
  clear hN c1 c2 c3 cf hO hr hs hl e1
  go_enter Tryz.func24,Tryz.ntmps24
  go_wp2_with (first
    | (go_at_call 73;refine hu.mono ?_;rintro e w1 ⟨rfl,hN1⟩;obtain ⟨vL1,vW1,vX1,hN1⟩ := hN1.refOpen;replace hN1 : Now S w w1 (refParts h vL1 vW1 vX1 r.L r.pend r.use.left) := hN1;obtain ⟨c0,c1,c2,c3,cf⟩ := hN1.refCells;have f1 := cf 1;obtain ⟨_,⟨AW,cW,rfl,_⟩,⟨AX,cX,rfl,_⟩⟩ := hN1.refRows;have hoW := Now.row (pre:=[_,_]) hN1;clear hu cf)
    | (at_builtin;refine wpList_app1 _ rfl _ _ 51 rfl 0 3 Tryz.underlying51 hi0 hz0 hz1 hz2 rfl hoW rfl rfl rfl hm1 hm2 (Nat.zero_le _) ?_;intro vW2 w2 ho hg hn;obtain ⟨AV,cV,rfl,_⟩ := own_slice ho;have hN2 := Now.grown (pre:=[_,_]) hN1 ho hg (hn.imp id fun h => ⟨_,by omega,h⟩);have hb2 := Now.blk (pre:=[]) hN2;have c1 : w2.cell? ⟨h,1,none⟩ = some (.slice AW r.pend.length cW) := hb2.cell 1;have c2 : w2.cell? ⟨h,2,none⟩ = some (.slice AX r.pend.length cX) := hb2.cell 2;have f1 := hb2.frozen 1;have f2 := hb2.frozen 2;have hN3 := Now.set_ (pre:=[]) hN2 1 (.slice AV (r.pend.length + 1) cV);have hoX := Now.row (pre:=[_,_,_]) hN3;clear hN1 hN2 hb2 hoW ho hg hn c0 c3)
    | (at_builtin;refine wpList_app1s _ rfl _ _ 50 rfl 0 9 Tryz.underlying50 hj0 hy0 hy1 hy2 rfl hoX rfl (by simp [World.setCell]) rfl rfl hm1 hm3 (Nat.zero_le _) ?_;intro vX2 w4 ho hg hn;obtain ⟨AY,cY,rfl,_⟩ := own_slice ho;have hN4 := Now.grown (pre:=[_,_,_]) hN3 ho hg (hn.imp id fun h => ⟨_,by omega,h⟩);have hb4 := Now.blk (pre:=[]) hN4;have c2 : w4.cell? ⟨h,2,none⟩ = some (.slice AX r.pend.length cX) := hb4.cell 2;have f2 := hb4.frozen 2;have hN5 := Now.set_ (pre:=[]) hN4 2 (.slice AY (r.pend.length + 1) cY);have HN := Lib.hid hN5;clear hN3 hN4 hN5 hb4 hoX ho hg hn))
  go_ret
  refine ⟨rfl,Now.refClose (vL := vL1) (vW := .slice AV (r.pend.length + 1) cV) (vX := .slice AY (r.pend.length + 1) cY) ?_⟩
  have := HN.out
  show Now S w _ [_,_,Thing.row _ 1 _ (r.pend ++ [(i,s)]).length (wheres (r.pend ++ [(i,s)])),Thing.row _ 1 _ (r.pend ++ [(i,s)]).length (whats (r.pend ++ [(i,s)]))]
  rw [wheres_snoc,whats_snoc,List.length_append]
  exact this
theorem RWrite_all (h : Nat) (r : RDsk) (i : Int) (s : ByteArray) (hr : r.Fits) : Loc Tryz.prog 24 #[.pointer (some ⟨h,0,none⟩), .int .i64 i, .string s] (refT h r) (.int .i64 (r.writeE i s)) (refT h (r.writeS i s)) := by
  unfold RDsk.writeS RDsk.writeE
  by_cases hi : 0 ≤ i ∧ i < r.L.length
  · rw [if_pos hi]
    by_cases hs : s.size = 128
    · rw [if_pos hs]
      by_cases hl : r.left = 0
      · rw [if_pos hl,if_neg (by omega)];exact RWrite_dead h r i s hr hi hs hl
      · rw [if_neg hl,if_pos rfl];exact RWrite_ok h r i s hr hi hs hl
    · rw [if_neg hs,if_neg (by omega)];exact RWrite_form h r i s hr hi hs
  · rw [if_neg hi,if_neg (by omega)];exact RWrite_bad h r i s hr hi
def RDsk.limit (r : RDsk) (n : Int) : RDsk := { r with left := max 0 n }
theorem RLimit_any (h : Nat) (r : RDsk) (n : Int) : Loc Tryz.prog 17 #[.pointer (some ⟨h,0,none⟩), .int .i64 n] (refT h r) (.tuple #[]) (refT h (r.limit n)) := by
  intro w S hO
  obtain ⟨vL,vW,vX,hN⟩ := (Now.start1 hO).refOpen
  obtain ⟨c0,c1,c2,c3,cf⟩ := hN.refCells
  have f3 := cf 3
  have hset := Now.set_ (pre:=[]) hN 3 (.int .i64 (max 0 n))
  unfold RDsk.limit
  have HN := Lib.hid hset
  clear hset hN c0 c1 c2 cf hO
  go_enter Tryz.func17,Tryz.ntmps17
  go_wp2
  go_end0
  exact ⟨rfl,HN.out.refClose⟩
def putAll (L : List ByteArray) (pd : List (Int × ByteArray)) : List ByteArray := pd.foldl (fun L p => L.set p.1.toNat p.2) L
theorem putAll_len (pd : List (Int × ByteArray)) : ∀ L,(putAll L pd).length = L.length := by
  induction pd with
  | nil => intro L;rfl
  | cons p pd ih => intro L;exact (ih _).trans (List.length_set ..)
theorem putAll_succ (L : List ByteArray) (pd : List (Int × ByteArray)) (k : Nat) {p : Int × ByteArray} (hp : pd[k]? = some p) : putAll L (pd.take (k + 1)) = (putAll L (pd.take k)).set p.1.toNat p.2 := by
  obtain ⟨hk,rfl⟩ := List.getElem?_eq_some_iff.1 hp
  rw [List.take_succ_eq_append_getElem hk]
  unfold putAll
  rw [List.foldl_append]
  rfl
def RDsk.flushE (r : RDsk) : Int := if r.left = 0 then 9 else 0
def RDsk.flush (r : RDsk) : RDsk := { r.use with L := putAll r.L r.pend,pend := [] }
def RDsk.flushS (r : RDsk) : RDsk := if r.left = 0 then r else r.flush
def RDsk.Ins (r : RDsk) : Prop := ∀ p ∈ r.pend,0 ≤ p.1 ∧ p.1 < r.L.length
theorem reads_cell {w : World} {B : Nat} {A : Option Addr} {n : Nat} {xs : List Value} (h : Reads w B 1 A n xs) {k : Nat} (hk : k < n) {u : Value} (hu : xs[k]? = some u) : ∃ ad,A = some ad ∧ w.cell? (ad.add k) = some u := by
  obtain ⟨ad,v,e,_,hx,hc⟩ := h.at_ hk
  rw [hu] at hx
  cases hx
  exact ⟨ad,e,hc⟩
set_option maxRecDepth 100000 in
set_option maxHeartbeats 1600000 in
theorem RFlush_ok (h : Nat) (r : RDsk) (hr : r.Fits) (hin : r.Ins) (hl : r.left ≠ 0) : Loc Tryz.prog 121 #[.pointer (some ⟨h,0,none⟩)] (refT h r) (.int .i64 0) (refT h r.flush) := by
  intro w S hO
  have hu := Ruse_any h r hr.hi hr.lo w S hO
  have e1 : decide (r.left ≠ 0) = true := by simpa using hl
  rw [e1] at hu
  have hp := hr.pend
  have hpos := hr.pos
  have hlen := hr.len
  clear hO hr hl e1
  go_enter Tryz.func121,Tryz.ntmps121
  go_wp2_with (go_at_call 73;refine hu.mono ?_;rintro e w1 ⟨rfl,hN1⟩;clear hu)
  obtain ⟨vL,vW,vX,hN⟩ := hN1.refOpen
  replace hN : Now S w w1 (refParts h vL vW vX r.L r.pend r.use.left) := hN
  obtain ⟨rL,cL,cur,rfl,_⟩ := row_form (Now.row (pre:=[_]) hN) hpos
  obtain ⟨_,⟨AW,cW,rfl,_⟩,⟨AX,cX,rfl,_⟩⟩ := hN.refRows
  clear hN1
  go_loopw [3] (fun i wr => ∃ k : Nat,k ≤ r.pend.length ∧ i = .int .i64 k ∧ Now S w wr (refParts h (.slice (some ⟨rL,0,none⟩) r.L.length cL) (.slice AW r.pend.length cW) (.slice AX r.pend.length cX) (putAll r.L (r.pend.take k)) r.pend r.use.left)) (fun i _ => r.pend.length - (intOf i).toNat)
  case atStart => exact ⟨0,by omega,rfl,hN⟩
  case round =>
    clear hN
    obtain ⟨k,hk,rfl,hN⟩ := hrel
    obtain ⟨c0,c1,c2,c3,cf⟩ := hN.refCells
    by_cases hlt : k < r.pend.length
    · obtain ⟨_,⟨A1,d1,e1,r1⟩,⟨A2,d2,e2,r2⟩⟩ := hN.refRows
      cases e1
      cases e2
      have hpk : r.pend[k]? = some r.pend[k] := List.getElem?_eq_getElem hlt
      obtain ⟨adW,rfl,g1⟩ := reads_cell (u := .int .i64 r.pend[k].1) r1 hlt (by rw [List.getElem?_map,hpk];rfl)
      obtain ⟨adX,rfl,g2⟩ := reads_cell (u := .string r.pend[k].2) r2 hlt (by rw [List.getElem?_map,hpk];rfl)
      have hs := Lib.hid (putAll_succ r.L r.pend k hpk)
      have hq0 := hin _ (List.getElem_mem hlt)
      generalize r.pend[k] = p at *
      obtain ⟨q,hq⟩ : ∃ q : Nat,p.1 = q := ⟨p.1.toNat,by omega⟩
      have hqn : q < r.L.length := by omega
      have hrow := Now.row (pre:=[_]) hN
      rw [putAll_len] at hrow
      obtain ⟨a1,a2⟩ := row_at hrow hqn
      have hqt : p.1.toNat = q := by omega
      rw [hqt] at hs
      rw [hq] at g1
      have hql : q < (strs (putAll r.L (r.pend.take k))).length := by rw [List.length_map,putAll_len];exact hqn
      obtain ⟨old,hold⟩ : ∃ old,(strs (putAll r.L (r.pend.take k)))[q]? = some old := ⟨_,List.getElem?_eq_getElem hql⟩
      rw [hold] at a1
      have hset : Now S w (wr.setCell ⟨rL,q,none⟩ (.string p.2)) (refParts h (.slice (some ⟨rL,0,none⟩) r.L.length cL) (.slice (some adW) r.pend.length cW) (.slice (some adX) r.pend.length cX) (putAll r.L (r.pend.take (k + 1))) r.pend r.use.left) := by
        have hN' := hN
        unfold refParts at hN' ⊢
        have e1 : (putAll r.L (r.pend.take k)).length = r.L.length := putAll_len ..
        have e2 : (putAll r.L (r.pend.take (k + 1))).length = r.L.length := putAll_len ..
        rw [e1] at hN'
        rw [e2,hs.out]
        have := Now.rowSet (pre:=[_]) hN' hqn (.string p.2)
        simpa using this
      have HS := Lib.hid hset
      have hq1 : (q : Int) < (r.L.length : Int) := by omega
      clear hset hN hrow hqt hq hpk hq0 cf r1 r2 hin hql hold
      go_wp2_with fail
      refine wp_region_still_tail 19 (by kernel_rfl) (by kernel_rfl) ?_
      simp only [List.take_succ_cons,List.take_zero,List.drop_succ_cons,List.drop_zero]
      change wpStill _ _ wr.drew _ _ _
      repeat (first | still_step)
      refine wpStill_nil ?_
      change wpList _ _ _ _ _ wr.drew
      go_wp2_with fail
      go_roundw
      case rel => exact ⟨k + 1,by omega,by go_num,HS.out.drew⟩
      case measure => simp [intOf];omega
    · obtain rfl : k = r.pend.length := by omega
      rw [List.take_length] at hN
      have f1 := cf 1
      have f2 := cf 2
      have h1 := Now.set_ (pre:=[]) hN 1 (.slice none 0 0)
      have h2 := Now.set_ (pre:=[]) h1 2 (.slice none 0 0)
      have h3 : Now S w ((wr.setCell ⟨h,1,none⟩ (.slice none 0 0)).setCell ⟨h,2,none⟩ (.slice none 0 0)) (refParts h (.slice (some ⟨rL,0,none⟩) r.L.length cL) (.slice none 0 0) (.slice none 0 0) (putAll r.L r.pend) [] r.use.left) := by
        unfold refParts
        have h4 := Now.rowNil (t' := 3) (size' := 1) (pre:=[_,_]) h2
        have h5 := Now.rowNil (t' := 9) (size' := 1) (pre:=[_,_,_]) h4
        show Now S w _ [_,Thing.row _ 1 _ (putAll r.L r.pend).length _,_,_]
        have e2 : (putAll r.L r.pend).length = r.L.length := putAll_len ..
        rw [e2] at h5 ⊢
        exact h5
      have HS := Lib.hid h3
      clear hN h1 h2 h3 cf hin
      go_wp2
      go_ret
      exact ⟨rfl,HS.out.refClose⟩
end Go.Proofs.YtidacaihmjdmkaaGreat
namespace Go.Proofs.YtidacaihmjdmkaaGreat
open Go.RowKit
attribute [local go_sem high] run_mx run_mn
section
variable {g : Nat} {d d' : Dsk} {f : Nat} {args : Array Value} {r : Value}
theorem dsk_loc (h : ∀ (b : Nat) (v : Value) (w : World),DskAt w g b v d → Calls Tryz.prog f args w fun e w' => e = .returned r ∧ ∃ v',DskAt w' g b v' d' ∧ Fr (foot g b v) w w' ∧ ∀ k,foot g b v' k → foot g b v k ∨ w.heap.size ≤ k) : Loc Tryz.prog f args (dskT g d) r (dskT g d') := by
  rintro w S ⟨b,v,hD,hS⟩
  refine (h b v w hD).mono fun e w' ⟨he,v',h1,h2,h3⟩ => ⟨he,foot g b v',⟨foot g b v',fun _ => False,⟨b,v',h1,fun _ => Iff.rfl⟩,fun _ h => h,fun _ _ h => h,fun _ => ⟨.inl,fun h => h.elim id False.elim⟩⟩,h2.mono (fun k _ hk => (hS k).2 hk),fun k hk => ?_⟩
  rcases h3 k hk with h | h
  · exact .inl ((hS k).2 h)
  · exact .inr h
theorem dsk_still (h : ∀ (b : Nat) (v : Value) (w : World),DskAt w g b v d → Calls Tryz.prog f args w fun e w' => e = .returned r ∧ Below w.heap.size w w') : Loc Tryz.prog f args (dskT g d) r (dskT g d) :=
  dsk_loc fun b v w hD => (h b v w hD).mono fun e w' ⟨he,hb⟩ => ⟨he,v,hD.below hb,Fr.of_below hb,fun _ h => .inl h⟩
end
theorem LWrite (g : Nat) (d : Dsk) (i : Int) (s : ByteArray) (hp : d.pend.length ≤ 1000000000) : Loc Tryz.prog 23 #[.pointer (some ⟨g,0,none⟩), .int .i64 i, .string s] (dskT g d) (.int .i64 (d.writeE i s)) (dskT g (d.writeS i s)) :=
  dsk_loc fun b v w hD => (Write_all g b v d i s w hD hp)
theorem LFlush (g : Nat) (d : Dsk) (hp : d.pend.length ≤ 1000000000) : Loc Tryz.prog 33 #[.pointer (some ⟨g,0,none⟩)] (dskT g d) (.int .i64 d.flushE) (dskT g d.flushS) :=
  dsk_loc fun b v w hD => (Flush_all g b v d w hD hp)
theorem LLimit (g : Nat) (d : Dsk) (n : Int) : Loc Tryz.prog 16 #[.pointer (some ⟨g,0,none⟩), .int .i64 n] (dskT g d) (.tuple #[]) (dskT g (d.limit n)) :=
  dsk_loc fun b v w hD => (Limit_any g b v d n w hD).mono fun e w' ⟨he,h1,h2⟩ => ⟨he,v,h1,h2,fun _ h => .inl h⟩
theorem LRead (g : Nat) (d : Dsk) (i : Int) (hp : d.pend.length ≤ 1000000000) : Loc Tryz.prog 57 #[.pointer (some ⟨g,0,none⟩), .int .i64 i] (dskT g d) (.tuple #[.string (d.readV i), .int .i64 (d.readE i)]) (dskT g d) :=
  dsk_still fun b v w hD => Read_all g b v d i w hD hp
theorem NPending (g : Nat) (d : Dsk) (w : World) (S : Nat → Prop) (h : (dskT g d).is w S) : Calls Tryz.prog 19 #[.pointer (some ⟨g,0,none⟩)] w fun e w' => e = .returned (.int .i64 d.pend.length) ∧ Newer w w' := by
  obtain ⟨b,v,hD,_⟩ := h
  exact (Pending_any g b v d w hD).mono fun e w' ⟨he,hw⟩ => ⟨he,hw ▸ Newer.refl w⟩
theorem NLen (g : Nat) (d : Dsk) (w : World) (S : Nat → Prop) (h : (dskT g d).is w S) : Calls Tryz.prog 75 #[.pointer (some ⟨g,0,none⟩)] w fun e w' => e = .returned (.int .i64 d.n) ∧ Newer w w' := by
  obtain ⟨b,v,hD,_⟩ := h
  exact (Len_any g b v d w hD).mono fun e w' ⟨he,hw⟩ => ⟨he,hw ▸ Newer.refl w⟩
end Go.Proofs.YtidacaihmjdmkaaGreat
