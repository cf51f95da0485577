/- What the laws of this seat lean on, part 14. -/
import Derived.Test.YtidacaihmjdmkaaGreatZK11
import Derived.Test.YtidacaihmjdmkaaGreatZK13
import Derived.Test.YtidacaihmjdmkaaGreatZK9
import Derived.Test.YtidacaihmjdmkaaGreatZK5
import Derived.Test.YtidacaihmjdmkaaGreatZK4
import Derived.Test.YtidacaihmjdmkaaGreatZK7
set_option linter.unusedSimpArgs false
set_option linter.unusedVariables false
set_option maxRecDepth 100000
namespace Go.Proofs.YtidacaihmjdmkaaGreat
open Go.RowKit Go.Lib
theorem must_yes (w : World) : Calls Tryz.prog 119 #[.bool true] w fun e w' => e = .returned (.tuple #[]) ∧ w = w' := by
  go_enter Tryz.func119,Tryz.ntmps119
  go_wp2
  go_end0
  exact ⟨rfl,rfl⟩
abbrev wrongV : Value := .iface 200 (.agg #[])
theorem must_no (w : World) : Calls Tryz.prog 119 #[.bool false] w fun e w' => e = .panicked [{ v := wrongV,recovered := false }] ∧ w = w' := by
  go_enter Tryz.func119,Tryz.ntmps119
  go_wp2
  exact ⟨rfl,rfl,rfl⟩
theorem assert_wrong (w : World) : (Instr.typeAssert wrongV 20 200 true).run Tryz.prog w = .ok (.tuple #[.agg #[], .bool true]) w := by kernel_rfl
theorem assert_nil (w : World) : (Instr.typeAssert .nilIface 20 200 true).run Tryz.prog w = .ok (.tuple #[.agg #[], .bool false]) w := by kernel_rfl
abbrev zeroChk : Array Value := #[.int .u64 0, .int .u32 0, .int .u64 0, .int .u64 0, .slice none 0 0, .slice none 0 0]
def zeroed (w : World) (c e : Nat) : World := ((((((w.setCell ⟨c,0,none⟩ (.int .u64 0)).setCell ⟨c,1,none⟩ (.int .u32 0)).setCell ⟨c,2,none⟩ (.int .u64 0)).setCell ⟨c,3,none⟩ (.int .u64 0)).setCell ⟨c,4,none⟩ (.slice none 0 0)).setCell ⟨c,5,none⟩ (.slice none 0 0)).setCell ⟨e,0,none⟩ (.int .i64 5)
theorem catch_bad (c e : Nat) (cs : Array Value) (hcs : cs.size = 6) (v : Value) (older : List PanicEntry) (w : World) (hc : Blk w c 61 cs) (he : Blk w e 31 #[v]) (hne : c ≠ e) :
    CallsD Tryz.prog 118 #[.pointer (some ⟨c,0,none⟩), .pointer (some ⟨e,0,none⟩)] (.panicking ({ v := wrongV,recovered := false } :: older)) w fun en u' w' =>
      en = .returned (.tuple #[]) ∧ u' = .panicking ({ v := wrongV,recovered := true } :: older) ∧ zeroed (w.alloc (.cells #[] 200)) c e = w' := by
  refine callsD_of_wpS Tryz.func118 rfl fun c₀ css hu => ?_
  simp only [Tryz.ntmps118,List.size_toArray,List.length_cons,List.length_nil,Nat.reduceAdd,Nat.reduceSub,Array.replicate_succ,Array.replicate_zero,List.push_toArray,List.append_toArray,List.nil_append,List.cons_append]
  obtain ⟨x0,x1,x2,x3,x4,x5,rfl⟩ : ∃ x0 x1 x2 x3 x4 x5,cs = #[x0,x1,x2,x3,x4,x5] := by
    obtain ⟨l⟩ := cs
    match l,hcs with
    | [x0,x1,x2,x3,x4,x5],_ => exact ⟨x0,x1,x2,x3,x4,x5,rfl⟩
  have hc1 := hc.alloc (.cells #[] 200)
  have he1 := he.alloc (.cells #[] 200)
  have c0 := hc1.cell 0
  have c1 := hc1.cell 1
  have c2 := hc1.cell 2
  have c3 := hc1.cell 3
  have c4 := hc1.cell 4
  have c5 := hc1.cell 5
  have e0 := he1.cell 0
  have f0 := fun k => hc1.frozen k
  have f1 := fun k => he1.frozen k
  apply wpS_seq
  refine wpS_region_rec rfl rfl (v := wrongV) (cs' := { c₀ with mode := .panicking ({ v := wrongV,recovered := true } :: older) } :: css) (by simp [recoverD,hu]) ?_ ?_
  · rintro ⟨a,w,h⟩
    obtain ⟨_,h,_⟩ := h
    cases h
  have ha := fun v => assert_wrong v
  go_wp2
  change Code.wpS _ _ _ _ _ _
  refine wpS_of_wp ?_
  go_wp2
  exact ⟨rfl,_,rfl,_,results_none rfl _ _ _,rfl,rfl,rfl⟩
theorem catch_ok (c e : Nat) (w : World) :
    CallsD Tryz.prog 118 #[.pointer (some ⟨c,0,none⟩), .pointer (some ⟨e,0,none⟩)] .returning w fun en u' w' =>
      en = .returned (.tuple #[]) ∧ u' = .returning ∧ w.alloc (.cells #[] 200) = w' := by
  refine callsD_of_wpS Tryz.func118 rfl fun c₀ css hu => ?_
  simp only [Tryz.ntmps118,List.size_toArray,List.length_cons,List.length_nil,Nat.reduceAdd,Nat.reduceSub,Array.replicate_succ,Array.replicate_zero,List.push_toArray,List.append_toArray,List.nil_append,List.cons_append]
  apply wpS_seq
  refine wpS_region_rec rfl rfl (v := .nilIface) (cs' := c₀ :: css) (by simp [recoverD,hu]) ?_ ?_
  · rintro ⟨a,w,h⟩
    obtain ⟨_,h,_⟩ := h
    cases h
  have ha := fun v => assert_nil v
  go_wp2
  change Code.wpS _ _ _ _ _ _
  refine wpS_of_wp ?_
  go_wp2
  exact ⟨rfl, .returning,by rw [← hu],_,results_none rfl _ _ _,rfl,rfl,rfl⟩
end Go.Proofs.YtidacaihmjdmkaaGreat
namespace Go.Proofs.YtidacaihmjdmkaaGreat
open Go.RowKit Go.Lib
theorem zeroed_now {w0 w : World} {c e : Nat} {cs : Array Value} (hcs : cs.size = 6) {v : Value} {L : List Thing} (h : Sep w0 w (Thing.cells c 61 cs :: Thing.cells e 31 #[v] :: L)) :
    Sep w0 (zeroed w c e) (Thing.cells c 61 zeroChk :: Thing.cells e 31 #[.int .i64 5] :: L) := by
  obtain ⟨x0,x1,x2,x3,x4,x5,rfl⟩ : ∃ x0 x1 x2 x3 x4 x5,cs = #[x0,x1,x2,x3,x4,x5] := by
    obtain ⟨l⟩ := cs
    match l,hcs with
    | [x0,x1,x2,x3,x4,x5],_ => exact ⟨x0,x1,x2,x3,x4,x5,rfl⟩
  exact Now.set_ (pre:=[_]) (Now.set_ (pre:=[]) (Now.set_ (pre:=[]) (Now.set_ (pre:=[]) (Now.set_ (pre:=[]) (Now.set_ (pre:=[]) (Now.set_ (pre:=[]) h 0 (.int .u64 0)) 1 (.int .u32 0)) 2 (.int .u64 0)) 3 (.int .u64 0)) 4 (.slice none 0 0)) 5 (.slice none 0 0)) 0 (.int .i64 5)
def secN (l : List UInt8) (i : Nat) : Int := ((l[i]?.getD 0).toNat : Int)
def Chk.ofSec (l : List UInt8) (n : Nat) : Chk where
  gen := leN (l.take 8)
  epoch := leN ((l.drop 8).take 4)
  lsn := leN ((l.drop 12).take 8)
  ver := leN ((l.drop 20).take 8)
  order := (List.range n).map fun i => secN l (29 + 2 * i)
  lens := (List.range n).map fun i => secN l (29 + 2 * i + 1)
def decC (l : List UInt8) : Option Chk :=
  if l.length = 128 ∧ secN l 28 ≤ 16 ∧ (Chk.ofSec l (secN l 28).toNat).Right ∧ (Chk.ofSec l (secN l 28).toNat).enc = l then some (Chk.ofSec l (secN l 28).toNat) else none
def DecOut (w : World) (l : List UInt8) (e : Ending) (w' : World) : Prop := match decC l with
  | some C => ∃ AO cO AL cL,e = .returned (.tuple #[.agg (chkCells C AO cO AL cL), .int .i64 0]) ∧ Sep w w' [Thing.row 3 1 (.slice AO C.order.length cO) C.order.length (ints C.order),Thing.row 3 1 (.slice AL C.lens.length cL) C.lens.length (ints C.lens)]
  | none => e = .returned (.tuple #[.agg zeroChk, .int .i64 5]) ∧ Newer w w'
theorem caught_bad {w w1 : World} {l : List UInt8} (hn : decC l = none) {cs : Array Value} (hcs : cs.size = 6) {L : List Thing} {a : Act} (h : Sep w w1 (Thing.cells w.heap.size 61 cs :: Thing.cells (w.heap.size + 1) 31 #[.int .i64 0] :: L))
    (hd : a.defers = [{ target := .fn (.func 118) #[.pointer (some ⟨w.heap.size,0,none⟩), .pointer (some ⟨w.heap.size + 1,0,none⟩)],args := #[] }]) (h2 : a.tmps.getD 2 undef = .pointer (some ⟨w.heap.size,0,none⟩)) (h3 : a.tmps.getD 3 undef = .pointer (some ⟨w.heap.size + 1,0,none⟩)) :
    bodyPostD Tryz.prog Tryz.f60 (fun e w' => DecOut w l e w') (.panic [{ v := wrongV,recovered := false }]) a w1 := by
  obtain ⟨tmps,defers⟩ := a
  cases hd
  refine leaves_cons (f := 118) (args := #[.pointer (some ⟨w.heap.size,0,none⟩), .pointer (some ⟨w.heap.size + 1,0,none⟩)]) (by simp) (by simp [go_sem]) ?_
  refine (catch_bad w.heap.size (w.heap.size + 1) cs hcs (.int .i64 0) [] _ (Now.blk (pre:=[]) h) (Now.blk (pre:=[_]) h) (by omega)).mono ?_
  rintro en u' w'' ⟨rfl,rfl,rfl⟩
  have hz := zeroed_now hcs (h.alloc (.cells #[] 200))
  have ce : _ = some (Value.int .i64 5) := (Now.blk (pre:=[_]) hz).cell 0
  refine ⟨.tuple #[.agg zeroChk, .int .i64 5],results_row_cell rfl _ _ _ _ _ _ (w.heap.size + 1) _ h2 h3 (Now.blk (pre:=[]) hz) (by simp [go_sem,ce]) Tryz.underlying61 rfl (by kernel_rfl),?_⟩
  unfold DecOut
  rw [hn]
  exact ⟨rfl,Sep.base hz⟩
theorem caught_ok {w w1 : World} {l : List UInt8} {C : Chk} (hn : decC l = some C) {AO : Option Addr} {cO : Nat} {AL : Option Addr} {cL : Nat} {a : Act}
    (h : Sep w w1 [Thing.cells w.heap.size 61 (chkCells C AO cO AL cL),Thing.row 3 1 (.slice AO C.order.length cO) C.order.length (ints C.order),Thing.row 3 1 (.slice AL C.lens.length cL) C.lens.length (ints C.lens),Thing.cells (w.heap.size + 1) 31 #[.int .i64 0]])
    (hd : a.defers = [{ target := .fn (.func 118) #[.pointer (some ⟨w.heap.size,0,none⟩), .pointer (some ⟨w.heap.size + 1,0,none⟩)],args := #[] }]) (h2 : a.tmps.getD 2 undef = .pointer (some ⟨w.heap.size,0,none⟩)) (h3 : a.tmps.getD 3 undef = .pointer (some ⟨w.heap.size + 1,0,none⟩)) :
    bodyPostD Tryz.prog Tryz.f60 (fun e w' => DecOut w l e w') .ret a w1 := by
  obtain ⟨tmps,defers⟩ := a
  cases hd
  refine leaves_cons (f := 118) (args := #[.pointer (some ⟨w.heap.size,0,none⟩), .pointer (some ⟨w.heap.size + 1,0,none⟩)]) (by simp) (by simp [go_sem]) ?_
  refine (catch_ok w.heap.size (w.heap.size + 1) _).mono ?_
  rintro en u' w'' ⟨rfl,rfl,rfl⟩
  have hz := h.alloc (.cells #[] 200)
  have ce : _ = some (Value.int .i64 0) := (Now.blk (pre:=[_,_,_]) hz).cell 0
  refine ⟨.tuple #[.agg (chkCells C AO cO AL cL), .int .i64 0],results_row_cell rfl _ _ _ _ _ _ (w.heap.size + 1) _ h2 h3 (Now.blk (pre:=[]) hz) (by simp [go_sem,ce]) Tryz.underlying61 rfl (by kernel_rfl),?_⟩
  unfold DecOut
  rw [hn]
  exact ⟨AO,cO,AL,cL,rfl,Now.drop (pre:=[_,_]) (Now.drop (pre:=[]) hz)⟩
set_option maxHeartbeats 4000000 in
theorem Decode_size (s : ByteArray) (hs : s.size ≠ 128) (w : World) : Calls Tryz.prog 60 #[.string s] w fun e w' => DecOut w s.data.toList e w' := by
  have hmf : ∀ (fn : Fn) (first cap : Array Value) (w : World),(Instr.makeFunc fn first cap).run Tryz.prog w = .ok (.func fn first cap) w := fun _ _ _ _ => rfl
  have hn : decC s.data.toList = none := by
    unfold decC
    rw [if_neg]
    rintro ⟨h,_⟩
    exact hs (by rw [← h];exact (size_eq s))
  have h1 : ((s.size : Int) == 128) = false := beq_eq_false_iff_ne.2 (by omega)
  have h2 : (s.size == 128) = false := beq_eq_false_iff_ne.2 hs
  have h3 : decide (s.size = 128) = false := decide_eq_false hs
  have hS0 := Now.swap (Now.pushCells (Now.pushCells (Sep.start w) 61 zeroChk) 31 #[.int .i64 0])
  simp only [World.size_alloc] at hS0
  replace hS0 := Lib.hid hS0
  clear hs
  go_enter_defers Tryz.func60,Tryz.ntmps60
  go_wp2_with (go_at_call 119;(with_reducible refine (must_no _).mono ?_);rintro e w1 ⟨rfl,rfl⟩)
  exact caught_bad hn rfl hS0.out rfl rfl rfl
theorem secN_of (s : ByteArray) (i : Nat) (h : i < s.size) : secN s.data.toList i = ((s[i]'h).toNat : Int) := by
  unfold secN
  have : s.data.toList[i]? = some (s[i]'h) := by rw [Array.getElem?_toList];exact Array.getElem?_eq_getElem h
  rw [this]
  rfl
theorem ext_list (s : ByteArray) (i j : Nat) : (s.extract i j).data.toList = (s.data.toList.drop i).take (j - i) := by
  simp [ByteArray.data_extract,List.take_drop]
set_option maxHeartbeats 4000000 in
theorem Decode_main (s : ByteArray) (hs : s.size = 128) (w : World) : Calls Tryz.prog 60 #[.string s] w fun e w' => DecOut w s.data.toList e w' := by
  have hmf : ∀ (fn : Fn) (first cap : Array Value) (w : World),(Instr.makeFunc fn first cap).run Tryz.prog w = .ok (.func fn first cap) w := fun _ _ _ _ => rfl
  have hS0 := Now.swap (Now.pushCells (Now.pushCells (Sep.start w) 61 zeroChk) 31 #[.int .i64 0])
  simp only [World.size_alloc] at hS0
  have HS := Lib.hid hs
  have h1 : ((s.size : Int) == 128) = true := by rw [hs];rfl
  obtain ⟨n,hn⟩ : ∃ n : Nat,(s[28]'(by omega)).toNat = n := ⟨_,rfl⟩
  have hn28 : secN s.data.toList 28 = (n : Int) := by rw [secN_of s 28 (by omega),hn]
  have hn256 : n < 256 := by rw [← hn];exact (s[28]'(by omega)).toNat_lt
  have e28 : wrap64 (((s[28]'(by omega)).toNat : Nat) : Int) = (n : Int) := by rw [hn];exact IntWalk.wrap64_in _ (by omega)
  have HN := Lib.hid hn
  clear hn
  by_cases hn16 : n ≤ 16
  case neg =>
    have d1 : ¬ (n : Int) ≤ 16 := by omega
    have hno : decC s.data.toList = none := by
      unfold decC
      rw [if_neg]
      rintro ⟨_,h,_⟩
      rw [hn28] at h
      exact d1 h
    replace hS0 := Lib.hid hS0
    clear hn28
    go_enter_defers Tryz.func60,Tryz.ntmps60
    go_wp2_with (first
      | (go_at_call 119;(with_reducible refine (must_yes _).mono ?_);rintro e w1 ⟨rfl,rfl⟩)
      | (go_at_call 119;rw [decide_eq_false (show ¬ (n : Int) ≤ 16 by omega)];(with_reducible refine (must_no _).mono ?_);rintro e w1 ⟨rfl,rfl⟩))
    exact caught_bad hno rfl hS0.out rfl rfl rfl
  have d1 : (n : Int) ≤ 16 := by omega
  have b1 := leN_lt ((s.data.toList.drop 8).take 4)
  have b1' : leN ((s.data.toList.drop 8).take 4) < 4294967296 := by
    refine Nat.lt_of_lt_of_le b1 ?_
    have : ((s.data.toList.drop 8).take 4).length ≤ 4 := by simp;omega
    exact Nat.le_trans (Nat.pow_le_pow_right (by omega) (show 8 * _ ≤ 32 by omega)) (by decide)
  have e2 : IntKind.u32.wrap (leN ((s.data.toList.drop 8).take 4) : Int) = (leN ((s.data.toList.drop 8).take 4) : Int) := IntWalk.u32_in _ (by omega)
  have g1 : ∀ v,Calls Tryz.prog 115 #[.string s] v fun e w' => e = .returned (.int .u64 (leN (s.data.toList.take 8))) ∧ Newer v w' := fun v => Get_long s (by omega) v
  have g2 : ∀ v,Calls Tryz.prog 115 #[.string (s.extract 8 12)] v fun e w' => e = .returned (.int .u64 (leN ((s.data.toList.drop 8).take 4))) ∧ Newer v w' := fun v => by
    have := Get_any (s.extract 8 12) (by rw [ByteArray.size_extract];omega) v
    rw [ext_list] at this;exact this
  have g3 : ∀ v,Calls Tryz.prog 115 #[.string (s.extract 12 20)] v fun e w' => e = .returned (.int .u64 (leN ((s.data.toList.drop 12).take 8))) ∧ Newer v w' := fun v => by
    have := Get_any (s.extract 12 20) (by rw [ByteArray.size_extract];omega) v
    rw [ext_list] at this;exact this
  have g4 : ∀ v,Calls Tryz.prog 115 #[.string (s.extract 20 28)] v fun e w' => e = .returned (.int .u64 (leN ((s.data.toList.drop 20).take 8))) ∧ Newer v w' := fun v => by
    have := Get_any (s.extract 20 28) (by rw [ByteArray.size_extract];omega) v
    rw [ext_list] at this;exact this
  obtain ⟨CC,hCC⟩ : ∃ CC,Chk.ofSec s.data.toList n = CC := ⟨_,rfl⟩
  have q1 : (leN (s.data.toList.take 8) : Int) = CC.gen := by rw [← hCC];rfl
  have q2 : (leN ((s.data.toList.drop 8).take 4) : Int) = CC.epoch := by rw [← hCC];rfl
  have q3 : (leN ((s.data.toList.drop 12).take 8) : Int) = CC.lsn := by rw [← hCC];rfl
  have q4 : (leN ((s.data.toList.drop 20).take 8) : Int) = CC.ver := by rw [← hCC];rfl
  simp only [q1] at g1
  simp only [q2] at g2 e2
  simp only [q3] at g3
  simp only [q4] at g4
  have HCC := Lib.hid hCC
  have HQ := Lib.hid (And.intro q1 (And.intro q2 (And.intro q3 q4)))
  have HN28 := Lib.hid hn28
  replace hS0 := Lib.hid hS0
  clear b1 b1' q1 q2 q3 q4 hCC hn28
  go_enter_defers Tryz.func60,Tryz.ntmps60
  go_wp2_with (go_at_call 119;(with_reducible refine (must_yes _).mono ?_);rintro e w1 ⟨rfl,rfl⟩)
  generalize (w.alloc (.cells zeroChk 61)).alloc (.cells #[.int .i64 0] 31) = wb at hS0 ⊢
  have hyb := Now.blk (pre:=[]) hS0.out
  refine wp_region_ordN Newer.grow [(0,true),(1,true),(2,true),(3,true),(4,true),(5,true),(6,true),(7,true),(8,true),(9,true),(10,true),(11,true),(12,true),(13,false)] [13] (by kernel_rfl) (by kernel_rfl) rfl (by kernel_rfl) ?_
  iterate 13
    (apply wpOrd_take
     · exact rfl
     · intro w1 h1
       (skip)
       go_simp
       first
         | with_reducible exact ⟨rfl,sqN _⟩
         | with_reducible exact g1 _ | with_reducible exact g2 _ | with_reducible exact g3 _ | with_reducible exact g4 _
     simp only [Act.put,sqA,sqB,sqC])
  refine wpOrd_last rfl (by decide) ?_
  intro w1 h1 K hK
  have hS1 := Now.below hS0.out.drew h1
  have hy1 := Now.blk (pre:=[]) hS1
  have c0 : w1.cell? ⟨w.heap.size,0,none⟩ = some (.int .u64 0) := hy1.cell 0
  have c1 : w1.cell? ⟨w.heap.size,1,none⟩ = some (.int .u32 0) := hy1.cell 1
  have c2 : w1.cell? ⟨w.heap.size,2,none⟩ = some (.int .u64 0) := hy1.cell 2
  have c3 : w1.cell? ⟨w.heap.size,3,none⟩ = some (.int .u64 0) := hy1.cell 3
  have c4 : w1.cell? ⟨w.heap.size,4,none⟩ = some (.slice none 0 0) := hy1.cell 4
  have c5 : w1.cell? ⟨w.heap.size,5,none⟩ = some (.slice none 0 0) := hy1.cell 5
  have f0 := fun k => hy1.frozen k
  go_simp
  refine hK _ _ ?_
  have hS2 := Now.set_ (pre:=[]) (Now.set_ (pre:=[]) (Now.set_ (pre:=[]) (Now.set_ (pre:=[]) (Now.set_ (pre:=[]) (Now.set_ (pre:=[]) hS1 0 (.int .u64 CC.gen)) 1 (.int .u32 CC.epoch)) 2 (.int .u64 CC.lsn)) 3 (.int .u64 CC.ver)) 4 (.slice none 0 0)) 5 (.slice none 0 0)
  clear hK K h1 hy1 c0 c1 c2 c3 c4 c5 f0 hyb hS1
  generalize (((((w1.setCell ⟨w.heap.size,0,none⟩ (.int .u64 CC.gen)).setCell ⟨w.heap.size,1,none⟩ (.int .u32 CC.epoch)).setCell ⟨w.heap.size,2,none⟩ (.int .u64 CC.lsn)).setCell ⟨w.heap.size,3,none⟩ (.int .u64 CC.ver)).setCell ⟨w.heap.size,4,none⟩ (.slice none 0 0)).setCell ⟨w.heap.size,5,none⟩ (.slice none 0 0) = w2 at hS2 ⊢
  refine wpOrd_done fun w3 h3 => ?_
  refine post_intro ?_
  have hS3 := Now.front (pre:=[_,_]) (Now.pushNil (Now.pushNil (Now.below hS2 h3) 3 1) 3 1)
  clear hS2 h3 g1 g2 g3 g4 e2 w2 w1
  go_wp2_with fail
  go_loopw [5,33] (fun _ i wr => ∃ (k : Nat) (A1 : Option Addr) (c1 : Nat) (A2 : Option Addr) (c2 : Nat),k ≤ n ∧ i = .int .i64 k ∧ Sep w wr [Thing.cells w.heap.size 61 #[.int .u64 CC.gen, .int .u32 CC.epoch, .int .u64 CC.lsn, .int .u64 CC.ver, .slice A1 k c1, .slice A2 k c2],Thing.row 3 1 (.slice A1 k c1) k (ints (CC.order.take k)),Thing.row 3 1 (.slice A2 k c2) k (ints (CC.lens.take k)),Thing.cells (w.heap.size + 1) 31 #[.int .i64 0]]) (fun _ i _ => n - (RowKit.intOf i).toNat)
  case atStart => exact ⟨0,none,0,none,0,by omega,rfl,hS3⟩
  case round =>
    clear hS3
    obtain ⟨k,A1,c1,A2,c2,hk,rfl,hS⟩ := hrel
    by_cases hlt : k < n
    · have hsz := HS.out
      have l29 : 29 + 2 * k < s.size := by omega
      have l30 : 29 + 2 * k + 1 < s.size := by omega
      obtain ⟨x,hx⟩ : ∃ x : Nat,(s[29 + 2 * k]'l29).toNat = x := ⟨_,rfl⟩
      obtain ⟨y,hy⟩ : ∃ y : Nat,(s[29 + 2 * k + 1]'l30).toNat = y := ⟨_,rfl⟩
      have x256 : x < 256 := by rw [← hx];exact (s[29 + 2 * k]'l29).toNat_lt
      have y256 : y < 256 := by rw [← hy];exact (s[29 + 2 * k + 1]'l30).toNat_lt
      have hto : ints (CC.order.take (k + 1)) = ints (CC.order.take k) ++ [.int .i64 (x : Int)] := by
        have : CC.order[k]? = some (x : Int) := by rw [← HCC.out];simp [Chk.ofSec,hlt];rw [secN_of s _ l29,hx]
        rw [List.take_add_one,this];simp [ints]
      have htl : ints (CC.lens.take (k + 1)) = ints (CC.lens.take k) ++ [.int .i64 (y : Int)] := by
        have : CC.lens[k]? = some (y : Int) := by rw [← HCC.out];simp [Chk.ofSec,hlt];rw [secN_of s _ l30,hy]
        rw [List.take_add_one,this];simp [ints]
      have ex : IntKind.i64.wrap (((s[29 + 2 * k]'l29).toNat : Nat) : Int) = (x : Int) := by rw [hx];exact IntWalk.i64_in _ (by omega)
      have ey : IntKind.i64.wrap (((s[29 + 2 * k + 1]'l30).toNat : Nat) : Int) = (y : Int) := by rw [hy];exact IntWalk.i64_in _ (by omega)
      have v1 : IntKind.i64.wrap (2 * (k : Int)) = 2 * (k : Int) := IntWalk.i64_in _ (by omega)
      have v2 : IntKind.i64.wrap (29 + 2 * (k : Int)) = 29 + 2 * (k : Int) := IntWalk.i64_in _ (by omega)
      have v3 : IntKind.i64.wrap (29 + 2 * (k : Int) + 1) = 29 + 2 * (k : Int) + 1 := IntWalk.i64_in _ (by omega)
      have r1 : 0 ≤ 29 + 2 * (k : Int) ∧ 29 + 2 * (k : Int) < 128 := by omega
      have r2 : 0 ≤ 29 + 2 * (k : Int) + 1 ∧ 29 + 2 * (k : Int) + 1 < 128 := by omega
      have t1 : (29 + 2 * (k : Int)).toNat = 29 + 2 * k := by omega
      have t2 : (29 + 2 * (k : Int) + 1).toNat = 29 + 2 * k + 1 := by omega
      obtain ⟨i0,hi0,hz0,hz1,hz2⟩ := info_parts infoInt
      have n1 : k + 1 ≤ maxLen := by unfold maxLen;omega
      have n2 : (k + 1) * 8 ≤ 140737488355328 := by omega
      have HTO := Lib.hid hto
      have HTL := Lib.hid htl
      clear hto htl hx hy hsz
      rename World => w4
      -- ROUND
      go_wp2_with fail
      have hyb := Now.blk (pre:=[]) hS
      obtain ⟨wq,hwq⟩ : ∃ wq,wq = w4 := ⟨_,rfl⟩
      subst hwq
      have HB : w.heap.size < wq.drew.heap.size := hyb.lt
      have hcell : ∀ v,KeepG w.heap.size wq.drew v → v.cell? ⟨w.heap.size,4,none⟩ = some (.slice A1 k c1) := fun v hv => by
        have hb1 := KeepG.blk (w := wq.drew) hv hyb
        exact hb1.cell 4
      replace hS := hS.drew
      clear hyb
      refine wp_region_takesN (KeepG.grow w.heap.size) [11] [(0,false),(1,false),(2,true),(3,true),(4,true),(5,true),(6,true),(7,true)] 4 (by kernel_rfl) (by kernel_rfl) rfl (by kernel_rfl) ?_
      iterate 2
        (apply wpTakes_take
         · exact rfl
         · intro w1v hR1
           (have ck := hcell w1v hR1)
           go_simp
           first
             | with_reducible exact ⟨rfl,sqN _⟩
         simp only [Act.put,sqA,sqB,sqC])
      iterate 6
        (apply wpTakes_pure
         · exact rfl
         · intro w1
           skip
           go_simp
           first
             | with_reducible exact ⟨rfl,sqN _⟩
         simp only [Act.put,sqA,sqB,sqC])
      refine wpTakes_done ?_
      clear hcell HB
      generalize wq.drew = wc at hS ⊢
      refine wpAnyE_fork [8] (by kernel_rfl) (by simp) ?_
      refine sqM ?_
      refine ⟨_,rfl,?_⟩
      intro wv hv K hK
      replace hS := Now.below hS hv
      replace hS := Now.pushCells hS 3 #[.int .i64 (x : Int)]
      go_simp
      refine hK _ _ (fun _ hlt => ⟨((Newer.refl wv).alloc _).block _ hlt,((Newer.refl wv).alloc _).size⟩) ?_
      clear hK K hv
      generalize wv.alloc (.cells #[.int .i64 (x : Int)] 3) = wd at hS ⊢
      generalize wv.heap.size = kb at hS ⊢
      clear wv
      try simp only [Act.put,sqA,sqB,sqC]
      refine wpAnyE_fork [9] (by kernel_rfl) (by simp) ?_
      refine sqM ?_
      refine ⟨_,rfl,?_⟩
      intro wv hv K hK
      replace hS := Now.below hS hv
      rw [if_pos (by kernel_rfl)]
      refine wp_app_now _ _ 51 3 rfl Tryz.underlying51 hi0 hz0 hz1 hz2 rfl (pre:=[_,_]) hS (Now.blk (pre:=[]) hS) rfl rfl rfl n1 n2 ?_
      intro g4 cap4 we hz hS2
      refine hK _ _ (fun _ _ => ⟨(Now.blk (pre:=[_]) hS2).trans (Now.blk (pre:=[_]) hS).symm,hz⟩) ?_
      replace hS := Now.drop (pre:=[]) hS2
      clear hS2 hz hK K hv wv
      try simp only [Act.put,sqA,sqB,sqC]
      apply wpAnyE_pure (KeepG.grow w.heap.size) 10
      · kernel_rfl
      · intro _ _ d _ _ h;cases d <;> exact h
      · exact rfl
      · kernel_rfl
      · intro w1
        go_simp
        exact ⟨rfl,sqN _⟩
      try simp only [Act.put,sqA,sqB,sqC]
      refine wpAnyE_fork [11] (by kernel_rfl) (by simp) ?_
      refine sqM ?_
      refine ⟨_,rfl,?_⟩
      intro wv hv K hK
      replace hS := Now.below hS hv
      have hyb := Now.blk (pre:=[]) hS
      have ck : _ = some (Value.slice A1 k c1) := hyb.cell 4
      have fk := hyb.frozen 4
      go_simp
      refine hK _ _ (fun hn => absurd (by decide) hn) ?_
      replace hS := Now.set_ (pre:=[]) hS 4 (.slice (some ⟨g4,0,none⟩) (k + 1) cap4)
      clear hK K hyb ck fk hv
      generalize wv.setCell ⟨w.heap.size,4,none⟩ (.slice (some ⟨g4,0,none⟩) (k + 1) cap4) = wf at hS ⊢
      clear wv
      refine wpAnyE_end (by kernel_rfl) fun w5 h8 => ?_
      refine post_intro ?_
      replace hS := Now.below hS h8
      clear h8
      go_wp2_with fail
      have hyb := Now.blk (pre:=[]) hS
      obtain ⟨wq,hwq⟩ : ∃ wq,wq = w5 := ⟨_,rfl⟩
      subst hwq
      have HB : w.heap.size < wq.drew.heap.size := hyb.lt
      have hcell : ∀ v,KeepG w.heap.size wq.drew v → v.cell? ⟨w.heap.size,5,none⟩ = some (.slice A2 k c2) := fun v hv => by
        have hb1 := KeepG.blk (w := wq.drew) hv hyb
        exact hb1.cell 5
      replace hS := hS.drew
      clear hyb
      refine wp_region_takesN (KeepG.grow w.heap.size) [12] [(0,false),(1,false),(2,true),(3,true),(4,true),(5,true),(6,true),(7,true),(8,true)] 4 (by kernel_rfl) (by kernel_rfl) rfl (by kernel_rfl) ?_
      iterate 2
        (apply wpTakes_take
         · exact rfl
         · intro w1v hR1
           (have ck := hcell w1v hR1)
           go_simp
           first
             | with_reducible exact ⟨rfl,sqN _⟩
         simp only [Act.put,sqA,sqB,sqC])
      iterate 7
        (apply wpTakes_pure
         · exact rfl
         · intro w1
           skip
           go_simp
           first
             | with_reducible exact ⟨rfl,sqN _⟩
         simp only [Act.put,sqA,sqB,sqC])
      refine wpTakes_done ?_
      clear hcell HB
      generalize wq.drew = wc at hS ⊢
      refine wpAnyE_fork [9] (by kernel_rfl) (by simp) ?_
      refine sqM ?_
      refine ⟨_,rfl,?_⟩
      intro wv hv K hK
      replace hS := Now.below hS hv
      replace hS := Now.pushCells hS 3 #[.int .i64 (y : Int)]
      go_simp
      refine hK _ _ (fun _ hlt => ⟨((Newer.refl wv).alloc _).block _ hlt,((Newer.refl wv).alloc _).size⟩) ?_
      clear hK K hv
      generalize wv.alloc (.cells #[.int .i64 (y : Int)] 3) = wd at hS ⊢
      generalize wv.heap.size = kb at hS ⊢
      clear wv
      try simp only [Act.put,sqA,sqB,sqC]
      refine wpAnyE_fork [10] (by kernel_rfl) (by simp) ?_
      refine sqM ?_
      refine ⟨_,rfl,?_⟩
      intro wv hv K hK
      replace hS := Now.below hS hv
      rw [if_pos (by kernel_rfl)]
      refine wp_app_now _ _ 51 3 rfl Tryz.underlying51 hi0 hz0 hz1 hz2 rfl (pre:=[_,_,_]) hS (Now.blk (pre:=[]) hS) rfl rfl rfl n1 n2 ?_
      intro g5 cap5 we hz hS2
      refine hK _ _ (fun _ _ => ⟨(Now.blk (pre:=[_]) hS2).trans (Now.blk (pre:=[_]) hS).symm,hz⟩) ?_
      replace hS := Now.drop (pre:=[]) hS2
      clear hS2 hz hK K hv wv
      try simp only [Act.put,sqA,sqB,sqC]
      apply wpAnyE_pure (KeepG.grow w.heap.size) 11
      · kernel_rfl
      · intro _ _ d _ _ h;cases d <;> exact h
      · exact rfl
      · kernel_rfl
      · intro w1
        go_simp
        exact ⟨rfl,sqN _⟩
      try simp only [Act.put,sqA,sqB,sqC]
      refine wpAnyE_fork [12] (by kernel_rfl) (by simp) ?_
      refine sqM ?_
      refine ⟨_,rfl,?_⟩
      intro wv hv K hK
      replace hS := Now.below hS hv
      have hyb := Now.blk (pre:=[]) hS
      have ck : _ = some (Value.slice A2 k c2) := hyb.cell 5
      have fk := hyb.frozen 5
      go_simp
      refine hK _ _ (fun hn => absurd (by decide) hn) ?_
      replace hS := Now.set_ (pre:=[]) hS 5 (.slice (some ⟨g5,0,none⟩) (k + 1) cap5)
      clear hK K hyb ck fk hv
      generalize wv.setCell ⟨w.heap.size,5,none⟩ (.slice (some ⟨g5,0,none⟩) (k + 1) cap5) = wf at hS ⊢
      clear wv
      refine wpAnyE_end (by kernel_rfl) fun w6 h8 => ?_
      refine post_intro ?_
      replace hS := Now.below hS h8
      clear h8
      -- ENDROUND
      go_wp2_with fail
      go_roundw
      case rel => exact ⟨k + 1,some ⟨g4,0,none⟩,cap4,some ⟨g5,0,none⟩,cap5,by omega,by go_num,by rw [HTO.out,HTL.out];exact hS⟩
      case measure => simp [RowKit.intOf];omega
    · obtain rfl : k = n := by omega
      have hlo : CC.order.length = k := by rw [← HCC.out];simp [Chk.ofSec]
      have hll : CC.lens.length = k := by rw [← HCC.out];simp [Chk.ofSec]
      have hS2 : Sep w wr [Thing.cells w.heap.size 61 (chkCells CC A1 c1 A2 c2),Thing.row 3 1 (.slice A1 CC.order.length c1) CC.order.length (ints CC.order),Thing.row 3 1 (.slice A2 CC.lens.length c2) CC.lens.length (ints CC.lens),Thing.cells (w.heap.size + 1) 31 #[.int .i64 0]] := by
        have := hS
        rw [List.take_of_length_le (by omega),List.take_of_length_le (by omega)] at this
        unfold chkCells
        rw [hlo,hll]
        exact this
      have hIn : ChkIn wr wr.heap.size CC A1 A2 := ⟨Reads.of_own (Now.row (pre:=[_]) hS2),Reads.of_own (Now.row (pre:=[_,_]) hS2)⟩
      obtain ⟨q1,q2,q3,q4⟩ := HQ.out
      have hNums : CC.Nums := by
        have a1 := leN_lt (s.data.toList.take 8)
        have a2 := leN_lt ((s.data.toList.drop 8).take 4)
        have a3 := leN_lt ((s.data.toList.drop 12).take 8)
        have a4 := leN_lt ((s.data.toList.drop 20).take 8)
        have p8 : ∀ j,j ≤ 8 → 2 ^ (8 * j) ≤ 18446744073709551616 := fun j hj => Nat.le_trans (Nat.pow_le_pow_right (by omega) (show 8 * j ≤ 64 by omega)) (by decide)
        have p4 : ∀ j,j ≤ 4 → 2 ^ (8 * j) ≤ 4294967296 := fun j hj => Nat.le_trans (Nat.pow_le_pow_right (by omega) (show 8 * j ≤ 32 by omega)) (by decide)
        have b1 := Nat.lt_of_lt_of_le a1 (p8 _ (by simp;omega))
        have b2 := Nat.lt_of_lt_of_le a2 (p4 _ (by simp;omega))
        have b3 := Nat.lt_of_lt_of_le a3 (p8 _ (by simp;omega))
        have b4 := Nat.lt_of_lt_of_le a4 (p8 _ (by simp;omega))
        exact ⟨by omega,by omega,by omega,by omega⟩
      have hl128 : s.data.toList.length = 128 := by rw [← size_eq];exact HS.out
      have hdec : decC s.data.toList = if CC.Right ∧ CC.enc = s.data.toList then some CC else none := by
        unfold decC
        rw [HN28.out,Int.toNat_natCast,HCC.out]
        by_cases hx : CC.Right ∧ CC.enc = s.data.toList
        · rw [if_pos ⟨hl128,d1,hx⟩,if_pos hx]
        · rw [if_neg (fun h => hx h.2.2),if_neg hx]
      have hy1 := Now.blk (pre:=[]) hS2
      have c0 : wr.cell? ⟨w.heap.size,0,none⟩ = some (.int .u64 CC.gen) := hy1.cell 0
      have c1' : wr.cell? ⟨w.heap.size,1,none⟩ = some (.int .u32 CC.epoch) := hy1.cell 1
      have c2' : wr.cell? ⟨w.heap.size,2,none⟩ = some (.int .u64 CC.lsn) := hy1.cell 2
      have c3 : wr.cell? ⟨w.heap.size,3,none⟩ = some (.int .u64 CC.ver) := hy1.cell 3
      have c4 : wr.cell? ⟨w.heap.size,4,none⟩ = some (.slice A1 CC.order.length c1) := hy1.cell 4
      have c5 : wr.cell? ⟨w.heap.size,5,none⟩ = some (.slice A2 CC.lens.length c2) := hy1.cell 5
      by_cases hR : CC.Right
      · have hE := Encode_ok CC hR hNums A1 c1 A2 c2 wr hIn
        by_cases hq : CC.enc = s.data.toList
        · have hse : (⟨CC.enc.toArray⟩ : ByteArray) = s := by rw [hq]
          rw [if_pos ⟨hR,hq⟩] at hdec
          rw [hse] at hE
          have HD := Lib.hid hdec
          clear hS hdec hR hq hse hl128 hNums q1 q2 q3 q4 hlo hll hIn hy1
          go_wp2_with (first
            | (go_at_call 120;(with_reducible refine hE.mono ?_);rintro e w5 ⟨rfl,hB⟩;have hS3 := Now.below hS2 hB;clear hE hB hS2 c0 c1' c2' c3 c4 c5)
            | (go_at_call 119;(with_reducible refine (must_yes _).mono ?_);rintro e w6 ⟨rfl,rfl⟩;have hy1 := Now.blk (pre:=[]) hS3;have hy2 := Now.blk (pre:=[_,_,_]) hS3;have c0 : w5.cell? ⟨w.heap.size,0,none⟩ = some (.int .u64 CC.gen) := hy1.cell 0;have c1' : w5.cell? ⟨w.heap.size,1,none⟩ = some (.int .u32 CC.epoch) := hy1.cell 1;have c2' : w5.cell? ⟨w.heap.size,2,none⟩ = some (.int .u64 CC.lsn) := hy1.cell 2;have c3 : w5.cell? ⟨w.heap.size,3,none⟩ = some (.int .u64 CC.ver) := hy1.cell 3;have c4 : w5.cell? ⟨w.heap.size,4,none⟩ = some (.slice A1 CC.order.length c1) := hy1.cell 4;have c5 : w5.cell? ⟨w.heap.size,5,none⟩ = some (.slice A2 CC.lens.length c2) := hy1.cell 5;have f0 := fun k => hy1.frozen k;have ce : w5.cell? ⟨w.heap.size + 1,0,none⟩ = some (.int .i64 0) := hy2.cell 0;have f1 := hy2.frozen 0;clear hy1 hy2))
          have hS4 := Now.set_ (pre:=[_,_,_]) (Now.set_ (pre:=[]) (Now.set_ (pre:=[]) (Now.set_ (pre:=[]) (Now.set_ (pre:=[]) (Now.set_ (pre:=[]) (Now.set_ (pre:=[]) hS3 0 (.int .u64 CC.gen)) 1 (.int .u32 CC.epoch)) 2 (.int .u64 CC.lsn)) 3 (.int .u64 CC.ver)) 4 (.slice A1 CC.order.length c1)) 5 (.slice A2 CC.lens.length c2)) 0 (.int .i64 0)
          exact caught_ok HD.out hS4 rfl rfl rfl
        · rw [if_neg (fun h => hq h.2)] at hdec
          have hs3 : ((⟨CC.enc.toArray⟩ : ByteArray).toList == s.toList) = false := bytes_ne (fun h => hq (by rw [← h]))
          have hs4 : (CC.enc == s.toList) = false := by simpa using hs3
          have HD := Lib.hid hdec
          clear hS hdec hR hq hl128 hNums q1 q2 q3 q4 hlo hll hIn hy1
          go_wp2_with (first
            | (go_at_call 120;(with_reducible refine hE.mono ?_);rintro e w5 ⟨rfl,hB⟩;have hS3 := Now.below hS2 hB;clear hE hB hS2 c0 c1' c2' c3 c4 c5)
            | (go_at_call 119;(with_reducible refine (must_no _).mono ?_);rintro e w6 ⟨rfl,rfl⟩))
          exact caught_bad HD.out (cs := chkCells CC A1 c1 A2 c2) rfl (Now.swap (Now.front (pre:=[_,_,_]) hS3)) rfl rfl rfl
      · rw [if_neg (fun h => hR h.1)] at hdec
        have hE := Encode_bad CC hR A1 c1 A2 c2 wr hIn (by omega) (by omega)
        have HD := Lib.hid hdec
        clear hS hdec hR hl128 hNums q1 q2 q3 q4 hlo hll hIn hy1
        go_wp2_with (first
          | (go_at_call 120;(with_reducible refine hE.mono ?_);rintro e w5 ⟨rfl,hB⟩;have hS3 := Now.below hS2 hB;clear hE hB hS2 c0 c1' c2' c3 c4 c5)
          | (go_at_call 119;(with_reducible refine (must_no _).mono ?_);rintro e w6 ⟨rfl,rfl⟩))
        exact caught_bad HD.out (cs := chkCells CC A1 c1 A2 c2) rfl (Now.swap (Now.front (pre:=[_,_,_]) hS3)) rfl rfl rfl
theorem Decode_chk (s : ByteArray) (w : World) : Calls Tryz.prog 60 #[.string s] w fun e w' => DecOut w s.data.toList e w' := by
  by_cases hs : s.size = 128
  · exact Decode_main s hs w
  · exact Decode_size s hs w
end Go.Proofs.YtidacaihmjdmkaaGreat
namespace Go.Proofs.YtidacaihmjdmkaaGreat
theorem laidAt_at (b : List UInt8) (o : Nat) (s : List UInt8) (h : o + s.length ≤ b.length) (i : Nat) : (laidAt b o s)[i]? = if o ≤ i ∧ i < o + s.length then s[i - o]? else b[i]? := by
  unfold laidAt
  have hl : (b.take o).length = o := by simp;omega
  by_cases h1 : i < o
  · rw [if_neg (by omega),List.append_assoc,List.getElem?_append_left (by omega),List.getElem?_take_of_lt h1]
  · by_cases h2 : i < o + s.length
    · rw [if_pos ⟨by omega,h2⟩,List.getElem?_append_left (by rw [List.length_append,hl];omega),List.getElem?_append_right (by omega),hl]
    · rw [if_neg (by omega),List.getElem?_append_right (by rw [List.length_append,hl];omega),List.length_append,hl,List.getElem?_drop]
      congr 1
      omega
theorem lists_at (C : Chk) (b : List UInt8) (hb : b.length = 128) : ∀ k,k ≤ 16 → (∀ i,i < k → (C.lists b k)[29 + 2 * i]? = some (u8 (C.order[i]?.getD 0)) ∧ (C.lists b k)[29 + 2 * i + 1]? = some (u8 (C.lens[i]?.getD 0))) ∧ ∀ j,j < 29 ∨ 29 + 2 * k ≤ j → (C.lists b k)[j]? = b[j]?
  | 0,_ => ⟨fun i hi => absurd hi (by omega),fun j _ => rfl⟩
  | k + 1,hk => by
    obtain ⟨h1,h2⟩ := lists_at C b hb k (by omega)
    have hl := lists_length C b k
    refine ⟨fun i hi => ?_,fun j hj => ?_⟩
    · show (((C.lists b k).set _ _).set _ _)[_]? = _ ∧ (((C.lists b k).set _ _).set _ _)[_]? = _
      by_cases hik : i = k
      · subst hik
        rw [List.getElem?_set_ne (by omega),List.getElem?_set_self (by rw [hl];omega),List.getElem?_set_self (by rw [List.length_set,hl];omega)]
        exact ⟨rfl,rfl⟩
      · rw [List.getElem?_set_ne (by omega),List.getElem?_set_ne (by omega),List.getElem?_set_ne (by omega),List.getElem?_set_ne (by omega)]
        exact h1 i (by omega)
    · show (((C.lists b k).set _ _).set _ _)[_]? = _
      rw [List.getElem?_set_ne (by omega),List.getElem?_set_ne (by omega)]
      exact h2 j (by omega)
theorem enc_low (C : Chk) (i : Nat) (hi : i < 116) : C.enc[i]? = C.body[i]? := by
  have hb : C.body.length = 128 := by unfold Chk.body;rw [lists_length,head_length]
  unfold Chk.enc
  have h1 := laidAt_length C.body 116 (leB (crcOf (C.body.take 116)) 4) (by rw [leB_len,hb];omega)
  rw [laidAt_at _ _ _ (by rw [leB_len,h1,hb];omega),if_neg (by omega),laidAt_at _ _ _ (by rw [leB_len,hb];omega),if_neg (by omega)]
theorem head_at (C : Chk) (i : Nat) (hi : i < 28) : C.head[i]? = if i < 8 then (leB C.gen 8)[i]? else if i < 12 then (leB C.epoch 4)[i - 8]? else if i < 20 then (leB C.lsn 8)[i - 12]? else (leB C.ver 8)[i - 20]? := by
  unfold Chk.head
  have h0 : (List.replicate 128 (0 : UInt8)).length = 128 := List.length_replicate
  have h1 := laidAt_length (List.replicate 128 (0 : UInt8)) 0 (leB C.gen 8) (by rw [leB_len,h0];omega)
  have h2 := laidAt_length (laidAt (List.replicate 128 (0 : UInt8)) 0 (leB C.gen 8)) 8 (leB C.epoch 4) (by rw [leB_len,h1,h0];omega)
  have h3 := laidAt_length (laidAt (laidAt (List.replicate 128 (0 : UInt8)) 0 (leB C.gen 8)) 8 (leB C.epoch 4)) 12 (leB C.lsn 8) (by rw [leB_len,h2,h1,h0];omega)
  rw [List.getElem?_set_ne (by omega),laidAt_at _ _ _ (by rw [leB_len,h3,h2,h1,h0];omega),leB_len]
  by_cases c4 : 20 ≤ i
  · rw [if_pos (by omega),if_neg (by omega),if_neg (by omega),if_neg (by omega)]
  rw [if_neg (by omega),laidAt_at _ _ _ (by rw [leB_len,h2,h1,h0];omega),leB_len]
  by_cases c3 : 12 ≤ i
  · rw [if_pos (by omega),if_neg (by omega),if_neg (by omega),if_pos (by omega)]
  rw [if_neg (by omega),laidAt_at _ _ _ (by rw [leB_len,h1,h0];omega),leB_len]
  by_cases c2 : 8 ≤ i
  · rw [if_pos (by omega),if_neg (by omega),if_pos (by omega)]
  rw [if_neg (by omega),laidAt_at _ _ _ (by rw [leB_len,h0];omega),leB_len,if_pos (by omega),if_pos (by omega)]
  rfl
section
variable (C : Chk) (hR : C.Right)
include hR
theorem enc_head (i : Nat) (hi : i < 29) : C.enc[i]? = C.head[i]? := by
  rw [enc_low C i (by omega)]
  exact (lists_at C C.head (head_length C) C.order.length hR.many).2 i (.inl hi)
theorem enc_28 : C.enc[28]? = some (u8 C.order.length) := by
  rw [enc_head C hR 28 (by omega)]
  unfold Chk.head
  have h0 : (List.replicate 128 (0 : UInt8)).length = 128 := List.length_replicate
  have h1 := laidAt_length (List.replicate 128 (0 : UInt8)) 0 (leB C.gen 8) (by rw [leB_len,h0];omega)
  have h2 := laidAt_length (laidAt (List.replicate 128 (0 : UInt8)) 0 (leB C.gen 8)) 8 (leB C.epoch 4) (by rw [leB_len,h1,h0];omega)
  have h3 := laidAt_length (laidAt (laidAt (List.replicate 128 (0 : UInt8)) 0 (leB C.gen 8)) 8 (leB C.epoch 4)) 12 (leB C.lsn 8) (by rw [leB_len,h2,h1,h0];omega)
  have h4 := laidAt_length (laidAt (laidAt (laidAt (List.replicate 128 (0 : UInt8)) 0 (leB C.gen 8)) 8 (leB C.epoch 4)) 12 (leB C.lsn 8)) 20 (leB C.ver 8) (by rw [leB_len,h3,h2,h1,h0];omega)
  rw [List.getElem?_set_self (by rw [h4,h3,h2,h1,h0];omega)]
end
theorem take_is {l s : List UInt8} {p k : Nat} (hs : s.length = k) (h : ∀ j,j < k → l[p + j]? = s[j]?) : (l.drop p).take k = s := by
  refine List.ext_getElem? fun j => ?_
  rw [List.getElem?_take]
  split
  · rename_i hj;rw [List.getElem?_drop];exact h j hj
  · rw [List.getElem?_eq_none (by omega)]
theorem ofSec_enc (C : Chk) (hR : C.Right) (hN : C.Nums) : Chk.ofSec C.enc C.order.length = C := by
  have hm := hR.many
  have hll := hR.len
  have g1 : C.enc.take 8 = leB C.gen 8 := by
    have := take_is (l := C.enc) (p := 0) (leB_len C.gen 8) (fun j hj => by rw [Nat.zero_add,enc_head C hR j (by omega),head_at C j (by omega),if_pos hj])
    simpa using this
  have g2 : (C.enc.drop 8).take 4 = leB C.epoch 4 := take_is (leB_len _ _) (fun j hj => by rw [enc_head C hR _ (by omega),head_at C _ (by omega),if_neg (by omega),if_pos (by omega),Nat.add_sub_cancel_left])
  have g3 : (C.enc.drop 12).take 8 = leB C.lsn 8 := take_is (leB_len _ _) (fun j hj => by rw [enc_head C hR _ (by omega),head_at C _ (by omega),if_neg (by omega),if_neg (by omega),if_pos (by omega),Nat.add_sub_cancel_left])
  have g4 : (C.enc.drop 20).take 8 = leB C.ver 8 := take_is (leB_len _ _) (fun j hj => by rw [enc_head C hR _ (by omega),head_at C _ (by omega),if_neg (by omega),if_neg (by omega),if_neg (by omega),Nat.add_sub_cancel_left])
  have hb : C.body.length = 128 := by unfold Chk.body;rw [lists_length,head_length]
  have hat : ∀ i,i < C.order.length → secN C.enc (29 + 2 * i) = C.order[i]?.getD 0 ∧ secN C.enc (29 + 2 * i + 1) = C.lens[i]?.getD 0 := fun i hi => by
    obtain ⟨a1,a2⟩ := (lists_at C C.head (head_length C) C.order.length hm).1 i hi
    obtain ⟨r1,_,r2⟩ := hR.all i hi
    unfold secN
    rw [enc_low C _ (by omega),enc_low C _ (by omega)]
    show ((((C.lists C.head C.order.length)[29 + 2 * i]?.getD 0).toNat : Nat) : Int) = _ ∧ ((((C.lists C.head C.order.length)[29 + 2 * i + 1]?.getD 0).toNat : Nat) : Int) = _
    rw [a1,a2]
    exact ⟨u8_nat ⟨r1.1,by have := r1.2;omega⟩,u8_nat ⟨r2.1,by have := r2.2;omega⟩⟩
  have h5 : (List.range C.order.length).map (fun i => secN C.enc (29 + 2 * i)) = C.order := by
    refine List.ext_getElem? fun i => ?_
    rw [List.getElem?_map]
    rcases Nat.lt_or_ge i C.order.length with h | h
    · rw [List.getElem?_range h]
      show some (secN C.enc (29 + 2 * i)) = _
      rw [(hat i h).1,List.getElem?_eq_getElem h];rfl
    · rw [List.getElem?_eq_none (by simpa using h),List.getElem?_eq_none h];rfl
  have h6 : (List.range C.order.length).map (fun i => secN C.enc (29 + 2 * i + 1)) = C.lens := by
    refine List.ext_getElem? fun i => ?_
    rw [List.getElem?_map]
    rcases Nat.lt_or_ge i C.order.length with h | h
    · rw [List.getElem?_range h]
      show some (secN C.enc (29 + 2 * i + 1)) = _
      rw [(hat i h).2,List.getElem?_eq_getElem (show i < C.lens.length by omega)];rfl
    · rw [List.getElem?_eq_none (by simpa using h),List.getElem?_eq_none (show C.lens.length ≤ i by omega)];rfl
  unfold Chk.ofSec
  rw [g1,g2,g3,g4,h5,h6,leN_leB _ 8 hN.gen.1 hN.gen.2,leN_leB _ 4 hN.epoch.1 hN.epoch.2,leN_leB _ 8 hN.lsn.1 hN.lsn.2,leN_leB _ 8 hN.ver.1 hN.ver.2]
theorem decC_enc (C : Chk) (hR : C.Right) (hN : C.Nums) : decC C.enc = some C := by
  have h28 : secN C.enc 28 = C.order.length := by
    unfold secN
    rw [enc_28 C hR]
    exact u8_nat ⟨by omega,by have := hR.many;omega⟩
  have hto : (secN C.enc 28).toNat = C.order.length := by rw [h28];omega
  unfold decC
  rw [hto,ofSec_enc C hR hN,if_pos ⟨enc_length C,by rw [h28];have := hR.many;omega,hR,rfl⟩]
end Go.Proofs.YtidacaihmjdmkaaGreat
