/- What the laws of this seat lean on, part 8. -/
import Derived.Test.YtidacaihmjdmkaaGreatZK6
import Derived.Test.YtidacaihmjdmkaaGreatZK7
set_option linter.unusedSimpArgs false
set_option linter.unusedVariables false
set_option maxRecDepth 100000
namespace Go.Proofs.YtidacaihmjdmkaaGreat
open Go.RowKit Go.Shelf
attribute [local go_sem] Oper.semAt_some
def Cellish (O : Thing) : Prop := ∀ (w : World) (S : Nat → Prop) (k : Nat),O.is w S → S k → ∃ o : Obj,w.heap[k]? = some o ∧ o.isCells = true
theorem cellish_cells (g : Nat) (t : TypeId) (cs : Array Value) : Cellish (Thing.cells g t cs) := by
  rintro w S k ⟨h,hS⟩ hk
  rw [(hS k).1 hk]
  exact ⟨_,h,rfl⟩
theorem cellish_row (t : TypeId) (size : Nat) (v : Value) (n : Nat) (xs : List Value) : Cellish (Thing.row t size v n xs) := by
  rintro w S k ⟨h,hS⟩ hk
  have hk := (hS k).1 hk
  rcases h.2 with ⟨rfl,_⟩ | ⟨g,cap,cur,rfl,_,hh,_⟩
  · simp [Value.ownBlock] at hk
  · obtain rfl : g = k := by simpa [Value.ownBlock] using hk
    exact ⟨_,hh,rfl⟩
theorem cellish_all : ∀ {L : List Thing},(∀ O ∈ L,Cellish O) → Cellish (Thing.all L)
  | [],_ => fun w S k h hk => absurd hk (h k)
  | O :: L,hL => by
    rintro w S k ⟨S1,S2,h1,h2,hd,hS⟩ hk
    rcases (hS k).1 hk with h | h
    · exact hL O (by simp) w S1 k h1 h
    · exact cellish_all (fun O' h' => hL O' (by simp [h'])) w S2 k h2 h
section
variable {S0 : Nat → Prop} {w0 w : World} {L M : List Thing} {B : Nat}
theorem Now.part (h : Now S0 w0 w L) (hL : ∀ O ∈ L,Cellish O) : ∃ S,Now S w w L ∧ (∀ w' M,Now S w w' M → KeepsFrom B w w' ∧ Now S0 w0 w' M) := by
  obtain ⟨S,h1,h2,h3⟩ := h
  refine ⟨S,Now.start h1,fun w' M hN => ⟨⟨hN.size,fun k o _ hk ho => ?_⟩,?_⟩⟩
  · have hlt : k < w.heap.size := (Array.getElem?_eq_some_iff.1 hk).1
    refine (hN.fr.block k hlt (fun hs => ?_)).trans hk
    obtain ⟨o',h4,h5⟩ := cellish_all hL w S k h1 hs
    rw [hk] at h4
    cases h4
    rw [ho] at h5;cases h5
  · obtain ⟨S',hM,hF,hn⟩ := hN
    refine ⟨S',hM,h2.trans hF (fun k hk hs => ?_),fun k hk => ?_⟩
    · rcases h3 k hs with h | h
      · exact h
      · omega
    · rcases hn k hk with h | h
      · exact h3 k h
      · exact .inr (Nat.le_trans h2.size h)
theorem Now.ownFrom {β : Type} (hL : ∀ O ∈ L,Cellish O) (hB : w0.heap.size ≤ B) : OwnFrom B (fun (_ : β) W => Now S0 w0 W L) := by
  intro s W W' row hs hg hr
  obtain ⟨S,h1,h2,h3⟩ := hs
  have hF : Fr (fun k => row = some k) W W' := Fr.of_grown hg (fun k e => e)
  refine ⟨S,(Thing.all L).keep h1 hF (fun k hk e => ?_),h2.trans hF (fun k hk e => ?_),h3⟩
  · obtain ⟨_,o,h4,h5⟩ := hr k e
    obtain ⟨o',h6,h7⟩ := cellish_all hL W S k h1 hk
    rw [h4] at h6
    cases h6
    rw [h5] at h7;cases h7
  · have := (hr k e).1;omega
end
def Tab.roll (T : Tab) (f first : Int) : Tab := { T with order := T.order ++ [f],lens := T.lens ++ [0],firsts := T.firsts ++ [first] }
abbrev rollParts (T : Tab) (x y : Nat) (A1 : Option Addr) (k1 : Nat) (A2 : Option Addr) (k2 : Nat) (A3 : Option Addr) (k3 : Nat) : List Thing :=
  [Thing.cells x 64 (tabCells T A1 k1 A2 k2 A3 k3),Thing.cells y 31 #[.int .i64 0],Thing.row 3 1 (.slice A1 T.order.length k1) T.order.length (ints T.order),Thing.row 3 1 (.slice A2 T.lens.length k2) T.lens.length (ints T.lens),Thing.row 43 1 (.slice A3 T.firsts.length k3) T.firsts.length (u64s T.firsts)]
theorem freeTo_pre (T : Tab) : ∀ (N k : Nat),k ≤ N → ∃ l,T.freeTo N = T.freeTo k ++ l
  | 0, k, h => ⟨[], by obtain rfl : k = 0 := by omega
                       simp⟩
  | N + 1,k,h => by
    rcases Nat.lt_or_ge N k with hk | hk
    · obtain rfl : k = N + 1 := by omega
      exact ⟨[],by simp⟩
    · obtain ⟨l,e⟩ := freeTo_pre T N k hk
      by_cases hf : idx T.order (N : Int) < 0
      · exact ⟨l ++ [(N : Int)],by rw [freeTo_yes T N hf,e];simp⟩
      · exact ⟨l,by rw [freeTo_no T N hf,e]⟩
set_option maxHeartbeats 8000000 in
theorem Roll_any (T : Tab) (hT : T.Ok) (AO : Option Addr) (cO : Nat) (AL : Option Addr) (cL : Nat) (AF : Option Addr) (cF : Nat) (first : Int) (N : Nat) (hN : T.segs = N) (w : World) (h : TabIn w w.heap.size T AO AL AF) :
    Calls Tryz.prog 140 #[.agg (tabCells T AO cO AL cL AF cF), .int .u64 first] w fun e w' =>
      (T.freeTo N = [] → e = .returned (.tuple #[.agg zeroTab, .int .i64 10]) ∧ Newer w w') ∧ (∀ f l,T.freeTo N = f :: l → GotTab w w' (T.roll f first) e) := by
  refine (callsIn_wide (n := 4)).1 ?_
  refine callsIn_of_wp_marks Tryz.func140 rfl trivial ?_ rfl
  simp only [Tryz.ntmps140,List.size_toArray,List.length_cons,List.length_nil,Nat.reduceAdd,Nat.reduceSub,Array.replicate_succ,Array.replicate_zero,List.push_toArray,List.append_toArray,List.nil_append,List.cons_append]
  have hS0 := Now.pushCells (Now.pushCells (Now.pushCells (Now.pushCells (Sep.start w) 64 (tabCells T AO cO AL cL AF cF)) 43 #[.int .u64 first]) 64 zeroTab) 31 #[.int .i64 0]
  simp only [World.size_alloc] at hS0
  have HN := Lib.hid hN
  have HT := Lib.hid hT
  clear hN
  have hown := fun v (hv : TabIn v v.heap.size T AO AL AF) => own_any T hT.short AO cO AL cL AF cF v hv
  have hTI := fun v (hv : Below w.heap.size w v) => (h.below hv).more hv.size
  gi_wp2_with (first
    | (refine ⟨trivial,?_⟩;gi_at_call 151;refine (callsIn_wide.2 (hown _ (hTI _ (Sep.base hS0)))).mono ?_;rintro e w1 ⟨A1,k1,A2,k2,A3,k3,rfl,hO⟩;have hS1 := Now.pushAll hS0 hO;have hb := Now.blk (pre:=[_,_,_,_,_,_]) hS1;have c0 : _ = some (Value.int .i64 T.segs) := hb.cell 0;have c1 : _ = some (Value.int .i64 T.slots) := hb.cell 1;have c2 : _ = some (Value.slice AO T.order.length cO) := hb.cell 2;have c3 : _ = some (Value.slice AL T.lens.length cL) := hb.cell 3;have c4 : _ = some (Value.slice AF T.firsts.length cF) := hb.cell 4;have hlt := hb.lt;clear hown hS0 hb hO)
    | (refine ⟨trivial,?_⟩;gi_at_call 170;refine (free_in _ T AO cO AL cL AF cF _).mono ?_;rintro e w2 ⟨rfl,rfl⟩))
  obtain ⟨W0,hW0⟩ : ∃ W0,(w1.alloc (.cells (tabCells T A1 k1 A2 k2 A3 k3) 64)).alloc (.cells (tabCells T AO cO AL cL AF cF) 64) = W0 := ⟨_,rfl⟩
  have hS2 := Now.pushCells (Now.pushCells hS1 64 (tabCells T A1 k1 A2 k2 A3 k3)) 64 (tabCells T AO cO AL cL AF cF)
  simp only [World.size_alloc] at hS2
  have hsz : W0.heap.size = w1.heap.size + 1 + 1 := by rw [← hW0];simp
  rw [hW0] at hS2 ⊢
  clear hW0 hS1 c0 c1 c2 c3 c4 hlt hTI
  have hT := HT.out
  have hN := HN.out
  have hmn := hT.many
  have hL1 : ∀ O ∈ [Thing.cells (w1.heap.size + 1) 64 (tabCells T AO cO AL cL AF cF),Thing.cells w1.heap.size 64 (tabCells T A1 k1 A2 k2 A3 k3),Thing.row 3 1 (.slice A1 T.order.length k1) T.order.length (ints T.order),Thing.row 3 1 (.slice A2 T.lens.length k2) T.lens.length (ints T.lens),Thing.row 43 1 (.slice A3 T.firsts.length k3) T.firsts.length (u64s T.firsts),Thing.cells (w.heap.size + 1 + 1 + 1) 31 #[.int .i64 0],Thing.cells (w.heap.size + 1 + 1) 64 zeroTab,Thing.cells (w.heap.size + 1) 43 #[.int .u64 first],Thing.cells w.heap.size 64 (tabCells T AO cO AL cL AF cF)],Cellish O := by
    intro O hO
    simp only [List.mem_cons,List.not_mem_nil,or_false] at hO
    rcases hO with rfl | rfl | rfl | rfl | rfl | rfl | rfl | rfl | rfl <;> first | exact cellish_cells _ _ _ | exact cellish_row _ _ _ _ _
  have hL2 : ∀ f A1 k1 A2 k2 A3 k3,∀ O ∈ rollParts (T.roll f first) (w.heap.size + 1 + 1) (w.heap.size + 1 + 1 + 1) A1 k1 A2 k2 A3 k3,Cellish O := by
    intro f A1 k1 A2 k2 A3 k3 O hO
    simp only [List.mem_cons,List.not_mem_nil,or_false] at hO
    rcases hO with rfl | rfl | rfl | rfl | rfl <;> first | exact cellish_cells _ _ _ | exact cellish_row _ _ _ _ _
  have hWB : w.heap.size ≤ W0.heap.size := hS2.size
  have hfree := free_stops 3 (by omega) (w1.heap.size + 1) W0.heap.size T hT N hN AO cO AL cL AF cF W0 (by omega) (Nat.le_refl _) (Now.blk (pre:=[]) hS2) (((h.below (Sep.base hS2)).more hWB).o)
  clear hN hT
  refine wpIn_rangeFunc_ownH (F := Fence.wide) (n := 4) rfl (by omega) (gf := 187) (lb := #[.pointer (some ⟨w1.heap.size + 1,0,none⟩)]) rfl trivial (enters_of Tryz.func187 (by kernel_rfl) rfl)
    hfree belowK_t (belowK_b (Nat.le_refl _)) (Below.refl _ _) (fun _ => rfl)
    (fun pre W => pre = [] ∧ Sep w W [Thing.cells (w1.heap.size + 1) 64 (tabCells T AO cO AL cL AF cF),Thing.cells w1.heap.size 64 (tabCells T A1 k1 A2 k2 A3 k3),Thing.row 3 1 (.slice A1 T.order.length k1) T.order.length (ints T.order),Thing.row 3 1 (.slice A2 T.lens.length k2) T.lens.length (ints T.lens),Thing.row 43 1 (.slice A3 T.firsts.length k3) T.firsts.length (u64s T.firsts),Thing.cells (w.heap.size + 1 + 1 + 1) 31 #[.int .i64 0],Thing.cells (w.heap.size + 1 + 1) 64 zeroTab,Thing.cells (w.heap.size + 1) 43 #[.int .u64 first],Thing.cells w.heap.size 64 (tabCells T AO cO AL cL AF cF)])
    (fun c' pre W => c' = .ret ∧ ∃ f,pre = [f] ∧ ∃ A1 k1 A2 k2 A3 k3,Sep w W (rollParts (T.roll f first) (w.heap.size + 1 + 1) (w.heap.size + 1 + 1 + 1) A1 k1 A2 k2 A3 k3))
    (OwnFrom.and (ownFrom_pure _ _) (Now.ownFrom hL1 hWB))
    (fun c' => by
      rintro s X Y row ⟨e0,f,e1,B1,j1,B2,j2,B3,j3,hs⟩ hg hr
      exact ⟨e0,f,e1,B1,j1,B2,j2,B3,j3,Now.ownFrom (β := Unit) (hL2 f B1 j1 B2 j2 B3 j3) hWB () X Y row hs hg hr⟩)
    ⟨rfl,hS2⟩
    (fun x a' _ => a' = { tmps := #[.agg (tabCells T AO cO AL cL AF cF), .int .u64 first, .pointer (some ⟨w.heap.size,0,none⟩), .pointer (some ⟨w.heap.size + 1,0,none⟩), .pointer (some ⟨w.heap.size + 1 + 1,0,none⟩), .pointer (some ⟨w.heap.size + 1 + 1 + 1,0,none⟩), .pointer (some ⟨w1.heap.size,0,none⟩), .int .i64 x, .agg (tabCells T AO cO AL cL AF cF), .agg (tabCells T A1 k1 A2 k2 A3 k3), .agg (tabCells T AO cO AL cL AF cF), .func (.func 187) #[] #[.pointer (some ⟨w1.heap.size + 1,0,none⟩)], .int .i64 x,undef,undef,undef,undef,undef,undef,undef,undef,undef,undef,undef,undef,undef,undef,undef,undef,undef,undef,undef],defers := [] })
    (fun _ _ _ _ _ _ hs _ _ => hs)
    ?assign ?body ?done ?stop
  case assign =>
    rintro l pre x W K hI hK
    gi_wp2
    exact hK _ _ (KeepsFrom.refl _ _) (Below.refl _ W) hI rfl
  case body =>
    rintro l pre f a' W hl ⟨r,hr⟩ ⟨rfl,hS3⟩ rfl hlt'
    obtain ⟨S,hS,hback⟩ := hS3.part (B := W0.heap.size) hL1
    have hcont : ∀ w',(∃ A1 k1 A2 k2 A3 k3,Now S W w' (rollParts (T.roll f first) (w.heap.size + 1 + 1) (w.heap.size + 1 + 1 + 1) A1 k1 A2 k2 A3 k3)) → KeepsFrom W0.heap.size W w' ∧ (Code.ret = .ret ∧ ∃ f',[] ++ [f] = [f'] ∧ ∃ A1 k1 A2 k2 A3 k3,Sep w w' (rollParts (T.roll f' first) (w.heap.size + 1 + 1) (w.heap.size + 1 + 1 + 1) A1 k1 A2 k2 A3 k3)) := by
      rintro w' ⟨B1,j1,B2,j2,B3,j3,h'⟩
      obtain ⟨h5,h6⟩ := hback _ _ h'
      exact ⟨h5,rfl,f,rfl,B1,j1,B2,j2,B3,j3,h6⟩
    replace hcont := Lib.hid hcont
    clear hback hS3 hfree hL1 hL2 h hr hl hlt'
    obtain ⟨i0,hi0,hz0,hz1,hz2⟩ := info_parts infoInt
    obtain ⟨j0,hj0,hy0,hy1,hy2⟩ := info_parts infoU64
    have n1 : T.order.length + 1 ≤ maxLen := by unfold maxLen;omega
    have n2 : T.lens.length + 1 ≤ maxLen := by have := HT.out.len;unfold maxLen;omega
    have n3 : T.firsts.length + 1 ≤ maxLen := by have := HT.out.fst;unfold maxLen;omega
    have m1 : (T.order.length + 1) * 8 ≤ 140737488355328 := by omega
    have m2 : (T.lens.length + 1) * 8 ≤ 140737488355328 := by have := HT.out.len;omega
    have m3 : (T.firsts.length + 1) * 8 ≤ 140737488355328 := by have := HT.out.fst;omega
    have hyb := Now.blk (pre:=[_]) hS
    have hfb := Now.blk (pre:=[_,_,_,_,_,_,_]) hS
    have HB : w1.heap.size < W.drew.heap.size := hyb.lt
    have HF : w.heap.size + 1 < W.drew.heap.size := hfb.lt
    have hcell : ∀ v,(KeepG w1.heap.size W.drew v ∧ KeepG (w.heap.size + 1) W.drew v) → v.cell? ⟨w1.heap.size,2,none⟩ = some (.slice A1 T.order.length k1) ∧ v.cell? ⟨w1.heap.size,3,none⟩ = some (.slice A2 T.lens.length k2) ∧ v.cell? ⟨w1.heap.size,4,none⟩ = some (.slice A3 T.firsts.length k3) ∧ v.cell? ⟨w.heap.size + 1,0,none⟩ = some (.int .u64 first) := fun v hv => by
      have hb1 := KeepG.blk (w := W.drew) hv.1 hyb
      have hb2 := KeepG.blk (w := W.drew) hv.2 hfb
      exact ⟨hb1.cell 2,hb1.cell 3,hb1.cell 4,hb2.cell 0⟩
    replace hS := hS.drew
    clear hyb hfb
    gi_wp2
    refine wpIn_region_cut (r := some l) (fun a' w' => ∃ x13 x14 x15 x16 x17 x18 x19 x20 x21 x22 x23 x24 x25 x26 x27 x28 x29 : Value,a' = { tmps := #[.agg (tabCells T AO cO AL cL AF cF), .int .u64 first, .pointer (some ⟨w.heap.size,0,none⟩), .pointer (some ⟨w.heap.size + 1,0,none⟩), .pointer (some ⟨w.heap.size + 1 + 1,0,none⟩), .pointer (some ⟨w.heap.size + 1 + 1 + 1,0,none⟩), .pointer (some ⟨w1.heap.size,0,none⟩), .int .i64 f, .agg (tabCells T AO cO AL cL AF cF), .agg (tabCells T A1 k1 A2 k2 A3 k3), .agg (tabCells T AO cO AL cL AF cF), .func (.func 187) #[] #[.pointer (some ⟨w1.heap.size + 1,0,none⟩)], .int .i64 f,x13,x14,x15,x16,x17,x18,x19,x20,x21,x22,x23,x24,x25,x26,x27,x28,x29,undef,undef],defers := [] } ∧
        ∃ B1 j1 B2 j2 B3 j3,Now S W w' [Thing.cells (w1.heap.size + 1) 64 (tabCells T AO cO AL cL AF cF),Thing.cells w1.heap.size 64 (tabCells (T.roll f first) B1 j1 B2 j2 B3 j3),Thing.row 3 1 (.slice B1 (T.roll f first).order.length j1) (T.roll f first).order.length (ints (T.roll f first).order),Thing.row 3 1 (.slice B2 (T.roll f first).lens.length j2) (T.roll f first).lens.length (ints (T.roll f first).lens),Thing.row 43 1 (.slice B3 (T.roll f first).firsts.length j3) (T.roll f first).firsts.length (u64s (T.roll f first).firsts),Thing.cells (w.heap.size + 1 + 1 + 1) 31 #[.int .i64 0],Thing.cells (w.heap.size + 1 + 1) 64 zeroTab,Thing.cells (w.heap.size + 1) 43 #[.int .u64 first],Thing.cells w.heap.size 64 (tabCells T AO cO AL cL AF cF)])
      ((KeepG.grow w1.heap.size).and (KeepG.grow (w.heap.size + 1))) [15,17,19] [(0,true),(1,false),(2,true),(5,true),(6,false),(9,true),(10,false)] 13 (by kernel_rfl) (by kernel_rfl) (by kernel_rfl) rfl (by kernel_rfl) ?reg ?after
    case after =>
      rintro a' w' ⟨x13,x14,x15,x16,x17,x18,x19,x20,x21,x22,x23,x24,x25,x26,x27,x28,x29,rfl,B1,j1,B2,j2,B3,j3,HS⟩
      clear hS
      have hy := Now.blk (pre:=[_]) HS
      have c0 : _ = some (Value.int .i64 (T.roll f first).segs) := hy.cell 0
      have c1 : _ = some (Value.int .i64 (T.roll f first).slots) := hy.cell 1
      have c2 : _ = some (Value.slice B1 (T.roll f first).order.length j1) := hy.cell 2
      have c3 : _ = some (Value.slice B2 (T.roll f first).lens.length j2) := hy.cell 3
      have c4 : _ = some (Value.slice B3 (T.roll f first).firsts.length j3) := hy.cell 4
      have he := Now.blk (pre:=[_,_,_,_,_]) HS
      have hr := Now.blk (pre:=[_,_,_,_,_,_]) HS
      have fr := fun k => hr.frozen k
      have r0 : _ = some (Value.int .i64 0) := hr.cell 0
      have r1 : _ = some (Value.int .i64 0) := hr.cell 1
      have r2 : _ = some (Value.slice none 0 0) := hr.cell 2
      have r3 : _ = some (Value.slice none 0 0) := hr.cell 3
      have r4 : _ = some (Value.slice none 0 0) := hr.cell 4
      have fe := he.frozen 0
      have ce : _ = some (Value.int .i64 0) := he.cell 0
      have hS5 := Lib.hid (Now.set_ (pre:=[_,_,_,_,_]) (Now.set5 (pre:=[_,_,_,_,_,_]) HS (.int .i64 (T.roll f first).segs) (.int .i64 (T.roll f first).slots) (.slice B1 (T.roll f first).order.length j1) (.slice B2 (T.roll f first).lens.length j2) (.slice B3 (T.roll f first).firsts.length j3)) 0 (.int .i64 0))
      clear HS hy hr he
      gi_wp2
      have q := hcont.out _ ⟨B1,j1,B2,j2,B3,j3,Now.front (pre:=[_,_,_,_]) (Now.front (pre:=[_,_,_]) (Now.drop (pre:=[_,_,_,_,_]) (Now.drop (pre:=[_,_,_,_,_]) (Now.drop (pre:=[]) (Now.drop (pre:=[]) hS5.out)))))⟩
      exact ⟨q.1,rfl,q.2.2⟩
    case reg =>
    (apply wpTakes_pure
     · exact rfl
     · intro w1
       skip
       go_simp
       first
         | with_reducible exact ⟨rfl,sqN _⟩
     simp only [Act.put,sqA,sqB,sqC])
    (apply wpTakes_take
     · exact rfl
     · intro w1v hR1
       (obtain ⟨c2,c3,c4,cf⟩ := hcell w1v hR1)
       go_simp
       first
         | with_reducible exact ⟨rfl,sqN _⟩
     simp only [Act.put,sqA,sqB,sqC])
    (apply wpTakes_pure
     · exact rfl
     · intro w1
       skip
       go_simp
       first
         | with_reducible exact ⟨rfl,sqN _⟩
     simp only [Act.put,sqA,sqB,sqC])
    (apply wpTakes_pure
     · exact rfl
     · intro w1
       skip
       go_simp
       first
         | with_reducible exact ⟨rfl,sqN _⟩
     simp only [Act.put,sqA,sqB,sqC])
    (apply wpTakes_take
     · exact rfl
     · intro w1v hR1
       (obtain ⟨c2,c3,c4,cf⟩ := hcell w1v hR1)
       go_simp
       first
         | with_reducible exact ⟨rfl,sqN _⟩
     simp only [Act.put,sqA,sqB,sqC])
    (apply wpTakes_pure
     · exact rfl
     · intro w1
       skip
       go_simp
       first
         | with_reducible exact ⟨rfl,sqN _⟩
     simp only [Act.put,sqA,sqB,sqC])
    (apply wpTakes_take
     · exact rfl
     · intro w1v hR1
       (obtain ⟨c2,c3,c4,cf⟩ := hcell w1v hR1)
       go_simp
       first
         | with_reducible exact ⟨rfl,sqN _⟩
     simp only [Act.put,sqA,sqB,sqC])
    refine wpTakes_done ?_
    apply wpAnyE_takeD ((KeepG.grow w1.heap.size).and (KeepG.grow (w.heap.size + 1))) 11 [12,13,15,17,19]
    · kernel_rfl
    · exact post_steady
    · exact rfl
    · kernel_rfl
    · intro wv hR1
      obtain ⟨c2,c3,c4,cf⟩ := hcell wv hR1
      go_simp
      exact ⟨rfl,sqN _⟩
    try simp only [Act.put,sqA,sqB,sqC]
    clear hcell HB HF
    generalize W.drew = wc at hS ⊢
    refine wpAnyE_tail #[true,true,true,true,true,true,true,true,true,true,true,true,true,true,true,false,false,false,false,false] 5 (fun a' w' => ∃ x13 x14 x15 x16 x18 x19 x20 x22 x23 x24 x25 : Value, ∃ g1 j1 g2 j2 g3 j3 : Nat,a' = { tmps := #[.agg (tabCells T AO cO AL cL AF cF), .int .u64 first, .pointer (some ⟨w.heap.size,0,none⟩), .pointer (some ⟨w.heap.size + 1,0,none⟩), .pointer (some ⟨w.heap.size + 1 + 1,0,none⟩), .pointer (some ⟨w.heap.size + 1 + 1 + 1,0,none⟩), .pointer (some ⟨w1.heap.size,0,none⟩), .int .i64 f, .agg (tabCells T AO cO AL cL AF cF), .agg (tabCells T A1 k1 A2 k2 A3 k3), .agg (tabCells T AO cO AL cL AF cF), .func (.func 187) #[] #[.pointer (some ⟨w1.heap.size + 1,0,none⟩)], .int .i64 f,x13,x14,x15,x16, .slice (some ⟨g1,0,none⟩) (T.order.length + 1) j1,x18,x19,x20, .slice (some ⟨g2,0,none⟩) (T.lens.length + 1) j2,x22,x23,x24,x25, .slice (some ⟨g3,0,none⟩) (T.firsts.length + 1) j3, .pointer (some ⟨w1.heap.size,2,none⟩),undef,undef,undef,undef],defers := [] } ∧
        Now S W w' [Thing.cells (w1.heap.size + 1) 64 (tabCells T AO cO AL cL AF cF),Thing.cells w1.heap.size 64 (tabCells T A1 k1 A2 k2 A3 k3),Thing.row 3 1 (.slice (some ⟨g1,0,none⟩) (T.order.length + 1) j1) (T.order.length + 1) (ints T.order ++ [.int .i64 f]),Thing.row 3 1 (.slice (some ⟨g2,0,none⟩) (T.lens.length + 1) j2) (T.lens.length + 1) (ints T.lens ++ [.int .i64 0]),Thing.row 43 1 (.slice (some ⟨g3,0,none⟩) (T.firsts.length + 1) j3) (T.firsts.length + 1) (u64s T.firsts ++ [.int .u64 first]),Thing.cells (w.heap.size + 1 + 1 + 1) 31 #[.int .i64 0],Thing.cells (w.heap.size + 1 + 1) 64 zeroTab,Thing.cells (w.heap.size + 1) 43 #[.int .u64 first],Thing.cells w.heap.size 64 (tabCells T AO cO AL cL AF cF)]) ?_ ?_
    · rintro a' w' ⟨x13,x14,x15,x16,x18,x19,x20,x22,x23,x24,x25,g1,j1,g2,j2,g3,j3,rfl,hS⟩
      refine wpAnyE_fork [15] (by kernel_rfl) (by simp) ?_
      refine sqM ?_
      refine ⟨_,rfl,?_⟩
      intro wv hv K hK
      replace hS := Now.below hS hv
      have hyb := Now.blk (pre:=[_]) hS
      have f2 := hyb.frozen 2
      have c2 := hyb.cell 2
      simp only [List.getElem?_toArray,Array.setIfInBounds,List.getElem?_cons_zero,List.getElem?_cons_succ] at c2
      go_simp
      refine hK _ _ (fun hn => absurd (by decide) hn) ?_
      replace hS := Now.set_ (pre:=[_]) hS 2 (.slice (some ⟨g1,0,none⟩) (T.order.length + 1) j1)
      clear hK K hyb c2 f2 hv
      generalize wv.setCell ⟨w1.heap.size,2,none⟩ (.slice (some ⟨g1,0,none⟩) (T.order.length + 1) j1) = v15 at hS ⊢
      clear wv
      apply wpAnyE_pure ((KeepG.grow w1.heap.size).and (KeepG.grow (w.heap.size + 1))) 16
      · kernel_rfl
      · exact post_steady
      · exact rfl
      · kernel_rfl
      · intro wv
        go_simp
        exact ⟨rfl,sqN _⟩
      try simp only [Act.put,sqA,sqB,sqC]
      refine wpAnyE_fork [17] (by kernel_rfl) (by simp) ?_
      refine sqM ?_
      refine ⟨_,rfl,?_⟩
      intro wv hv K hK
      replace hS := Now.below hS hv
      have hyb := Now.blk (pre:=[_]) hS
      have f2 := hyb.frozen 3
      have c2 := hyb.cell 3
      simp only [List.getElem?_toArray,Array.setIfInBounds,List.getElem?_cons_zero,List.getElem?_cons_succ] at c2
      go_simp
      refine hK _ _ (fun hn => absurd (by decide) hn) ?_
      replace hS := Now.set_ (pre:=[_]) hS 3 (.slice (some ⟨g2,0,none⟩) (T.lens.length + 1) j2)
      clear hK K hyb c2 f2 hv
      generalize wv.setCell ⟨w1.heap.size,3,none⟩ (.slice (some ⟨g2,0,none⟩) (T.lens.length + 1) j2) = v17 at hS ⊢
      clear wv
      apply wpAnyE_pure ((KeepG.grow w1.heap.size).and (KeepG.grow (w.heap.size + 1))) 18
      · kernel_rfl
      · exact post_steady
      · exact rfl
      · kernel_rfl
      · intro wv
        go_simp
        exact ⟨rfl,sqN _⟩
      try simp only [Act.put,sqA,sqB,sqC]
      refine wpAnyE_fork [19] (by kernel_rfl) (by simp) ?_
      refine sqM ?_
      refine ⟨_,rfl,?_⟩
      intro wv hv K hK
      replace hS := Now.below hS hv
      have hyb := Now.blk (pre:=[_]) hS
      have f2 := hyb.frozen 4
      have c2 := hyb.cell 4
      simp only [List.getElem?_toArray,Array.setIfInBounds,List.getElem?_cons_zero,List.getElem?_cons_succ] at c2
      go_simp
      refine hK _ _ (fun hn => absurd (by decide) hn) ?_
      replace hS := Now.set_ (pre:=[_]) hS 4 (.slice (some ⟨g3,0,none⟩) (T.firsts.length + 1) j3)
      clear hK K hyb c2 f2 hv
      generalize wv.setCell ⟨w1.heap.size,4,none⟩ (.slice (some ⟨g3,0,none⟩) (T.firsts.length + 1) j3) = v19 at hS ⊢
      clear wv
      refine wpAnyE_end (by kernel_rfl) fun v8 h8 => ?_
      replace hS := Now.below hS h8
      have e1 : (T.roll f first).order.length = T.order.length + 1 := by simp [Tab.roll]
      have e2 : (T.roll f first).lens.length = T.lens.length + 1 := by simp [Tab.roll]
      have e3 : (T.roll f first).firsts.length = T.firsts.length + 1 := by simp [Tab.roll]
      have e4 : ints (T.roll f first).order = ints T.order ++ [.int .i64 f] := by simp [Tab.roll,ints]
      have e5 : ints (T.roll f first).lens = ints T.lens ++ [.int .i64 0] := by simp [Tab.roll,ints]
      have e6 : u64s (T.roll f first).firsts = u64s T.firsts ++ [.int .u64 first] := by simp [Tab.roll,u64s]
      refine ⟨_,_,_,_,_,_,_,_,_,_,_,_,_,_,_,_,_,rfl,some ⟨g1,0,none⟩,j1,some ⟨g2,0,none⟩,j2,some ⟨g3,0,none⟩,j3,?_⟩
      unfold tabCells
      rw [e1,e2,e3,e4,e5,e6]
      exact hS
    intro HT
    replace HT := Lib.hid HT
    -- TREE
    refine wpAnyE_fork [3,7,12] (by kernel_rfl) (by simp) ?_
    refine List.forall_mem_cons.2 ⟨?_,List.forall_mem_cons.2 ⟨?_,List.forall_mem_cons.2 ⟨?_,List.forall_mem_nil _⟩⟩⟩
    · refine ⟨_,rfl,?_⟩
      intro wv hv K hK
      replace hS := Now.below hS hv
      replace hS := Now.pushCells hS 3 #[(.int .i64 f)]
      go_simp
      refine hK _ _ (fun _ => ⟨fun hlt => ⟨(Newer.refl wv).alloc _ |>.block _ hlt,((Newer.refl wv).alloc _).size⟩,fun hlt => ⟨(Newer.refl wv).alloc _ |>.block _ hlt,((Newer.refl wv).alloc _).size⟩⟩) ?_
      clear hK K hv
      generalize wv.alloc (.cells #[(.int .i64 f)] 3) = wc2 at hS ⊢
      generalize wv.heap.size = kb1 at hS ⊢
      clear wv
      try simp only [Act.put,sqA,sqB,sqC]
      refine wpAnyE_fork [4,7,12] (by kernel_rfl) (by simp) ?_
      refine List.forall_mem_cons.2 ⟨?_,List.forall_mem_cons.2 ⟨?_,List.forall_mem_cons.2 ⟨?_,List.forall_mem_nil _⟩⟩⟩
      · refine ⟨_,rfl,?_⟩
        intro wv hv K hK
        replace hS := Now.below hS hv
        rw [if_pos (by kernel_rfl)]
        refine wp_app_now _ _ 51 3 rfl Tryz.underlying51 hi0 hz0 hz1 hz2 rfl (pre:=[_,_,_]) hS (Now.blk (pre:=[]) hS) rfl rfl rfl n1 m1 ?_
        intro g1 cap1 wc3 hz hS2
        refine hK _ _ (fun _ => ⟨fun _ => ⟨(Now.blk (pre:=[_,_]) hS2).trans (Now.blk (pre:=[_,_]) hS).symm,hz⟩,fun _ => ⟨(Now.blk (pre:=[_,_,_,_,_,_,_,_]) hS2).trans (Now.blk (pre:=[_,_,_,_,_,_,_,_]) hS).symm,hz⟩⟩) ?_
        replace hS := hS2
        clear hS2 hz hK K hv wv
        try simp only [Act.put,sqA,sqB,sqC]
        apply wpAnyE_pure ((KeepG.grow w1.heap.size).and (KeepG.grow (w.heap.size + 1))) 14
        · kernel_rfl
        · exact post_steady
        · exact rfl
        · kernel_rfl
        · intro wv
          go_simp
          exact ⟨rfl,sqN _⟩
        try simp only [Act.put,sqA,sqB,sqC]
        refine wpAnyE_fork [7,12] (by kernel_rfl) (by simp) ?_
        refine List.forall_mem_cons.2 ⟨?_,List.forall_mem_cons.2 ⟨?_,List.forall_mem_nil _⟩⟩
        · refine ⟨_,rfl,?_⟩
          intro wv hv K hK
          replace hS := Now.below hS hv
          replace hS := Now.pushCells hS 3 #[(.int .i64 0)]
          go_simp
          refine hK _ _ (fun _ => ⟨fun hlt => ⟨(Newer.refl wv).alloc _ |>.block _ hlt,((Newer.refl wv).alloc _).size⟩,fun hlt => ⟨(Newer.refl wv).alloc _ |>.block _ hlt,((Newer.refl wv).alloc _).size⟩⟩) ?_
          clear hK K hv
          generalize wv.alloc (.cells #[(.int .i64 0)] 3) = wc4 at hS ⊢
          generalize wv.heap.size = kb2 at hS ⊢
          clear wv
          try simp only [Act.put,sqA,sqB,sqC]
          refine wpAnyE_fork [8,12] (by kernel_rfl) (by simp) ?_
          refine List.forall_mem_cons.2 ⟨?_,List.forall_mem_cons.2 ⟨?_,List.forall_mem_nil _⟩⟩
          · refine ⟨_,rfl,?_⟩
            intro wv hv K hK
            replace hS := Now.below hS hv
            rw [if_pos (by kernel_rfl)]
            refine wp_app_now _ _ 51 3 rfl Tryz.underlying51 hi0 hz0 hz1 hz2 rfl (pre:=[_,_,_,_,_]) hS (Now.blk (pre:=[]) hS) rfl rfl rfl n2 m2 ?_
            intro g2 cap2 wc5 hz hS2
            refine hK _ _ (fun _ => ⟨fun _ => ⟨(Now.blk (pre:=[_,_,_]) hS2).trans (Now.blk (pre:=[_,_,_]) hS).symm,hz⟩,fun _ => ⟨(Now.blk (pre:=[_,_,_,_,_,_,_,_,_]) hS2).trans (Now.blk (pre:=[_,_,_,_,_,_,_,_,_]) hS).symm,hz⟩⟩) ?_
            replace hS := hS2
            clear hS2 hz hK K hv wv
            try simp only [Act.put,sqA,sqB,sqC]
            refine wpAnyE_fork [12] (by kernel_rfl) (by simp) ?_
            refine sqM ?_
            · refine ⟨_,rfl,?_⟩
              intro wv hv K hK
              replace hS := Now.below hS hv
              replace hS := Now.pushCells hS 43 #[(.int .u64 first)]
              go_simp
              refine hK _ _ (fun _ => ⟨fun hlt => ⟨(Newer.refl wv).alloc _ |>.block _ hlt,((Newer.refl wv).alloc _).size⟩,fun hlt => ⟨(Newer.refl wv).alloc _ |>.block _ hlt,((Newer.refl wv).alloc _).size⟩⟩) ?_
              clear hK K hv
              generalize wv.alloc (.cells #[(.int .u64 first)] 43) = wc6 at hS ⊢
              generalize wv.heap.size = kb3 at hS ⊢
              clear wv
              try simp only [Act.put,sqA,sqB,sqC]
              refine wpAnyE_fork [13] (by kernel_rfl) (by simp) ?_
              refine sqM ?_
              · refine ⟨_,rfl,?_⟩
                intro wv hv K hK
                replace hS := Now.below hS hv
                rw [if_pos (by kernel_rfl)]
                refine wp_app_now _ _ 62 43 rfl Tryz.underlying62 hj0 hy0 hy1 hy2 rfl (pre:=[_,_,_,_,_,_,_]) hS (Now.blk (pre:=[]) hS) rfl rfl rfl n3 m3 ?_
                intro g3 cap3 wc7 hz hS2
                refine hK _ _ (fun _ => ⟨fun _ => ⟨(Now.blk (pre:=[_,_,_,_]) hS2).trans (Now.blk (pre:=[_,_,_,_]) hS).symm,hz⟩,fun _ => ⟨(Now.blk (pre:=[_,_,_,_,_,_,_,_,_,_]) hS2).trans (Now.blk (pre:=[_,_,_,_,_,_,_,_,_,_]) hS).symm,hz⟩⟩) ?_
                replace hS := hS2
                clear hS2 hz hK K hv wv
                try simp only [Act.put,sqA,sqB,sqC]
                exact HT.out _ _ _ (by kernel_rfl) ⟨_,_,_,_,_,_,_,_,_,_,_,_,_,_,_,_,_,rfl,(Now.drop (pre:=[]) (Now.drop (pre:=[]) (Now.drop (pre:=[]) hS)))⟩
          · refine ⟨_,rfl,?_⟩
            intro wv hv K hK
            replace hS := Now.below hS hv
            replace hS := Now.pushCells hS 43 #[(.int .u64 first)]
            go_simp
            refine hK _ _ (fun _ => ⟨fun hlt => ⟨(Newer.refl wv).alloc _ |>.block _ hlt,((Newer.refl wv).alloc _).size⟩,fun hlt => ⟨(Newer.refl wv).alloc _ |>.block _ hlt,((Newer.refl wv).alloc _).size⟩⟩) ?_
            clear hK K hv
            generalize wv.alloc (.cells #[(.int .u64 first)] 43) = wc5 at hS ⊢
            generalize wv.heap.size = kb3 at hS ⊢
            clear wv
            try simp only [Act.put,sqA,sqB,sqC]
            refine wpAnyE_fork [8] (by kernel_rfl) (by simp) ?_
            refine sqM ?_
            · refine ⟨_,rfl,?_⟩
              intro wv hv K hK
              replace hS := Now.below hS hv
              rw [if_pos (by kernel_rfl)]
              refine wp_app_now _ _ 51 3 rfl Tryz.underlying51 hi0 hz0 hz1 hz2 rfl (pre:=[_,_,_,_,_,_]) hS (Now.blk (pre:=[_]) hS) rfl rfl rfl n2 m2 ?_
              intro g2 cap2 wc6 hz hS2
              refine hK _ _ (fun _ => ⟨fun _ => ⟨(Now.blk (pre:=[_,_,_,_]) hS2).trans (Now.blk (pre:=[_,_,_,_]) hS).symm,hz⟩,fun _ => ⟨(Now.blk (pre:=[_,_,_,_,_,_,_,_,_,_]) hS2).trans (Now.blk (pre:=[_,_,_,_,_,_,_,_,_,_]) hS).symm,hz⟩⟩) ?_
              replace hS := hS2
              clear hS2 hz hK K hv wv
              try simp only [Act.put,sqA,sqB,sqC]
              refine wpAnyE_fork [13] (by kernel_rfl) (by simp) ?_
              refine sqM ?_
              · refine ⟨_,rfl,?_⟩
                intro wv hv K hK
                replace hS := Now.below hS hv
                rw [if_pos (by kernel_rfl)]
                refine wp_app_now _ _ 62 43 rfl Tryz.underlying62 hj0 hy0 hy1 hy2 rfl (pre:=[_,_,_,_,_,_,_]) hS (Now.blk (pre:=[]) hS) rfl rfl rfl n3 m3 ?_
                intro g3 cap3 wc7 hz hS2
                refine hK _ _ (fun _ => ⟨fun _ => ⟨(Now.blk (pre:=[_,_,_,_]) hS2).trans (Now.blk (pre:=[_,_,_,_]) hS).symm,hz⟩,fun _ => ⟨(Now.blk (pre:=[_,_,_,_,_,_,_,_,_,_]) hS2).trans (Now.blk (pre:=[_,_,_,_,_,_,_,_,_,_]) hS).symm,hz⟩⟩) ?_
                replace hS := hS2
                clear hS2 hz hK K hv wv
                try simp only [Act.put,sqA,sqB,sqC]
                exact HT.out _ _ _ (by kernel_rfl) ⟨_,_,_,_,_,_,_,_,_,_,_,_,_,_,_,_,_,rfl,(Now.drop (pre:=[]) (Now.drop (pre:=[]) (Now.drop (pre:=[]) hS)))⟩
        · refine ⟨_,rfl,?_⟩
          intro wv hv K hK
          replace hS := Now.below hS hv
          replace hS := Now.pushCells hS 43 #[(.int .u64 first)]
          go_simp
          refine hK _ _ (fun _ => ⟨fun hlt => ⟨(Newer.refl wv).alloc _ |>.block _ hlt,((Newer.refl wv).alloc _).size⟩,fun hlt => ⟨(Newer.refl wv).alloc _ |>.block _ hlt,((Newer.refl wv).alloc _).size⟩⟩) ?_
          clear hK K hv
          generalize wv.alloc (.cells #[(.int .u64 first)] 43) = wc4 at hS ⊢
          generalize wv.heap.size = kb3 at hS ⊢
          clear wv
          try simp only [Act.put,sqA,sqB,sqC]
          refine wpAnyE_fork [7] (by kernel_rfl) (by simp) ?_
          refine sqM ?_
          · refine ⟨_,rfl,?_⟩
            intro wv hv K hK
            replace hS := Now.below hS hv
            replace hS := Now.pushCells hS 3 #[(.int .i64 0)]
            go_simp
            refine hK _ _ (fun _ => ⟨fun hlt => ⟨(Newer.refl wv).alloc _ |>.block _ hlt,((Newer.refl wv).alloc _).size⟩,fun hlt => ⟨(Newer.refl wv).alloc _ |>.block _ hlt,((Newer.refl wv).alloc _).size⟩⟩) ?_
            clear hK K hv
            generalize wv.alloc (.cells #[(.int .i64 0)] 3) = wc5 at hS ⊢
            generalize wv.heap.size = kb2 at hS ⊢
            clear wv
            try simp only [Act.put,sqA,sqB,sqC]
            refine wpAnyE_fork [8] (by kernel_rfl) (by simp) ?_
            refine sqM ?_
            · refine ⟨_,rfl,?_⟩
              intro wv hv K hK
              replace hS := Now.below hS hv
              rw [if_pos (by kernel_rfl)]
              refine wp_app_now _ _ 51 3 rfl Tryz.underlying51 hi0 hz0 hz1 hz2 rfl (pre:=[_,_,_,_,_,_]) hS (Now.blk (pre:=[]) hS) rfl rfl rfl n2 m2 ?_
              intro g2 cap2 wc6 hz hS2
              refine hK _ _ (fun _ => ⟨fun _ => ⟨(Now.blk (pre:=[_,_,_,_]) hS2).trans (Now.blk (pre:=[_,_,_,_]) hS).symm,hz⟩,fun _ => ⟨(Now.blk (pre:=[_,_,_,_,_,_,_,_,_,_]) hS2).trans (Now.blk (pre:=[_,_,_,_,_,_,_,_,_,_]) hS).symm,hz⟩⟩) ?_
              replace hS := hS2
              clear hS2 hz hK K hv wv
              try simp only [Act.put,sqA,sqB,sqC]
              refine wpAnyE_fork [13] (by kernel_rfl) (by simp) ?_
              refine sqM ?_
              · refine ⟨_,rfl,?_⟩
                intro wv hv K hK
                replace hS := Now.below hS hv
                rw [if_pos (by kernel_rfl)]
                refine wp_app_now _ _ 62 43 rfl Tryz.underlying62 hj0 hy0 hy1 hy2 rfl (pre:=[_,_,_,_,_,_,_]) hS (Now.blk (pre:=[_]) hS) rfl rfl rfl n3 m3 ?_
                intro g3 cap3 wc7 hz hS2
                refine hK _ _ (fun _ => ⟨fun _ => ⟨(Now.blk (pre:=[_,_,_,_]) hS2).trans (Now.blk (pre:=[_,_,_,_]) hS).symm,hz⟩,fun _ => ⟨(Now.blk (pre:=[_,_,_,_,_,_,_,_,_,_]) hS2).trans (Now.blk (pre:=[_,_,_,_,_,_,_,_,_,_]) hS).symm,hz⟩⟩) ?_
                replace hS := hS2
                clear hS2 hz hK K hv wv
                try simp only [Act.put,sqA,sqB,sqC]
                exact HT.out _ _ _ (by kernel_rfl) ⟨_,_,_,_,_,_,_,_,_,_,_,_,_,_,_,_,_,rfl,(Now.drop (pre:=[]) (Now.drop (pre:=[]) (Now.drop (pre:=[]) hS)))⟩
      · refine ⟨_,rfl,?_⟩
        intro wv hv K hK
        replace hS := Now.below hS hv
        replace hS := Now.pushCells hS 3 #[(.int .i64 0)]
        go_simp
        refine hK _ _ (fun _ => ⟨fun hlt => ⟨(Newer.refl wv).alloc _ |>.block _ hlt,((Newer.refl wv).alloc _).size⟩,fun hlt => ⟨(Newer.refl wv).alloc _ |>.block _ hlt,((Newer.refl wv).alloc _).size⟩⟩) ?_
        clear hK K hv
        generalize wv.alloc (.cells #[(.int .i64 0)] 3) = wc3 at hS ⊢
        generalize wv.heap.size = kb2 at hS ⊢
        clear wv
        try simp only [Act.put,sqA,sqB,sqC]
        refine wpAnyE_fork [4,12] (by kernel_rfl) (by simp) ?_
        refine List.forall_mem_cons.2 ⟨?_,List.forall_mem_cons.2 ⟨?_,List.forall_mem_nil _⟩⟩
        · refine ⟨_,rfl,?_⟩
          intro wv hv K hK
          replace hS := Now.below hS hv
          rw [if_pos (by kernel_rfl)]
          refine wp_app_now _ _ 51 3 rfl Tryz.underlying51 hi0 hz0 hz1 hz2 rfl (pre:=[_,_,_,_]) hS (Now.blk (pre:=[_]) hS) rfl rfl rfl n1 m1 ?_
          intro g1 cap1 wc4 hz hS2
          refine hK _ _ (fun _ => ⟨fun _ => ⟨(Now.blk (pre:=[_,_,_]) hS2).trans (Now.blk (pre:=[_,_,_]) hS).symm,hz⟩,fun _ => ⟨(Now.blk (pre:=[_,_,_,_,_,_,_,_,_]) hS2).trans (Now.blk (pre:=[_,_,_,_,_,_,_,_,_]) hS).symm,hz⟩⟩) ?_
          replace hS := hS2
          clear hS2 hz hK K hv wv
          try simp only [Act.put,sqA,sqB,sqC]
          apply wpAnyE_pure ((KeepG.grow w1.heap.size).and (KeepG.grow (w.heap.size + 1))) 14
          · kernel_rfl
          · exact post_steady
          · exact rfl
          · kernel_rfl
          · intro wv
            go_simp
            exact ⟨rfl,sqN _⟩
          try simp only [Act.put,sqA,sqB,sqC]
          refine wpAnyE_fork [8,12] (by kernel_rfl) (by simp) ?_
          refine List.forall_mem_cons.2 ⟨?_,List.forall_mem_cons.2 ⟨?_,List.forall_mem_nil _⟩⟩
          · refine ⟨_,rfl,?_⟩
            intro wv hv K hK
            replace hS := Now.below hS hv
            rw [if_pos (by kernel_rfl)]
            refine wp_app_now _ _ 51 3 rfl Tryz.underlying51 hi0 hz0 hz1 hz2 rfl (pre:=[_,_,_,_,_]) hS (Now.blk (pre:=[]) hS) rfl rfl rfl n2 m2 ?_
            intro g2 cap2 wc5 hz hS2
            refine hK _ _ (fun _ => ⟨fun _ => ⟨(Now.blk (pre:=[_,_,_]) hS2).trans (Now.blk (pre:=[_,_,_]) hS).symm,hz⟩,fun _ => ⟨(Now.blk (pre:=[_,_,_,_,_,_,_,_,_]) hS2).trans (Now.blk (pre:=[_,_,_,_,_,_,_,_,_]) hS).symm,hz⟩⟩) ?_
            replace hS := hS2
            clear hS2 hz hK K hv wv
            try simp only [Act.put,sqA,sqB,sqC]
            refine wpAnyE_fork [12] (by kernel_rfl) (by simp) ?_
            refine sqM ?_
            · refine ⟨_,rfl,?_⟩
              intro wv hv K hK
              replace hS := Now.below hS hv
              replace hS := Now.pushCells hS 43 #[(.int .u64 first)]
              go_simp
              refine hK _ _ (fun _ => ⟨fun hlt => ⟨(Newer.refl wv).alloc _ |>.block _ hlt,((Newer.refl wv).alloc _).size⟩,fun hlt => ⟨(Newer.refl wv).alloc _ |>.block _ hlt,((Newer.refl wv).alloc _).size⟩⟩) ?_
              clear hK K hv
              generalize wv.alloc (.cells #[(.int .u64 first)] 43) = wc6 at hS ⊢
              generalize wv.heap.size = kb3 at hS ⊢
              clear wv
              try simp only [Act.put,sqA,sqB,sqC]
              refine wpAnyE_fork [13] (by kernel_rfl) (by simp) ?_
              refine sqM ?_
              · refine ⟨_,rfl,?_⟩
                intro wv hv K hK
                replace hS := Now.below hS hv
                rw [if_pos (by kernel_rfl)]
                refine wp_app_now _ _ 62 43 rfl Tryz.underlying62 hj0 hy0 hy1 hy2 rfl (pre:=[_,_,_,_,_,_,_]) hS (Now.blk (pre:=[]) hS) rfl rfl rfl n3 m3 ?_
                intro g3 cap3 wc7 hz hS2
                refine hK _ _ (fun _ => ⟨fun _ => ⟨(Now.blk (pre:=[_,_,_,_]) hS2).trans (Now.blk (pre:=[_,_,_,_]) hS).symm,hz⟩,fun _ => ⟨(Now.blk (pre:=[_,_,_,_,_,_,_,_,_,_]) hS2).trans (Now.blk (pre:=[_,_,_,_,_,_,_,_,_,_]) hS).symm,hz⟩⟩) ?_
                replace hS := hS2
                clear hS2 hz hK K hv wv
                try simp only [Act.put,sqA,sqB,sqC]
                exact HT.out _ _ _ (by kernel_rfl) ⟨_,_,_,_,_,_,_,_,_,_,_,_,_,_,_,_,_,rfl,(Now.drop (pre:=[]) (Now.drop (pre:=[]) (Now.drop (pre:=[]) hS)))⟩
          · refine ⟨_,rfl,?_⟩
            intro wv hv K hK
            replace hS := Now.below hS hv
            replace hS := Now.pushCells hS 43 #[(.int .u64 first)]
            go_simp
            refine hK _ _ (fun _ => ⟨fun hlt => ⟨(Newer.refl wv).alloc _ |>.block _ hlt,((Newer.refl wv).alloc _).size⟩,fun hlt => ⟨(Newer.refl wv).alloc _ |>.block _ hlt,((Newer.refl wv).alloc _).size⟩⟩) ?_
            clear hK K hv
            generalize wv.alloc (.cells #[(.int .u64 first)] 43) = wc5 at hS ⊢
            generalize wv.heap.size = kb3 at hS ⊢
            clear wv
            try simp only [Act.put,sqA,sqB,sqC]
            refine wpAnyE_fork [8] (by kernel_rfl) (by simp) ?_
            refine sqM ?_
            · refine ⟨_,rfl,?_⟩
              intro wv hv K hK
              replace hS := Now.below hS hv
              rw [if_pos (by kernel_rfl)]
              refine wp_app_now _ _ 51 3 rfl Tryz.underlying51 hi0 hz0 hz1 hz2 rfl (pre:=[_,_,_,_,_,_]) hS (Now.blk (pre:=[_]) hS) rfl rfl rfl n2 m2 ?_
              intro g2 cap2 wc6 hz hS2
              refine hK _ _ (fun _ => ⟨fun _ => ⟨(Now.blk (pre:=[_,_,_,_]) hS2).trans (Now.blk (pre:=[_,_,_,_]) hS).symm,hz⟩,fun _ => ⟨(Now.blk (pre:=[_,_,_,_,_,_,_,_,_,_]) hS2).trans (Now.blk (pre:=[_,_,_,_,_,_,_,_,_,_]) hS).symm,hz⟩⟩) ?_
              replace hS := hS2
              clear hS2 hz hK K hv wv
              try simp only [Act.put,sqA,sqB,sqC]
              refine wpAnyE_fork [13] (by kernel_rfl) (by simp) ?_
              refine sqM ?_
              · refine ⟨_,rfl,?_⟩
                intro wv hv K hK
                replace hS := Now.below hS hv
                rw [if_pos (by kernel_rfl)]
                refine wp_app_now _ _ 62 43 rfl Tryz.underlying62 hj0 hy0 hy1 hy2 rfl (pre:=[_,_,_,_,_,_,_]) hS (Now.blk (pre:=[]) hS) rfl rfl rfl n3 m3 ?_
                intro g3 cap3 wc7 hz hS2
                refine hK _ _ (fun _ => ⟨fun _ => ⟨(Now.blk (pre:=[_,_,_,_]) hS2).trans (Now.blk (pre:=[_,_,_,_]) hS).symm,hz⟩,fun _ => ⟨(Now.blk (pre:=[_,_,_,_,_,_,_,_,_,_]) hS2).trans (Now.blk (pre:=[_,_,_,_,_,_,_,_,_,_]) hS).symm,hz⟩⟩) ?_
                replace hS := hS2
                clear hS2 hz hK K hv wv
                try simp only [Act.put,sqA,sqB,sqC]
                exact HT.out _ _ _ (by kernel_rfl) ⟨_,_,_,_,_,_,_,_,_,_,_,_,_,_,_,_,_,rfl,(Now.drop (pre:=[]) (Now.drop (pre:=[]) (Now.drop (pre:=[]) hS)))⟩
        · refine ⟨_,rfl,?_⟩
          intro wv hv K hK
          replace hS := Now.below hS hv
          replace hS := Now.pushCells hS 43 #[(.int .u64 first)]
          go_simp
          refine hK _ _ (fun _ => ⟨fun hlt => ⟨(Newer.refl wv).alloc _ |>.block _ hlt,((Newer.refl wv).alloc _).size⟩,fun hlt => ⟨(Newer.refl wv).alloc _ |>.block _ hlt,((Newer.refl wv).alloc _).size⟩⟩) ?_
          clear hK K hv
          generalize wv.alloc (.cells #[(.int .u64 first)] 43) = wc4 at hS ⊢
          generalize wv.heap.size = kb3 at hS ⊢
          clear wv
          try simp only [Act.put,sqA,sqB,sqC]
          refine wpAnyE_fork [4] (by kernel_rfl) (by simp) ?_
          refine sqM ?_
          · refine ⟨_,rfl,?_⟩
            intro wv hv K hK
            replace hS := Now.below hS hv
            rw [if_pos (by kernel_rfl)]
            refine wp_app_now _ _ 51 3 rfl Tryz.underlying51 hi0 hz0 hz1 hz2 rfl (pre:=[_,_,_,_,_]) hS (Now.blk (pre:=[_,_]) hS) rfl rfl rfl n1 m1 ?_
            intro g1 cap1 wc5 hz hS2
            refine hK _ _ (fun _ => ⟨fun _ => ⟨(Now.blk (pre:=[_,_,_,_]) hS2).trans (Now.blk (pre:=[_,_,_,_]) hS).symm,hz⟩,fun _ => ⟨(Now.blk (pre:=[_,_,_,_,_,_,_,_,_,_]) hS2).trans (Now.blk (pre:=[_,_,_,_,_,_,_,_,_,_]) hS).symm,hz⟩⟩) ?_
            replace hS := hS2
            clear hS2 hz hK K hv wv
            try simp only [Act.put,sqA,sqB,sqC]
            apply wpAnyE_pure ((KeepG.grow w1.heap.size).and (KeepG.grow (w.heap.size + 1))) 14
            · kernel_rfl
            · exact post_steady
            · exact rfl
            · kernel_rfl
            · intro wv
              go_simp
              exact ⟨rfl,sqN _⟩
            try simp only [Act.put,sqA,sqB,sqC]
            refine wpAnyE_fork [8] (by kernel_rfl) (by simp) ?_
            refine sqM ?_
            · refine ⟨_,rfl,?_⟩
              intro wv hv K hK
              replace hS := Now.below hS hv
              rw [if_pos (by kernel_rfl)]
              refine wp_app_now _ _ 51 3 rfl Tryz.underlying51 hi0 hz0 hz1 hz2 rfl (pre:=[_,_,_,_,_,_]) hS (Now.blk (pre:=[_]) hS) rfl rfl rfl n2 m2 ?_
              intro g2 cap2 wc6 hz hS2
              refine hK _ _ (fun _ => ⟨fun _ => ⟨(Now.blk (pre:=[_,_,_,_]) hS2).trans (Now.blk (pre:=[_,_,_,_]) hS).symm,hz⟩,fun _ => ⟨(Now.blk (pre:=[_,_,_,_,_,_,_,_,_,_]) hS2).trans (Now.blk (pre:=[_,_,_,_,_,_,_,_,_,_]) hS).symm,hz⟩⟩) ?_
              replace hS := hS2
              clear hS2 hz hK K hv wv
              try simp only [Act.put,sqA,sqB,sqC]
              refine wpAnyE_fork [13] (by kernel_rfl) (by simp) ?_
              refine sqM ?_
              · refine ⟨_,rfl,?_⟩
                intro wv hv K hK
                replace hS := Now.below hS hv
                rw [if_pos (by kernel_rfl)]
                refine wp_app_now _ _ 62 43 rfl Tryz.underlying62 hj0 hy0 hy1 hy2 rfl (pre:=[_,_,_,_,_,_,_]) hS (Now.blk (pre:=[]) hS) rfl rfl rfl n3 m3 ?_
                intro g3 cap3 wc7 hz hS2
                refine hK _ _ (fun _ => ⟨fun _ => ⟨(Now.blk (pre:=[_,_,_,_]) hS2).trans (Now.blk (pre:=[_,_,_,_]) hS).symm,hz⟩,fun _ => ⟨(Now.blk (pre:=[_,_,_,_,_,_,_,_,_,_]) hS2).trans (Now.blk (pre:=[_,_,_,_,_,_,_,_,_,_]) hS).symm,hz⟩⟩) ?_
                replace hS := hS2
                clear hS2 hz hK K hv wv
                try simp only [Act.put,sqA,sqB,sqC]
                exact HT.out _ _ _ (by kernel_rfl) ⟨_,_,_,_,_,_,_,_,_,_,_,_,_,_,_,_,_,rfl,(Now.drop (pre:=[]) (Now.drop (pre:=[]) (Now.drop (pre:=[]) hS)))⟩
      · refine ⟨_,rfl,?_⟩
        intro wv hv K hK
        replace hS := Now.below hS hv
        replace hS := Now.pushCells hS 43 #[(.int .u64 first)]
        go_simp
        refine hK _ _ (fun _ => ⟨fun hlt => ⟨(Newer.refl wv).alloc _ |>.block _ hlt,((Newer.refl wv).alloc _).size⟩,fun hlt => ⟨(Newer.refl wv).alloc _ |>.block _ hlt,((Newer.refl wv).alloc _).size⟩⟩) ?_
        clear hK K hv
        generalize wv.alloc (.cells #[(.int .u64 first)] 43) = wc3 at hS ⊢
        generalize wv.heap.size = kb3 at hS ⊢
        clear wv
        try simp only [Act.put,sqA,sqB,sqC]
        refine wpAnyE_fork [4,7] (by kernel_rfl) (by simp) ?_
        refine List.forall_mem_cons.2 ⟨?_,List.forall_mem_cons.2 ⟨?_,List.forall_mem_nil _⟩⟩
        · refine ⟨_,rfl,?_⟩
          intro wv hv K hK
          replace hS := Now.below hS hv
          rw [if_pos (by kernel_rfl)]
          refine wp_app_now _ _ 51 3 rfl Tryz.underlying51 hi0 hz0 hz1 hz2 rfl (pre:=[_,_,_,_]) hS (Now.blk (pre:=[_]) hS) rfl rfl rfl n1 m1 ?_
          intro g1 cap1 wc4 hz hS2
          refine hK _ _ (fun _ => ⟨fun _ => ⟨(Now.blk (pre:=[_,_,_]) hS2).trans (Now.blk (pre:=[_,_,_]) hS).symm,hz⟩,fun _ => ⟨(Now.blk (pre:=[_,_,_,_,_,_,_,_,_]) hS2).trans (Now.blk (pre:=[_,_,_,_,_,_,_,_,_]) hS).symm,hz⟩⟩) ?_
          replace hS := hS2
          clear hS2 hz hK K hv wv
          try simp only [Act.put,sqA,sqB,sqC]
          apply wpAnyE_pure ((KeepG.grow w1.heap.size).and (KeepG.grow (w.heap.size + 1))) 14
          · kernel_rfl
          · exact post_steady
          · exact rfl
          · kernel_rfl
          · intro wv
            go_simp
            exact ⟨rfl,sqN _⟩
          try simp only [Act.put,sqA,sqB,sqC]
          refine wpAnyE_fork [7] (by kernel_rfl) (by simp) ?_
          refine sqM ?_
          · refine ⟨_,rfl,?_⟩
            intro wv hv K hK
            replace hS := Now.below hS hv
            replace hS := Now.pushCells hS 3 #[(.int .i64 0)]
            go_simp
            refine hK _ _ (fun _ => ⟨fun hlt => ⟨(Newer.refl wv).alloc _ |>.block _ hlt,((Newer.refl wv).alloc _).size⟩,fun hlt => ⟨(Newer.refl wv).alloc _ |>.block _ hlt,((Newer.refl wv).alloc _).size⟩⟩) ?_
            clear hK K hv
            generalize wv.alloc (.cells #[(.int .i64 0)] 3) = wc5 at hS ⊢
            generalize wv.heap.size = kb2 at hS ⊢
            clear wv
            try simp only [Act.put,sqA,sqB,sqC]
            refine wpAnyE_fork [8] (by kernel_rfl) (by simp) ?_
            refine sqM ?_
            · refine ⟨_,rfl,?_⟩
              intro wv hv K hK
              replace hS := Now.below hS hv
              rw [if_pos (by kernel_rfl)]
              refine wp_app_now _ _ 51 3 rfl Tryz.underlying51 hi0 hz0 hz1 hz2 rfl (pre:=[_,_,_,_,_,_]) hS (Now.blk (pre:=[]) hS) rfl rfl rfl n2 m2 ?_
              intro g2 cap2 wc6 hz hS2
              refine hK _ _ (fun _ => ⟨fun _ => ⟨(Now.blk (pre:=[_,_,_,_]) hS2).trans (Now.blk (pre:=[_,_,_,_]) hS).symm,hz⟩,fun _ => ⟨(Now.blk (pre:=[_,_,_,_,_,_,_,_,_,_]) hS2).trans (Now.blk (pre:=[_,_,_,_,_,_,_,_,_,_]) hS).symm,hz⟩⟩) ?_
              replace hS := hS2
              clear hS2 hz hK K hv wv
              try simp only [Act.put,sqA,sqB,sqC]
              refine wpAnyE_fork [13] (by kernel_rfl) (by simp) ?_
              refine sqM ?_
              · refine ⟨_,rfl,?_⟩
                intro wv hv K hK
                replace hS := Now.below hS hv
                rw [if_pos (by kernel_rfl)]
                refine wp_app_now _ _ 62 43 rfl Tryz.underlying62 hj0 hy0 hy1 hy2 rfl (pre:=[_,_,_,_,_,_,_]) hS (Now.blk (pre:=[_]) hS) rfl rfl rfl n3 m3 ?_
                intro g3 cap3 wc7 hz hS2
                refine hK _ _ (fun _ => ⟨fun _ => ⟨(Now.blk (pre:=[_,_,_,_]) hS2).trans (Now.blk (pre:=[_,_,_,_]) hS).symm,hz⟩,fun _ => ⟨(Now.blk (pre:=[_,_,_,_,_,_,_,_,_,_]) hS2).trans (Now.blk (pre:=[_,_,_,_,_,_,_,_,_,_]) hS).symm,hz⟩⟩) ?_
                replace hS := hS2
                clear hS2 hz hK K hv wv
                try simp only [Act.put,sqA,sqB,sqC]
                exact HT.out _ _ _ (by kernel_rfl) ⟨_,_,_,_,_,_,_,_,_,_,_,_,_,_,_,_,_,rfl,(Now.drop (pre:=[]) (Now.drop (pre:=[]) (Now.drop (pre:=[]) hS)))⟩
        · refine ⟨_,rfl,?_⟩
          intro wv hv K hK
          replace hS := Now.below hS hv
          replace hS := Now.pushCells hS 3 #[(.int .i64 0)]
          go_simp
          refine hK _ _ (fun _ => ⟨fun hlt => ⟨(Newer.refl wv).alloc _ |>.block _ hlt,((Newer.refl wv).alloc _).size⟩,fun hlt => ⟨(Newer.refl wv).alloc _ |>.block _ hlt,((Newer.refl wv).alloc _).size⟩⟩) ?_
          clear hK K hv
          generalize wv.alloc (.cells #[(.int .i64 0)] 3) = wc4 at hS ⊢
          generalize wv.heap.size = kb2 at hS ⊢
          clear wv
          try simp only [Act.put,sqA,sqB,sqC]
          refine wpAnyE_fork [4] (by kernel_rfl) (by simp) ?_
          refine sqM ?_
          · refine ⟨_,rfl,?_⟩
            intro wv hv K hK
            replace hS := Now.below hS hv
            rw [if_pos (by kernel_rfl)]
            refine wp_app_now _ _ 51 3 rfl Tryz.underlying51 hi0 hz0 hz1 hz2 rfl (pre:=[_,_,_,_,_]) hS (Now.blk (pre:=[_,_]) hS) rfl rfl rfl n1 m1 ?_
            intro g1 cap1 wc5 hz hS2
            refine hK _ _ (fun _ => ⟨fun _ => ⟨(Now.blk (pre:=[_,_,_,_]) hS2).trans (Now.blk (pre:=[_,_,_,_]) hS).symm,hz⟩,fun _ => ⟨(Now.blk (pre:=[_,_,_,_,_,_,_,_,_,_]) hS2).trans (Now.blk (pre:=[_,_,_,_,_,_,_,_,_,_]) hS).symm,hz⟩⟩) ?_
            replace hS := hS2
            clear hS2 hz hK K hv wv
            try simp only [Act.put,sqA,sqB,sqC]
            apply wpAnyE_pure ((KeepG.grow w1.heap.size).and (KeepG.grow (w.heap.size + 1))) 14
            · kernel_rfl
            · exact post_steady
            · exact rfl
            · kernel_rfl
            · intro wv
              go_simp
              exact ⟨rfl,sqN _⟩
            try simp only [Act.put,sqA,sqB,sqC]
            refine wpAnyE_fork [8] (by kernel_rfl) (by simp) ?_
            refine sqM ?_
            · refine ⟨_,rfl,?_⟩
              intro wv hv K hK
              replace hS := Now.below hS hv
              rw [if_pos (by kernel_rfl)]
              refine wp_app_now _ _ 51 3 rfl Tryz.underlying51 hi0 hz0 hz1 hz2 rfl (pre:=[_,_,_,_,_,_]) hS (Now.blk (pre:=[]) hS) rfl rfl rfl n2 m2 ?_
              intro g2 cap2 wc6 hz hS2
              refine hK _ _ (fun _ => ⟨fun _ => ⟨(Now.blk (pre:=[_,_,_,_]) hS2).trans (Now.blk (pre:=[_,_,_,_]) hS).symm,hz⟩,fun _ => ⟨(Now.blk (pre:=[_,_,_,_,_,_,_,_,_,_]) hS2).trans (Now.blk (pre:=[_,_,_,_,_,_,_,_,_,_]) hS).symm,hz⟩⟩) ?_
              replace hS := hS2
              clear hS2 hz hK K hv wv
              try simp only [Act.put,sqA,sqB,sqC]
              refine wpAnyE_fork [13] (by kernel_rfl) (by simp) ?_
              refine sqM ?_
              · refine ⟨_,rfl,?_⟩
                intro wv hv K hK
                replace hS := Now.below hS hv
                rw [if_pos (by kernel_rfl)]
                refine wp_app_now _ _ 62 43 rfl Tryz.underlying62 hj0 hy0 hy1 hy2 rfl (pre:=[_,_,_,_,_,_,_]) hS (Now.blk (pre:=[_]) hS) rfl rfl rfl n3 m3 ?_
                intro g3 cap3 wc7 hz hS2
                refine hK _ _ (fun _ => ⟨fun _ => ⟨(Now.blk (pre:=[_,_,_,_]) hS2).trans (Now.blk (pre:=[_,_,_,_]) hS).symm,hz⟩,fun _ => ⟨(Now.blk (pre:=[_,_,_,_,_,_,_,_,_,_]) hS2).trans (Now.blk (pre:=[_,_,_,_,_,_,_,_,_,_]) hS).symm,hz⟩⟩) ?_
                replace hS := hS2
                clear hS2 hz hK K hv wv
                try simp only [Act.put,sqA,sqB,sqC]
                exact HT.out _ _ _ (by kernel_rfl) ⟨_,_,_,_,_,_,_,_,_,_,_,_,_,_,_,_,_,rfl,(Now.drop (pre:=[]) (Now.drop (pre:=[]) (Now.drop (pre:=[]) hS)))⟩
    · refine ⟨_,rfl,?_⟩
      intro wv hv K hK
      replace hS := Now.below hS hv
      replace hS := Now.pushCells hS 3 #[(.int .i64 0)]
      go_simp
      refine hK _ _ (fun _ => ⟨fun hlt => ⟨(Newer.refl wv).alloc _ |>.block _ hlt,((Newer.refl wv).alloc _).size⟩,fun hlt => ⟨(Newer.refl wv).alloc _ |>.block _ hlt,((Newer.refl wv).alloc _).size⟩⟩) ?_
      clear hK K hv
      generalize wv.alloc (.cells #[(.int .i64 0)] 3) = wc2 at hS ⊢
      generalize wv.heap.size = kb2 at hS ⊢
      clear wv
      try simp only [Act.put,sqA,sqB,sqC]
      refine wpAnyE_fork [3,12] (by kernel_rfl) (by simp) ?_
      refine List.forall_mem_cons.2 ⟨?_,List.forall_mem_cons.2 ⟨?_,List.forall_mem_nil _⟩⟩
      · refine ⟨_,rfl,?_⟩
        intro wv hv K hK
        replace hS := Now.below hS hv
        replace hS := Now.pushCells hS 3 #[(.int .i64 f)]
        go_simp
        refine hK _ _ (fun _ => ⟨fun hlt => ⟨(Newer.refl wv).alloc _ |>.block _ hlt,((Newer.refl wv).alloc _).size⟩,fun hlt => ⟨(Newer.refl wv).alloc _ |>.block _ hlt,((Newer.refl wv).alloc _).size⟩⟩) ?_
        clear hK K hv
        generalize wv.alloc (.cells #[(.int .i64 f)] 3) = wc3 at hS ⊢
        generalize wv.heap.size = kb1 at hS ⊢
        clear wv
        try simp only [Act.put,sqA,sqB,sqC]
        refine wpAnyE_fork [4,12] (by kernel_rfl) (by simp) ?_
        refine List.forall_mem_cons.2 ⟨?_,List.forall_mem_cons.2 ⟨?_,List.forall_mem_nil _⟩⟩
        · refine ⟨_,rfl,?_⟩
          intro wv hv K hK
          replace hS := Now.below hS hv
          rw [if_pos (by kernel_rfl)]
          refine wp_app_now _ _ 51 3 rfl Tryz.underlying51 hi0 hz0 hz1 hz2 rfl (pre:=[_,_,_,_]) hS (Now.blk (pre:=[]) hS) rfl rfl rfl n1 m1 ?_
          intro g1 cap1 wc4 hz hS2
          refine hK _ _ (fun _ => ⟨fun _ => ⟨(Now.blk (pre:=[_,_,_]) hS2).trans (Now.blk (pre:=[_,_,_]) hS).symm,hz⟩,fun _ => ⟨(Now.blk (pre:=[_,_,_,_,_,_,_,_,_]) hS2).trans (Now.blk (pre:=[_,_,_,_,_,_,_,_,_]) hS).symm,hz⟩⟩) ?_
          replace hS := hS2
          clear hS2 hz hK K hv wv
          try simp only [Act.put,sqA,sqB,sqC]
          apply wpAnyE_pure ((KeepG.grow w1.heap.size).and (KeepG.grow (w.heap.size + 1))) 14
          · kernel_rfl
          · exact post_steady
          · exact rfl
          · kernel_rfl
          · intro wv
            go_simp
            exact ⟨rfl,sqN _⟩
          try simp only [Act.put,sqA,sqB,sqC]
          refine wpAnyE_fork [8,12] (by kernel_rfl) (by simp) ?_
          refine List.forall_mem_cons.2 ⟨?_,List.forall_mem_cons.2 ⟨?_,List.forall_mem_nil _⟩⟩
          · refine ⟨_,rfl,?_⟩
            intro wv hv K hK
            replace hS := Now.below hS hv
            rw [if_pos (by kernel_rfl)]
            refine wp_app_now _ _ 51 3 rfl Tryz.underlying51 hi0 hz0 hz1 hz2 rfl (pre:=[_,_,_,_,_]) hS (Now.blk (pre:=[_]) hS) rfl rfl rfl n2 m2 ?_
            intro g2 cap2 wc5 hz hS2
            refine hK _ _ (fun _ => ⟨fun _ => ⟨(Now.blk (pre:=[_,_,_]) hS2).trans (Now.blk (pre:=[_,_,_]) hS).symm,hz⟩,fun _ => ⟨(Now.blk (pre:=[_,_,_,_,_,_,_,_,_]) hS2).trans (Now.blk (pre:=[_,_,_,_,_,_,_,_,_]) hS).symm,hz⟩⟩) ?_
            replace hS := hS2
            clear hS2 hz hK K hv wv
            try simp only [Act.put,sqA,sqB,sqC]
            refine wpAnyE_fork [12] (by kernel_rfl) (by simp) ?_
            refine sqM ?_
            · refine ⟨_,rfl,?_⟩
              intro wv hv K hK
              replace hS := Now.below hS hv
              replace hS := Now.pushCells hS 43 #[(.int .u64 first)]
              go_simp
              refine hK _ _ (fun _ => ⟨fun hlt => ⟨(Newer.refl wv).alloc _ |>.block _ hlt,((Newer.refl wv).alloc _).size⟩,fun hlt => ⟨(Newer.refl wv).alloc _ |>.block _ hlt,((Newer.refl wv).alloc _).size⟩⟩) ?_
              clear hK K hv
              generalize wv.alloc (.cells #[(.int .u64 first)] 43) = wc6 at hS ⊢
              generalize wv.heap.size = kb3 at hS ⊢
              clear wv
              try simp only [Act.put,sqA,sqB,sqC]
              refine wpAnyE_fork [13] (by kernel_rfl) (by simp) ?_
              refine sqM ?_
              · refine ⟨_,rfl,?_⟩
                intro wv hv K hK
                replace hS := Now.below hS hv
                rw [if_pos (by kernel_rfl)]
                refine wp_app_now _ _ 62 43 rfl Tryz.underlying62 hj0 hy0 hy1 hy2 rfl (pre:=[_,_,_,_,_,_,_]) hS (Now.blk (pre:=[]) hS) rfl rfl rfl n3 m3 ?_
                intro g3 cap3 wc7 hz hS2
                refine hK _ _ (fun _ => ⟨fun _ => ⟨(Now.blk (pre:=[_,_,_,_]) hS2).trans (Now.blk (pre:=[_,_,_,_]) hS).symm,hz⟩,fun _ => ⟨(Now.blk (pre:=[_,_,_,_,_,_,_,_,_,_]) hS2).trans (Now.blk (pre:=[_,_,_,_,_,_,_,_,_,_]) hS).symm,hz⟩⟩) ?_
                replace hS := hS2
                clear hS2 hz hK K hv wv
                try simp only [Act.put,sqA,sqB,sqC]
                exact HT.out _ _ _ (by kernel_rfl) ⟨_,_,_,_,_,_,_,_,_,_,_,_,_,_,_,_,_,rfl,(Now.drop (pre:=[]) (Now.drop (pre:=[]) (Now.drop (pre:=[]) hS)))⟩
          · refine ⟨_,rfl,?_⟩
            intro wv hv K hK
            replace hS := Now.below hS hv
            replace hS := Now.pushCells hS 43 #[(.int .u64 first)]
            go_simp
            refine hK _ _ (fun _ => ⟨fun hlt => ⟨(Newer.refl wv).alloc _ |>.block _ hlt,((Newer.refl wv).alloc _).size⟩,fun hlt => ⟨(Newer.refl wv).alloc _ |>.block _ hlt,((Newer.refl wv).alloc _).size⟩⟩) ?_
            clear hK K hv
            generalize wv.alloc (.cells #[(.int .u64 first)] 43) = wc5 at hS ⊢
            generalize wv.heap.size = kb3 at hS ⊢
            clear wv
            try simp only [Act.put,sqA,sqB,sqC]
            refine wpAnyE_fork [8] (by kernel_rfl) (by simp) ?_
            refine sqM ?_
            · refine ⟨_,rfl,?_⟩
              intro wv hv K hK
              replace hS := Now.below hS hv
              rw [if_pos (by kernel_rfl)]
              refine wp_app_now _ _ 51 3 rfl Tryz.underlying51 hi0 hz0 hz1 hz2 rfl (pre:=[_,_,_,_,_,_]) hS (Now.blk (pre:=[_,_]) hS) rfl rfl rfl n2 m2 ?_
              intro g2 cap2 wc6 hz hS2
              refine hK _ _ (fun _ => ⟨fun _ => ⟨(Now.blk (pre:=[_,_,_,_]) hS2).trans (Now.blk (pre:=[_,_,_,_]) hS).symm,hz⟩,fun _ => ⟨(Now.blk (pre:=[_,_,_,_,_,_,_,_,_,_]) hS2).trans (Now.blk (pre:=[_,_,_,_,_,_,_,_,_,_]) hS).symm,hz⟩⟩) ?_
              replace hS := hS2
              clear hS2 hz hK K hv wv
              try simp only [Act.put,sqA,sqB,sqC]
              refine wpAnyE_fork [13] (by kernel_rfl) (by simp) ?_
              refine sqM ?_
              · refine ⟨_,rfl,?_⟩
                intro wv hv K hK
                replace hS := Now.below hS hv
                rw [if_pos (by kernel_rfl)]
                refine wp_app_now _ _ 62 43 rfl Tryz.underlying62 hj0 hy0 hy1 hy2 rfl (pre:=[_,_,_,_,_,_,_]) hS (Now.blk (pre:=[]) hS) rfl rfl rfl n3 m3 ?_
                intro g3 cap3 wc7 hz hS2
                refine hK _ _ (fun _ => ⟨fun _ => ⟨(Now.blk (pre:=[_,_,_,_]) hS2).trans (Now.blk (pre:=[_,_,_,_]) hS).symm,hz⟩,fun _ => ⟨(Now.blk (pre:=[_,_,_,_,_,_,_,_,_,_]) hS2).trans (Now.blk (pre:=[_,_,_,_,_,_,_,_,_,_]) hS).symm,hz⟩⟩) ?_
                replace hS := hS2
                clear hS2 hz hK K hv wv
                try simp only [Act.put,sqA,sqB,sqC]
                exact HT.out _ _ _ (by kernel_rfl) ⟨_,_,_,_,_,_,_,_,_,_,_,_,_,_,_,_,_,rfl,(Now.drop (pre:=[]) (Now.drop (pre:=[]) (Now.drop (pre:=[]) hS)))⟩
        · refine ⟨_,rfl,?_⟩
          intro wv hv K hK
          replace hS := Now.below hS hv
          replace hS := Now.pushCells hS 43 #[(.int .u64 first)]
          go_simp
          refine hK _ _ (fun _ => ⟨fun hlt => ⟨(Newer.refl wv).alloc _ |>.block _ hlt,((Newer.refl wv).alloc _).size⟩,fun hlt => ⟨(Newer.refl wv).alloc _ |>.block _ hlt,((Newer.refl wv).alloc _).size⟩⟩) ?_
          clear hK K hv
          generalize wv.alloc (.cells #[(.int .u64 first)] 43) = wc4 at hS ⊢
          generalize wv.heap.size = kb3 at hS ⊢
          clear wv
          try simp only [Act.put,sqA,sqB,sqC]
          refine wpAnyE_fork [4] (by kernel_rfl) (by simp) ?_
          refine sqM ?_
          · refine ⟨_,rfl,?_⟩
            intro wv hv K hK
            replace hS := Now.below hS hv
            rw [if_pos (by kernel_rfl)]
            refine wp_app_now _ _ 51 3 rfl Tryz.underlying51 hi0 hz0 hz1 hz2 rfl (pre:=[_,_,_,_,_]) hS (Now.blk (pre:=[_]) hS) rfl rfl rfl n1 m1 ?_
            intro g1 cap1 wc5 hz hS2
            refine hK _ _ (fun _ => ⟨fun _ => ⟨(Now.blk (pre:=[_,_,_,_]) hS2).trans (Now.blk (pre:=[_,_,_,_]) hS).symm,hz⟩,fun _ => ⟨(Now.blk (pre:=[_,_,_,_,_,_,_,_,_,_]) hS2).trans (Now.blk (pre:=[_,_,_,_,_,_,_,_,_,_]) hS).symm,hz⟩⟩) ?_
            replace hS := hS2
            clear hS2 hz hK K hv wv
            try simp only [Act.put,sqA,sqB,sqC]
            apply wpAnyE_pure ((KeepG.grow w1.heap.size).and (KeepG.grow (w.heap.size + 1))) 14
            · kernel_rfl
            · exact post_steady
            · exact rfl
            · kernel_rfl
            · intro wv
              go_simp
              exact ⟨rfl,sqN _⟩
            try simp only [Act.put,sqA,sqB,sqC]
            refine wpAnyE_fork [8] (by kernel_rfl) (by simp) ?_
            refine sqM ?_
            · refine ⟨_,rfl,?_⟩
              intro wv hv K hK
              replace hS := Now.below hS hv
              rw [if_pos (by kernel_rfl)]
              refine wp_app_now _ _ 51 3 rfl Tryz.underlying51 hi0 hz0 hz1 hz2 rfl (pre:=[_,_,_,_,_,_]) hS (Now.blk (pre:=[_,_]) hS) rfl rfl rfl n2 m2 ?_
              intro g2 cap2 wc6 hz hS2
              refine hK _ _ (fun _ => ⟨fun _ => ⟨(Now.blk (pre:=[_,_,_,_]) hS2).trans (Now.blk (pre:=[_,_,_,_]) hS).symm,hz⟩,fun _ => ⟨(Now.blk (pre:=[_,_,_,_,_,_,_,_,_,_]) hS2).trans (Now.blk (pre:=[_,_,_,_,_,_,_,_,_,_]) hS).symm,hz⟩⟩) ?_
              replace hS := hS2
              clear hS2 hz hK K hv wv
              try simp only [Act.put,sqA,sqB,sqC]
              refine wpAnyE_fork [13] (by kernel_rfl) (by simp) ?_
              refine sqM ?_
              · refine ⟨_,rfl,?_⟩
                intro wv hv K hK
                replace hS := Now.below hS hv
                rw [if_pos (by kernel_rfl)]
                refine wp_app_now _ _ 62 43 rfl Tryz.underlying62 hj0 hy0 hy1 hy2 rfl (pre:=[_,_,_,_,_,_,_]) hS (Now.blk (pre:=[]) hS) rfl rfl rfl n3 m3 ?_
                intro g3 cap3 wc7 hz hS2
                refine hK _ _ (fun _ => ⟨fun _ => ⟨(Now.blk (pre:=[_,_,_,_]) hS2).trans (Now.blk (pre:=[_,_,_,_]) hS).symm,hz⟩,fun _ => ⟨(Now.blk (pre:=[_,_,_,_,_,_,_,_,_,_]) hS2).trans (Now.blk (pre:=[_,_,_,_,_,_,_,_,_,_]) hS).symm,hz⟩⟩) ?_
                replace hS := hS2
                clear hS2 hz hK K hv wv
                try simp only [Act.put,sqA,sqB,sqC]
                exact HT.out _ _ _ (by kernel_rfl) ⟨_,_,_,_,_,_,_,_,_,_,_,_,_,_,_,_,_,rfl,(Now.drop (pre:=[]) (Now.drop (pre:=[]) (Now.drop (pre:=[]) hS)))⟩
      · refine ⟨_,rfl,?_⟩
        intro wv hv K hK
        replace hS := Now.below hS hv
        replace hS := Now.pushCells hS 43 #[(.int .u64 first)]
        go_simp
        refine hK _ _ (fun _ => ⟨fun hlt => ⟨(Newer.refl wv).alloc _ |>.block _ hlt,((Newer.refl wv).alloc _).size⟩,fun hlt => ⟨(Newer.refl wv).alloc _ |>.block _ hlt,((Newer.refl wv).alloc _).size⟩⟩) ?_
        clear hK K hv
        generalize wv.alloc (.cells #[(.int .u64 first)] 43) = wc3 at hS ⊢
        generalize wv.heap.size = kb3 at hS ⊢
        clear wv
        try simp only [Act.put,sqA,sqB,sqC]
        refine wpAnyE_fork [3] (by kernel_rfl) (by simp) ?_
        refine sqM ?_
        · refine ⟨_,rfl,?_⟩
          intro wv hv K hK
          replace hS := Now.below hS hv
          replace hS := Now.pushCells hS 3 #[(.int .i64 f)]
          go_simp
          refine hK _ _ (fun _ => ⟨fun hlt => ⟨(Newer.refl wv).alloc _ |>.block _ hlt,((Newer.refl wv).alloc _).size⟩,fun hlt => ⟨(Newer.refl wv).alloc _ |>.block _ hlt,((Newer.refl wv).alloc _).size⟩⟩) ?_
          clear hK K hv
          generalize wv.alloc (.cells #[(.int .i64 f)] 3) = wc4 at hS ⊢
          generalize wv.heap.size = kb1 at hS ⊢
          clear wv
          try simp only [Act.put,sqA,sqB,sqC]
          refine wpAnyE_fork [4] (by kernel_rfl) (by simp) ?_
          refine sqM ?_
          · refine ⟨_,rfl,?_⟩
            intro wv hv K hK
            replace hS := Now.below hS hv
            rw [if_pos (by kernel_rfl)]
            refine wp_app_now _ _ 51 3 rfl Tryz.underlying51 hi0 hz0 hz1 hz2 rfl (pre:=[_,_,_,_,_]) hS (Now.blk (pre:=[]) hS) rfl rfl rfl n1 m1 ?_
            intro g1 cap1 wc5 hz hS2
            refine hK _ _ (fun _ => ⟨fun _ => ⟨(Now.blk (pre:=[_,_,_,_]) hS2).trans (Now.blk (pre:=[_,_,_,_]) hS).symm,hz⟩,fun _ => ⟨(Now.blk (pre:=[_,_,_,_,_,_,_,_,_,_]) hS2).trans (Now.blk (pre:=[_,_,_,_,_,_,_,_,_,_]) hS).symm,hz⟩⟩) ?_
            replace hS := hS2
            clear hS2 hz hK K hv wv
            try simp only [Act.put,sqA,sqB,sqC]
            apply wpAnyE_pure ((KeepG.grow w1.heap.size).and (KeepG.grow (w.heap.size + 1))) 14
            · kernel_rfl
            · exact post_steady
            · exact rfl
            · kernel_rfl
            · intro wv
              go_simp
              exact ⟨rfl,sqN _⟩
            try simp only [Act.put,sqA,sqB,sqC]
            refine wpAnyE_fork [8] (by kernel_rfl) (by simp) ?_
            refine sqM ?_
            · refine ⟨_,rfl,?_⟩
              intro wv hv K hK
              replace hS := Now.below hS hv
              rw [if_pos (by kernel_rfl)]
              refine wp_app_now _ _ 51 3 rfl Tryz.underlying51 hi0 hz0 hz1 hz2 rfl (pre:=[_,_,_,_,_,_]) hS (Now.blk (pre:=[_,_]) hS) rfl rfl rfl n2 m2 ?_
              intro g2 cap2 wc6 hz hS2
              refine hK _ _ (fun _ => ⟨fun _ => ⟨(Now.blk (pre:=[_,_,_,_]) hS2).trans (Now.blk (pre:=[_,_,_,_]) hS).symm,hz⟩,fun _ => ⟨(Now.blk (pre:=[_,_,_,_,_,_,_,_,_,_]) hS2).trans (Now.blk (pre:=[_,_,_,_,_,_,_,_,_,_]) hS).symm,hz⟩⟩) ?_
              replace hS := hS2
              clear hS2 hz hK K hv wv
              try simp only [Act.put,sqA,sqB,sqC]
              refine wpAnyE_fork [13] (by kernel_rfl) (by simp) ?_
              refine sqM ?_
              · refine ⟨_,rfl,?_⟩
                intro wv hv K hK
                replace hS := Now.below hS hv
                rw [if_pos (by kernel_rfl)]
                refine wp_app_now _ _ 62 43 rfl Tryz.underlying62 hj0 hy0 hy1 hy2 rfl (pre:=[_,_,_,_,_,_,_]) hS (Now.blk (pre:=[_]) hS) rfl rfl rfl n3 m3 ?_
                intro g3 cap3 wc7 hz hS2
                refine hK _ _ (fun _ => ⟨fun _ => ⟨(Now.blk (pre:=[_,_,_,_]) hS2).trans (Now.blk (pre:=[_,_,_,_]) hS).symm,hz⟩,fun _ => ⟨(Now.blk (pre:=[_,_,_,_,_,_,_,_,_,_]) hS2).trans (Now.blk (pre:=[_,_,_,_,_,_,_,_,_,_]) hS).symm,hz⟩⟩) ?_
                replace hS := hS2
                clear hS2 hz hK K hv wv
                try simp only [Act.put,sqA,sqB,sqC]
                exact HT.out _ _ _ (by kernel_rfl) ⟨_,_,_,_,_,_,_,_,_,_,_,_,_,_,_,_,_,rfl,(Now.drop (pre:=[]) (Now.drop (pre:=[]) (Now.drop (pre:=[]) hS)))⟩
    · refine ⟨_,rfl,?_⟩
      intro wv hv K hK
      replace hS := Now.below hS hv
      replace hS := Now.pushCells hS 43 #[(.int .u64 first)]
      go_simp
      refine hK _ _ (fun _ => ⟨fun hlt => ⟨(Newer.refl wv).alloc _ |>.block _ hlt,((Newer.refl wv).alloc _).size⟩,fun hlt => ⟨(Newer.refl wv).alloc _ |>.block _ hlt,((Newer.refl wv).alloc _).size⟩⟩) ?_
      clear hK K hv
      generalize wv.alloc (.cells #[(.int .u64 first)] 43) = wc2 at hS ⊢
      generalize wv.heap.size = kb3 at hS ⊢
      clear wv
      try simp only [Act.put,sqA,sqB,sqC]
      refine wpAnyE_fork [3,7] (by kernel_rfl) (by simp) ?_
      refine List.forall_mem_cons.2 ⟨?_,List.forall_mem_cons.2 ⟨?_,List.forall_mem_nil _⟩⟩
      · refine ⟨_,rfl,?_⟩
        intro wv hv K hK
        replace hS := Now.below hS hv
        replace hS := Now.pushCells hS 3 #[(.int .i64 f)]
        go_simp
        refine hK _ _ (fun _ => ⟨fun hlt => ⟨(Newer.refl wv).alloc _ |>.block _ hlt,((Newer.refl wv).alloc _).size⟩,fun hlt => ⟨(Newer.refl wv).alloc _ |>.block _ hlt,((Newer.refl wv).alloc _).size⟩⟩) ?_
        clear hK K hv
        generalize wv.alloc (.cells #[(.int .i64 f)] 3) = wc3 at hS ⊢
        generalize wv.heap.size = kb1 at hS ⊢
        clear wv
        try simp only [Act.put,sqA,sqB,sqC]
        refine wpAnyE_fork [4,7] (by kernel_rfl) (by simp) ?_
        refine List.forall_mem_cons.2 ⟨?_,List.forall_mem_cons.2 ⟨?_,List.forall_mem_nil _⟩⟩
        · refine ⟨_,rfl,?_⟩
          intro wv hv K hK
          replace hS := Now.below hS hv
          rw [if_pos (by kernel_rfl)]
          refine wp_app_now _ _ 51 3 rfl Tryz.underlying51 hi0 hz0 hz1 hz2 rfl (pre:=[_,_,_,_]) hS (Now.blk (pre:=[]) hS) rfl rfl rfl n1 m1 ?_
          intro g1 cap1 wc4 hz hS2
          refine hK _ _ (fun _ => ⟨fun _ => ⟨(Now.blk (pre:=[_,_,_]) hS2).trans (Now.blk (pre:=[_,_,_]) hS).symm,hz⟩,fun _ => ⟨(Now.blk (pre:=[_,_,_,_,_,_,_,_,_]) hS2).trans (Now.blk (pre:=[_,_,_,_,_,_,_,_,_]) hS).symm,hz⟩⟩) ?_
          replace hS := hS2
          clear hS2 hz hK K hv wv
          try simp only [Act.put,sqA,sqB,sqC]
          apply wpAnyE_pure ((KeepG.grow w1.heap.size).and (KeepG.grow (w.heap.size + 1))) 14
          · kernel_rfl
          · exact post_steady
          · exact rfl
          · kernel_rfl
          · intro wv
            go_simp
            exact ⟨rfl,sqN _⟩
          try simp only [Act.put,sqA,sqB,sqC]
          refine wpAnyE_fork [7] (by kernel_rfl) (by simp) ?_
          refine sqM ?_
          · refine ⟨_,rfl,?_⟩
            intro wv hv K hK
            replace hS := Now.below hS hv
            replace hS := Now.pushCells hS 3 #[(.int .i64 0)]
            go_simp
            refine hK _ _ (fun _ => ⟨fun hlt => ⟨(Newer.refl wv).alloc _ |>.block _ hlt,((Newer.refl wv).alloc _).size⟩,fun hlt => ⟨(Newer.refl wv).alloc _ |>.block _ hlt,((Newer.refl wv).alloc _).size⟩⟩) ?_
            clear hK K hv
            generalize wv.alloc (.cells #[(.int .i64 0)] 3) = wc5 at hS ⊢
            generalize wv.heap.size = kb2 at hS ⊢
            clear wv
            try simp only [Act.put,sqA,sqB,sqC]
            refine wpAnyE_fork [8] (by kernel_rfl) (by simp) ?_
            refine sqM ?_
            · refine ⟨_,rfl,?_⟩
              intro wv hv K hK
              replace hS := Now.below hS hv
              rw [if_pos (by kernel_rfl)]
              refine wp_app_now _ _ 51 3 rfl Tryz.underlying51 hi0 hz0 hz1 hz2 rfl (pre:=[_,_,_,_,_,_]) hS (Now.blk (pre:=[]) hS) rfl rfl rfl n2 m2 ?_
              intro g2 cap2 wc6 hz hS2
              refine hK _ _ (fun _ => ⟨fun _ => ⟨(Now.blk (pre:=[_,_,_,_]) hS2).trans (Now.blk (pre:=[_,_,_,_]) hS).symm,hz⟩,fun _ => ⟨(Now.blk (pre:=[_,_,_,_,_,_,_,_,_,_]) hS2).trans (Now.blk (pre:=[_,_,_,_,_,_,_,_,_,_]) hS).symm,hz⟩⟩) ?_
              replace hS := hS2
              clear hS2 hz hK K hv wv
              try simp only [Act.put,sqA,sqB,sqC]
              refine wpAnyE_fork [13] (by kernel_rfl) (by simp) ?_
              refine sqM ?_
              · refine ⟨_,rfl,?_⟩
                intro wv hv K hK
                replace hS := Now.below hS hv
                rw [if_pos (by kernel_rfl)]
                refine wp_app_now _ _ 62 43 rfl Tryz.underlying62 hj0 hy0 hy1 hy2 rfl (pre:=[_,_,_,_,_,_,_]) hS (Now.blk (pre:=[_,_]) hS) rfl rfl rfl n3 m3 ?_
                intro g3 cap3 wc7 hz hS2
                refine hK _ _ (fun _ => ⟨fun _ => ⟨(Now.blk (pre:=[_,_,_,_]) hS2).trans (Now.blk (pre:=[_,_,_,_]) hS).symm,hz⟩,fun _ => ⟨(Now.blk (pre:=[_,_,_,_,_,_,_,_,_,_]) hS2).trans (Now.blk (pre:=[_,_,_,_,_,_,_,_,_,_]) hS).symm,hz⟩⟩) ?_
                replace hS := hS2
                clear hS2 hz hK K hv wv
                try simp only [Act.put,sqA,sqB,sqC]
                exact HT.out _ _ _ (by kernel_rfl) ⟨_,_,_,_,_,_,_,_,_,_,_,_,_,_,_,_,_,rfl,(Now.drop (pre:=[]) (Now.drop (pre:=[]) (Now.drop (pre:=[]) hS)))⟩
        · refine ⟨_,rfl,?_⟩
          intro wv hv K hK
          replace hS := Now.below hS hv
          replace hS := Now.pushCells hS 3 #[(.int .i64 0)]
          go_simp
          refine hK _ _ (fun _ => ⟨fun hlt => ⟨(Newer.refl wv).alloc _ |>.block _ hlt,((Newer.refl wv).alloc _).size⟩,fun hlt => ⟨(Newer.refl wv).alloc _ |>.block _ hlt,((Newer.refl wv).alloc _).size⟩⟩) ?_
          clear hK K hv
          generalize wv.alloc (.cells #[(.int .i64 0)] 3) = wc4 at hS ⊢
          generalize wv.heap.size = kb2 at hS ⊢
          clear wv
          try simp only [Act.put,sqA,sqB,sqC]
          refine wpAnyE_fork [4] (by kernel_rfl) (by simp) ?_
          refine sqM ?_
          · refine ⟨_,rfl,?_⟩
            intro wv hv K hK
            replace hS := Now.below hS hv
            rw [if_pos (by kernel_rfl)]
            refine wp_app_now _ _ 51 3 rfl Tryz.underlying51 hi0 hz0 hz1 hz2 rfl (pre:=[_,_,_,_,_]) hS (Now.blk (pre:=[_]) hS) rfl rfl rfl n1 m1 ?_
            intro g1 cap1 wc5 hz hS2
            refine hK _ _ (fun _ => ⟨fun _ => ⟨(Now.blk (pre:=[_,_,_,_]) hS2).trans (Now.blk (pre:=[_,_,_,_]) hS).symm,hz⟩,fun _ => ⟨(Now.blk (pre:=[_,_,_,_,_,_,_,_,_,_]) hS2).trans (Now.blk (pre:=[_,_,_,_,_,_,_,_,_,_]) hS).symm,hz⟩⟩) ?_
            replace hS := hS2
            clear hS2 hz hK K hv wv
            try simp only [Act.put,sqA,sqB,sqC]
            apply wpAnyE_pure ((KeepG.grow w1.heap.size).and (KeepG.grow (w.heap.size + 1))) 14
            · kernel_rfl
            · exact post_steady
            · exact rfl
            · kernel_rfl
            · intro wv
              go_simp
              exact ⟨rfl,sqN _⟩
            try simp only [Act.put,sqA,sqB,sqC]
            refine wpAnyE_fork [8] (by kernel_rfl) (by simp) ?_
            refine sqM ?_
            · refine ⟨_,rfl,?_⟩
              intro wv hv K hK
              replace hS := Now.below hS hv
              rw [if_pos (by kernel_rfl)]
              refine wp_app_now _ _ 51 3 rfl Tryz.underlying51 hi0 hz0 hz1 hz2 rfl (pre:=[_,_,_,_,_,_]) hS (Now.blk (pre:=[]) hS) rfl rfl rfl n2 m2 ?_
              intro g2 cap2 wc6 hz hS2
              refine hK _ _ (fun _ => ⟨fun _ => ⟨(Now.blk (pre:=[_,_,_,_]) hS2).trans (Now.blk (pre:=[_,_,_,_]) hS).symm,hz⟩,fun _ => ⟨(Now.blk (pre:=[_,_,_,_,_,_,_,_,_,_]) hS2).trans (Now.blk (pre:=[_,_,_,_,_,_,_,_,_,_]) hS).symm,hz⟩⟩) ?_
              replace hS := hS2
              clear hS2 hz hK K hv wv
              try simp only [Act.put,sqA,sqB,sqC]
              refine wpAnyE_fork [13] (by kernel_rfl) (by simp) ?_
              refine sqM ?_
              · refine ⟨_,rfl,?_⟩
                intro wv hv K hK
                replace hS := Now.below hS hv
                rw [if_pos (by kernel_rfl)]
                refine wp_app_now _ _ 62 43 rfl Tryz.underlying62 hj0 hy0 hy1 hy2 rfl (pre:=[_,_,_,_,_,_,_]) hS (Now.blk (pre:=[_,_]) hS) rfl rfl rfl n3 m3 ?_
                intro g3 cap3 wc7 hz hS2
                refine hK _ _ (fun _ => ⟨fun _ => ⟨(Now.blk (pre:=[_,_,_,_]) hS2).trans (Now.blk (pre:=[_,_,_,_]) hS).symm,hz⟩,fun _ => ⟨(Now.blk (pre:=[_,_,_,_,_,_,_,_,_,_]) hS2).trans (Now.blk (pre:=[_,_,_,_,_,_,_,_,_,_]) hS).symm,hz⟩⟩) ?_
                replace hS := hS2
                clear hS2 hz hK K hv wv
                try simp only [Act.put,sqA,sqB,sqC]
                exact HT.out _ _ _ (by kernel_rfl) ⟨_,_,_,_,_,_,_,_,_,_,_,_,_,_,_,_,_,rfl,(Now.drop (pre:=[]) (Now.drop (pre:=[]) (Now.drop (pre:=[]) hS)))⟩
      · refine ⟨_,rfl,?_⟩
        intro wv hv K hK
        replace hS := Now.below hS hv
        replace hS := Now.pushCells hS 3 #[(.int .i64 0)]
        go_simp
        refine hK _ _ (fun _ => ⟨fun hlt => ⟨(Newer.refl wv).alloc _ |>.block _ hlt,((Newer.refl wv).alloc _).size⟩,fun hlt => ⟨(Newer.refl wv).alloc _ |>.block _ hlt,((Newer.refl wv).alloc _).size⟩⟩) ?_
        clear hK K hv
        generalize wv.alloc (.cells #[(.int .i64 0)] 3) = wc3 at hS ⊢
        generalize wv.heap.size = kb2 at hS ⊢
        clear wv
        try simp only [Act.put,sqA,sqB,sqC]
        refine wpAnyE_fork [3] (by kernel_rfl) (by simp) ?_
        refine sqM ?_
        · refine ⟨_,rfl,?_⟩
          intro wv hv K hK
          replace hS := Now.below hS hv
          replace hS := Now.pushCells hS 3 #[(.int .i64 f)]
          go_simp
          refine hK _ _ (fun _ => ⟨fun hlt => ⟨(Newer.refl wv).alloc _ |>.block _ hlt,((Newer.refl wv).alloc _).size⟩,fun hlt => ⟨(Newer.refl wv).alloc _ |>.block _ hlt,((Newer.refl wv).alloc _).size⟩⟩) ?_
          clear hK K hv
          generalize wv.alloc (.cells #[(.int .i64 f)] 3) = wc4 at hS ⊢
          generalize wv.heap.size = kb1 at hS ⊢
          clear wv
          try simp only [Act.put,sqA,sqB,sqC]
          refine wpAnyE_fork [4] (by kernel_rfl) (by simp) ?_
          refine sqM ?_
          · refine ⟨_,rfl,?_⟩
            intro wv hv K hK
            replace hS := Now.below hS hv
            rw [if_pos (by kernel_rfl)]
            refine wp_app_now _ _ 51 3 rfl Tryz.underlying51 hi0 hz0 hz1 hz2 rfl (pre:=[_,_,_,_,_]) hS (Now.blk (pre:=[]) hS) rfl rfl rfl n1 m1 ?_
            intro g1 cap1 wc5 hz hS2
            refine hK _ _ (fun _ => ⟨fun _ => ⟨(Now.blk (pre:=[_,_,_,_]) hS2).trans (Now.blk (pre:=[_,_,_,_]) hS).symm,hz⟩,fun _ => ⟨(Now.blk (pre:=[_,_,_,_,_,_,_,_,_,_]) hS2).trans (Now.blk (pre:=[_,_,_,_,_,_,_,_,_,_]) hS).symm,hz⟩⟩) ?_
            replace hS := hS2
            clear hS2 hz hK K hv wv
            try simp only [Act.put,sqA,sqB,sqC]
            apply wpAnyE_pure ((KeepG.grow w1.heap.size).and (KeepG.grow (w.heap.size + 1))) 14
            · kernel_rfl
            · exact post_steady
            · exact rfl
            · kernel_rfl
            · intro wv
              go_simp
              exact ⟨rfl,sqN _⟩
            try simp only [Act.put,sqA,sqB,sqC]
            refine wpAnyE_fork [8] (by kernel_rfl) (by simp) ?_
            refine sqM ?_
            · refine ⟨_,rfl,?_⟩
              intro wv hv K hK
              replace hS := Now.below hS hv
              rw [if_pos (by kernel_rfl)]
              refine wp_app_now _ _ 51 3 rfl Tryz.underlying51 hi0 hz0 hz1 hz2 rfl (pre:=[_,_,_,_,_,_]) hS (Now.blk (pre:=[_]) hS) rfl rfl rfl n2 m2 ?_
              intro g2 cap2 wc6 hz hS2
              refine hK _ _ (fun _ => ⟨fun _ => ⟨(Now.blk (pre:=[_,_,_,_]) hS2).trans (Now.blk (pre:=[_,_,_,_]) hS).symm,hz⟩,fun _ => ⟨(Now.blk (pre:=[_,_,_,_,_,_,_,_,_,_]) hS2).trans (Now.blk (pre:=[_,_,_,_,_,_,_,_,_,_]) hS).symm,hz⟩⟩) ?_
              replace hS := hS2
              clear hS2 hz hK K hv wv
              try simp only [Act.put,sqA,sqB,sqC]
              refine wpAnyE_fork [13] (by kernel_rfl) (by simp) ?_
              refine sqM ?_
              · refine ⟨_,rfl,?_⟩
                intro wv hv K hK
                replace hS := Now.below hS hv
                rw [if_pos (by kernel_rfl)]
                refine wp_app_now _ _ 62 43 rfl Tryz.underlying62 hj0 hy0 hy1 hy2 rfl (pre:=[_,_,_,_,_,_,_]) hS (Now.blk (pre:=[_,_]) hS) rfl rfl rfl n3 m3 ?_
                intro g3 cap3 wc7 hz hS2
                refine hK _ _ (fun _ => ⟨fun _ => ⟨(Now.blk (pre:=[_,_,_,_]) hS2).trans (Now.blk (pre:=[_,_,_,_]) hS).symm,hz⟩,fun _ => ⟨(Now.blk (pre:=[_,_,_,_,_,_,_,_,_,_]) hS2).trans (Now.blk (pre:=[_,_,_,_,_,_,_,_,_,_]) hS).symm,hz⟩⟩) ?_
                replace hS := hS2
                clear hS2 hz hK K hv wv
                try simp only [Act.put,sqA,sqB,sqC]
                exact HT.out _ _ _ (by kernel_rfl) ⟨_,_,_,_,_,_,_,_,_,_,_,_,_,_,_,_,_,rfl,(Now.drop (pre:=[]) (Now.drop (pre:=[]) (Now.drop (pre:=[]) hS)))⟩
    -- END
  case done =>
    rintro D xs W hD rfl ⟨hnil,hS3⟩ hK
    obtain ⟨S,HS,hback⟩ := hS3.part (B := W0.heap.size) hL1
    have he := Now.blk (pre:=[_,_,_,_,_]) HS
    have hr := Now.blk (pre:=[_,_,_,_,_,_]) HS
    have fr := fun k => hr.frozen k
    have r0 : _ = some (Value.int .i64 0) := hr.cell 0
    have r1 : _ = some (Value.int .i64 0) := hr.cell 1
    have r2 : _ = some (Value.slice none 0 0) := hr.cell 2
    have r3 : _ = some (Value.slice none 0 0) := hr.cell 3
    have r4 : _ = some (Value.slice none 0 0) := hr.cell 4
    have fe := he.frozen 0
    have ce : _ = some (Value.int .i64 0) := he.cell 0
    have hS5 := Lib.hid (Now.set_ (pre:=[_,_,_,_,_]) (Now.set5 (pre:=[_,_,_,_,_,_]) HS (.int .i64 0) (.int .i64 0) (.slice none 0 0) (.slice none 0 0) (.slice none 0 0)) 0 (.int .i64 10))
    have HNIL := Lib.hid hnil
    have hK2 := (hback _ _ hS5.out).1
    have hS6 := (hback _ _ hS5.out).2
    clear hback
    replace hK2 := hK2.same D _ hD hK rfl
    clear HS hr he hS3 hnil h hL2 hK
    gi_wp2
    refine ⟨by simp, .inl ⟨_,_,rfl,run_takeDeferred hK2,?_⟩⟩
    have hL3 : ∀ O ∈ [Thing.cells (w.heap.size + 1 + 1 + 1) 31 #[.int .i64 10],Thing.cells (w.heap.size + 1 + 1) 64 zeroTab],Cellish O := by
      intro O hO
      simp only [List.mem_cons,List.not_mem_nil,or_false] at hO
      rcases hO with rfl | rfl <;> exact cellish_cells _ _ _
    have hS7 : Sep w _ [Thing.cells (w.heap.size + 1 + 1 + 1) 31 #[.int .i64 10],Thing.cells (w.heap.size + 1 + 1) 64 zeroTab] := Now.drop (pre:=[_,_]) (Now.drop (pre:=[_,_]) (Now.drop (pre:=[]) (Now.drop (pre:=[]) (Now.drop (pre:=[]) (Now.drop (pre:=[]) (Now.drop (pre:=[]) hS6))))))
    have hS8 := Now.ownFrom (β := Unit) hL3 hWB () _ _ (some D) hS7 (grownBy_putObj' _ D (.deferred none)) (fun r e => by cases e;exact ⟨hD,_,hK2,rfl⟩)
    have ce : _ = some (Value.int .i64 10) := (Now.blk (pre:=[]) hS8).cell 0
    refine ⟨.tuple #[.agg zeroTab, .int .i64 10],results_row_cell rfl _ _ _ _ _ _ (w.heap.size + 1 + 1 + 1) _ (by simp) (by simp) (Now.blk (pre:=[_]) hS8) (by simp [go_sem,ce]) Tryz.underlying64 rfl (by kernel_rfl),fun _ => ⟨rfl,Sep.base hS8⟩,fun f l e => ?_⟩
    exact absurd (HNIL.out.symm.trans e) (by simp)
  case stop =>
    rintro D c' pre W hD ⟨k,hk,hx,rfl⟩ ⟨rfl,f,hf,B1,j1,B2,j2,B3,j3,hS3⟩ hK
    obtain ⟨l,hl⟩ := freeTo_pre T N (k + 1) hk
    have HX : T.freeTo N = f :: l := by rw [hl,hf];rfl
    clear hl
    replace HX := Lib.hid HX
    clear hf hL1 hS2 h
    gi_wp2
    refine ⟨by simp, .inl ⟨_,_,rfl,run_takeDeferred hK,?_⟩⟩
    have hS8 := Now.ownFrom (β := Unit) (hL2 f B1 j1 B2 j2 B3 j3) hWB () _ _ (some D) hS3 (grownBy_putObj' _ D (.deferred none)) (fun r e => by cases e;exact ⟨hD,_,hK,rfl⟩)
    have ce : _ = some (Value.int .i64 0) := (Now.blk (pre:=[_]) hS8).cell 0
    refine ⟨.tuple #[.agg (tabCells (T.roll f first) B1 j1 B2 j2 B3 j3), .int .i64 0],results_row_cell rfl _ _ _ _ _ _ (w.heap.size + 1 + 1 + 1) _ (by simp) (by simp) (Now.blk (pre:=[]) hS8) (by simp [go_sem,ce]) Tryz.underlying64 rfl (by kernel_rfl),fun e => ?_,fun f' l' e => ?_⟩
    · rw [HX.out] at e;cases e
    · rw [HX.out] at e
      cases e
      exact ⟨B1,j1,B2,j2,B3,j3,rfl,Now.drop (pre:=[]) (Now.drop (pre:=[]) hS8)⟩
end Go.Proofs.YtidacaihmjdmkaaGreat
