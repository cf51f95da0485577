/- For LogDoes: its calls among a law's arguments, made on no disk, a step whatever it be. -/
import Derived.Test.YtidacaihmjdmkaaGreatZStepD
import Derived.Test.YtidacaihmjdmkaaGreatZStepK
import Derived.Test.YtidacaihmjdmkaaGreatZStepA
set_option linter.unusedSimpArgs false
set_option linter.unusedVariables false
set_option maxRecDepth 100000
namespace Go.Proofs.YtidacaihmjdmkaaGreat
open Go.RowKit
attribute [local go_sem high] run_mx run_mn
structure Clls where
  A : Option Addr
  n : Nat
  c : Nat
  xss : List (List Value)
  lim : Int
abbrev Clls.cells (z : Clls) : Array Value:=#[.slice z.A z.n z.c, .int .i64 z.lim]
structure Clls.Wf (W : World) (z : Clls) : Prop where
  l : Elems W 10 (Parts op9Form) z.A z.n z.c z.xss
  lim : -9223372036854775808 ≤ z.lim ∧ z.lim ≤ 9223372036854775807
section
open Go.ChangeShapes Go.WideShapes Go.ChangeAt Go.Deep
variable {H : Type} {enc : TypeId × Value → H} {W : World} {b0 : Nat}
abbrev callsForm (W : World) : List (List Value → Prop):=[rdSlice W 10 (Parts op9Form),rdInt .i64]
set_option maxRecDepth 100000 in
theorem opened_Calls {v : Value} {d : DataW H} {ps : List MemPlace} (hv : Value.okWide Tryz.prog W .any b0 27 v) (h : DataW.Trod enc Tryz.prog W 0 (fun _=>true) true 27 v d ps) : ∃ z : Clls,v = .agg z.cells ∧ z.Wf W:=by
  obtain ⟨cs,rfl,hg⟩:=opened_agg (R:=Parts (callsForm W)) Tryz.underlying27 (tr_struct Tryz.underlying27 (by kernel_rfl)
    ⟨rfl,tr_slice (by omega) Tryz.underlying25 (by kernel_rfl) tr_op9,by kernel_rfl,tr_int Tryz.underlying3,trivial⟩) hv h
  obtain ⟨_,_,rfl,⟨A,n,c,xss,rfl,hE⟩,g1⟩:=hg.cons
  obtain ⟨_,_,rfl,⟨k,rfl,hk⟩,g2⟩:=g1.cons
  have g2 : _ = []:=g2
  subst g2
  exact ⟨⟨A,n,c,xss,k⟩,rfl,hE,bounds_i64 hk⟩
end
theorem Step_any {s : LSt} {k : Nat} (hs : s.Fine (k + 1)) (r : RDsk) (hRl : Rel s.d r) (g gd h hd : Nat) (o : Opn) (ho : o.Wf) (AO : Option Addr) (cO : Nat) (AL : Option Addr) (cL : Nat) (AF : Option Addr) (cF : Nat) (BO : Option Addr) (dO : Nat) (BL : Option Addr) (dL : Nat) (BF : Option Addr) (dF : Nat)
    {S0 : Nat → Prop} {w0 w : World} {L : List Thing} (hS : Now S0 w0 w (s.parts g gd 1 AO cO AL cL AF cF ++ (rlogParts h hd s.T BO dO BL dL BF dF s.lsn 1 s.gen r ++ L))) :
    Calls Tryz.prog 18 #[.pointer (some ⟨g,0,none⟩), .pointer (some ⟨h,0,none⟩), .agg o.cells] w fun e w'=>Stepped S0 w0 w' (s.act 1 o).2.2.2 g gd h hd L e:=by
  obtain ⟨m,hm⟩ : ∃ m,bits BinOp.and IntKind.i64 o.kind 7 = m:=⟨_,rfl⟩
  by_cases h0 : m = 0
  · exact Step_seal hs r hRl g gd h hd o ho AO cO AL cL AF cF BO dO BL dL BF dF hS (hm.trans h0)
  by_cases h1 : m = 1
  · exact Step_drop hs r hRl g gd h hd o ho AO cO AL cL AF cF BO dO BL dL BF dF hS (hm.trans h1)
  by_cases h2 : m = 2
  · exact Step_ck hs r hRl g gd h hd o ho AO cO AL cL AF cF BO dO BL dL BF dF hS (hm.trans h2)
  · exact Step_app hs r hRl g gd h hd o ho AO cO AL cL AF cF BO dO BL dL BF dF hS m hm h0 h1 h2
set_option maxHeartbeats 8000000 in
theorem made_bad (n : Int) (hn : n < 1 ∨ 4096 < n) (c : Cnf) (w : World) :
    Calls Tryz.prog 12 #[.int .i64 n, .agg c.cells] w fun e w'=>e = .returned (.tuple #[.pointer none, .pointer none, .int .i64 1]) ∧ Newer w w':=by
  have hS:=Now.pushCells (Sep.start w) 24 c.cells
  go_enter Tryz.func12,Tryz.ntmps12
  go_wp2_with (go_at_call 21;(with_reducible refine (New_bad n _ hn).mono ?_);rintro e w1 ⟨rfl,rfl⟩)
  refine bodyPost_ret (v := .tuple #[.pointer none, .pointer none, .int .i64 1]) ?_ rfl ⟨rfl,Sep.base hS⟩
  rw [results_tmp3 rfl]
  simp
def startN (n : Int) (c : Cnf) : LSt:=⟨newTab c.segs c.slots 1,1,1,madeD n c⟩
theorem startN_fine {n : Int} (hn : 2 ≤ n) {c : Cnf} (h : c.may = true) : (startN n c).Fine 100:=by
  obtain ⟨h1,h2⟩:=Cnf.may_in h
  obtain ⟨d1,d2,d3⟩:=madeD_is n hn c
  refine ⟨newTab_ok _ _ _ h1 h2 (by omega),by show (1:Int) ≤ 1 ∧ (1:Int) + _ < _;omega,by show (0:Int) ≤ 1 ∧ (1:Int) + _ < _;omega,?_⟩
  show (madeD n c).pend.length + _ ≤ _
  rw [d3]
  decide
end Go.Proofs.YtidacaihmjdmkaaGreat
