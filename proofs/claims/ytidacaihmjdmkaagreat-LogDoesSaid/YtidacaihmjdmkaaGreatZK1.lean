/- What the laws of this seat lean on, part 1. -/
import Derived.Below
import Derived.Laws.OwnMore
import Derived.Deep.AppendLies
import Derived.Deep.Draws
import Derived.Laws.Rows
import Derived.Maps.AppendAt
import Derived.RegionTactic
import Derived.OwnWalk
import Derived.WalkKit
import Derived.ProofKit
import Derived.OpenShut
import Derived.ShutString
import Derived.ChangeOld
import Derived.SizedLaws
import Derived.Deep.Slices
import Derived.Laws.Sem
import Derived.Laws.Entries
import Derived.WalkSpells
import Derived.Carry
import Derived.Lib.LazyBuf
import Derived.Lib.ConvBytes
import Derived.Laws.IdiomCopy
import Derived.Laws.IdiomStrings
set_option linter.unusedSimpArgs false
set_option linter.unusedVariables false
set_option maxRecDepth 100000
namespace Go.Proofs.YtidacaihmjdmkaaGreat
theorem sqA {α : Type} (l : List α) (i : Nat) (a : α) : l.toArray.setIfInBounds i a = (l.set i a).toArray := by simp
theorem sqB {α : Type} (x : α) (l : List α) (a : α) : (x :: l).set 0 a = a :: l := rfl
theorem sqC {α : Type} (x : α) (l : List α) (a : α) (i : Nat) : (x :: l).set (i + 1) a = x :: l.set i a := rfl
theorem sqM {p : Nat → Prop} {i : Nat} (h : p i) : ∀ j ∈ [i],p j := by
  intro j hj
  obtain rfl : j = i := by simpa using hj
  exact h
end Go.Proofs.YtidacaihmjdmkaaGreat
namespace Go.Proofs.YtidacaihmjdmkaaGreat
open Go.RowKit
theorem block_of_add (a : Addr) (n : Nat) : (a.add n).block = a.block := by unfold Addr.add;split <;> rfl
theorem add_of_add (a : Addr) (i j : Nat) : (a.add i).add j = a.add (i + j) := by
  unfold Addr.add
  by_cases hi : i = 0 <;> by_cases hj : j = 0 <;> simp [hi,hj,Nat.add_assoc]
def Reads (w : World) (B size : Nat) (A : Option Addr) (n : Nat) (xs : List Value) : Prop :=
  xs.length = n * size ∧ (0 < n → ∃ ad,A = some ad ∧ ad.block < B ∧ ∀ j u,xs[j]? = some u → w.cell? (ad.add j) = some u)
section
variable {w w' : World} {B B' size n : Nat} {A : Option Addr} {xs : List Value}
theorem Reads.none_ : Reads w B size A 0 [] := ⟨by simp,fun h => absurd h (by omega)⟩
theorem Reads.at_ {k : Nat} (h : Reads w B 1 A n xs) (hk : k < n) : ∃ ad u,A = some ad ∧ ad.block < B ∧ xs[k]? = some u ∧ w.cell? (ad.add k) = some u := by
  obtain ⟨ad,e,hb,hc⟩ := h.2 (by omega)
  have hl : k < xs.length := by have := h.1;omega
  exact ⟨ad,xs[k],e,hb,List.getElem?_eq_getElem hl,hc k _ (List.getElem?_eq_getElem hl)⟩
theorem Reads.keep (h : Reads w B size A n xs) (hk : ∀ p : Addr,p.block < B → w'.cell? p = w.cell? p) : Reads w' B size A n xs :=
  ⟨h.1,fun hn => by
    obtain ⟨ad,e,hb,hc⟩ := h.2 hn
    exact ⟨ad,e,hb,fun j u hu => (hk _ (by rw [block_of_add];exact hb)).trans (hc j u hu)⟩⟩
theorem Reads.more (h : Reads w B size A n xs) (hB : B ≤ B') : Reads w B' size A n xs :=
  ⟨h.1,fun hn => by
    obtain ⟨ad,e,hb,hc⟩ := h.2 hn
    exact ⟨ad,e,by omega,hc⟩⟩
theorem Reads.below (h : Reads w B size A n xs) (hb : Below B w w') : Reads w' B size A n xs := h.keep fun _ hp => hb.cell hp
theorem Reads.drew (h : Reads w B size A n xs) : Reads w.drew B size A n xs := h
theorem Reads.alloc (h : Reads w B size A n xs) (hB : B ≤ w.heap.size) (o : Obj) : Reads (w.alloc o) B size A n xs := h.keep fun p hp => World.cell?_alloc_lt w o p (by omega)
theorem Reads.setCell (h : Reads w B size A n xs) {p : Addr} (hB : B ≤ p.block) (u : Value) : Reads (w.setCell p u) B size A n xs :=
  h.keep fun q hq => World.cell?_setCell_other w p q u (fun e => by subst e;omega)
theorem Reads.grown (h : Reads w B size A n xs) {row : Option Nat} (hg : w.grownBy w' row) (hB : B ≤ w.heap.size) (hr : ∀ g,row = some g → B ≤ g) : Reads w' B size A n xs :=
  h.keep fun p hp => World.cell?_of_block (hg.block p.block (by omega) (fun e => by have := hr _ e.symm;omega))
theorem Reads.cut (h : Reads w B size A n xs) {k cap : Nat} (hk : k ≤ n) (hc : n ≤ cap) :
    Reads w B size (if cap = k then A else A.map (·.add (k * size))) (n - k) (xs.drop (k * size)) := by
  refine ⟨by rw [List.length_drop,h.1,Nat.sub_mul],fun hn => ?_⟩
  obtain ⟨ad,rfl,hb,hcell⟩ := h.2 (by omega)
  rw [if_neg (by omega)]
  refine ⟨ad.add (k * size),rfl,by rw [block_of_add];exact hb,fun j u hu => ?_⟩
  rw [add_of_add]
  exact hcell _ u (by rw [← hu,List.getElem?_drop])
theorem Reads.of_own {base : Nat} {e : TypeId} {c : Nat} (h : w.ownsRow base e size (.slice A n c) n xs) : Reads w w.heap.size size A n xs := by
  refine ⟨h.1,fun hn => ?_⟩
  obtain ⟨g,cap,hv,_,hlt⟩ := h.form hn
  have hA : A = some ⟨g,0,none⟩ := by injection hv
  subst hA
  exact ⟨_,rfl,hlt,h.cells (g := g) rfl⟩
end
def Blk (w : World) (g : Nat) (t : TypeId) (cs : Array Value) : Prop := w.heap[g]? = some (.cells cs t (0,0))
section
variable {w w' : World} {g : Nat} {t : TypeId} {cs : Array Value}
theorem Blk.lt (h : Blk w g t cs) : g < w.heap.size := by
  rcases Nat.lt_or_ge g w.heap.size with hlt | hge
  · exact hlt
  · unfold Blk at h;rw [Array.getElem?_eq_none hge] at h;cases h
theorem Blk.cell (h : Blk w g t cs) (i : Nat) : w.cell? ⟨g,i,none⟩ = cs[i]? := cell_of_row w g i cs t (0,0) h
theorem Blk.frozen (h : Blk w g t cs) (i : Nat) : w.frozen? ⟨g,i,none⟩ = false := by
  unfold Blk at h
  simp [World.frozen?,h]
theorem Blk.new (w : World) (t : TypeId) (cs : Array Value) : Blk (w.alloc (.cells cs t)) w.heap.size t cs := heap_alloc_new w _
theorem Blk.drew (h : Blk w g t cs) : Blk w.drew g t cs := h
theorem Blk.alloc (h : Blk w g t cs) (o : Obj) : Blk (w.alloc o) g t cs := (Below.heap_alloc w o g h.lt).trans h
theorem Blk.set_ (h : Blk w g t cs) (i : Nat) (u : Value) : Blk (w.setCell ⟨g,i,none⟩ u) g t (cs.setIfInBounds i u) := by
  unfold Blk at h ⊢
  simp [World.setCell,Array.getElem?_modify,h]
theorem Blk.far (h : Blk w g t cs) {p : Addr} (hp : g ≠ p.block) (u : Value) : Blk (w.setCell p u) g t cs := (Below.heap_setCell w p u g hp).trans h
theorem Blk.below {B : Nat} (h : Blk w g t cs) (hb : Below B w w') (hg : g < B) : Blk w' g t cs := (hb.block g hg).trans h
theorem Blk.grown {row : Option Nat} (h : Blk w g t cs) (hb : w.grownBy w' row) (hg : some g ≠ row) : Blk w' g t cs := (hb.block g h.lt hg).trans h
end
section
variable {P : Program} (w : World)
theorem run_append_of_nil (base : Nat) (t ty e : TypeId) (i : TypeInfo) (size : Nat) (ht : P.underlying t = some (.slice e)) (hi : P.info? e = some i)
    (v : Value) (n : Nat) (xs : List Value) (hown : w.ownsRow base e size v n xs) (c : Nat) : (Builtin.append_ #[t,t] ty #[v, .slice none 0 c]).run P w = .ok v w := by
  rcases hown.2 with ⟨rfl,rfl⟩ | ⟨g,cap,cur,rfl,_,_,hnc,_⟩
  · simp [Builtin.append_,run_underlying ht,sizeOf,typeInfo,hi,Builtin.lenOf,Builtin.firstCells]
  · simp [Builtin.append_,run_underlying ht,sizeOf,typeInfo,hi,Builtin.lenOf,Builtin.firstCells,hnc,storeCells]
theorem run_append_any (base : Nat) (t ty e : TypeId) (i : TypeInfo) (z : Value) (size bytes : Nat) (ht : P.underlying t = some (.slice e)) (hi : P.info? e = some i) (hz : i.zero = some z)
    (hsize : i.size = size) (hby : i.bytes = bytes) (hzs : z.cells.size = size) (hsz : 0 < size)
    (v : Value) (n : Nat) (xs : List Value) (hown : w.ownsRow base e size v n xs)
    (B : Nat) (A : Option Addr) (m c : Nat) (news : List Value) (hr : Reads w B size A m news) (h1 : ∀ u ∈ news,u.oneCell' = true)
    (h63 : n + m ≤ maxLen) (hbytes : (n + m) * bytes ≤ 140737488355328) (hbase : base ≤ w.heap.size) :
    ∃ v' w',(Builtin.append_ #[t,t] ty #[v, .slice A m c]).run P w = .ok v' w' ∧ w'.ownsRow base e size v' (n + m) (xs ++ news) ∧ w.grownBy w' v.ownBlock ∧
      (v'.ownBlock = v.ownBlock ∨ v'.ownBlock = some w.heap.size) := by
  rcases A with _ | ad
  · have hm : m = 0 := by
      rcases Nat.eq_zero_or_pos m with h0 | h0
      · exact h0
      · obtain ⟨ad,h,_⟩ := hr.2 h0
        cases h
    subst hm
    have hn : news = [] := List.eq_nil_of_length_eq_zero (by simpa using hr.1)
    subst hn
    exact ⟨v,w,run_append_of_nil w base t ty e i size ht hi v n xs hown c,by simpa using hown,World.grownBy.refl w _, .inl rfl⟩
  · have hcells : ∀ j u,news[j]? = some u → w.cell? (ad.add j) = some u := by
      intro j u hu
      rcases Nat.eq_zero_or_pos m with h0 | h0
      · subst h0
        have hn : news = [] := List.eq_nil_of_length_eq_zero (by simpa using hr.1)
        subst hn
        simp at hu
      · obtain ⟨ad',h,_,hc⟩ := hr.2 h0
        injection h with h
        subst h
        exact hc j u hu
    obtain ⟨v',w',hrun,h2,h3,_,h5⟩ := run_append_own_at (P := P) w base t ty e i z size bytes ht hi hz hsize hby hzs hsz v n xs hown ad m c news hr.1 hcells h1 h63 hbytes hbase
    exact ⟨v',w',hrun,h2,h3,h5⟩
theorem wp_append_any {o : Oper} {a : Act} {K : Act → World → Prop} {Q : Exit → Act → World → Prop} (s x : Operand) (t : TypeId)
    (ho : o.op = .call { callee := .builtin .append,args := #[s,x],argTypes := #[t,t] })
    (base : Nat) (e : TypeId) (i : TypeInfo) (z : Value) (size bytes : Nat) (ht : P.underlying t = some (.slice e)) (hi : P.info? e = some i) (hz : i.zero = some z)
    (hsize : i.size = size) (hby : i.bytes = bytes) (hzs : z.cells.size = size) (hsz : 0 < size)
    (v : Value) (n : Nat) (xs : List Value) (hs : a.eval s = v) (hown : w.ownsRow base e size v n xs)
    (B : Nat) (A : Option Addr) (m c : Nat) (news : List Value) (hx : a.eval x = .slice A m c) (hr : Reads w B size A m news) (h1 : ∀ u ∈ news,u.oneCell' = true)
    (h63 : n + m ≤ maxLen) (hbytes : (n + m) * bytes ≤ 140737488355328) (hbase : base ≤ w.heap.size)
    (h : ∀ v' w',w'.ownsRow base e size v' (n + m) (xs ++ news) → w.grownBy w' v.ownBlock → (v'.ownBlock = v.ownBlock ∨ v'.ownBlock = some w.heap.size) → K (a.put o.dst v') w') : o.wp P a w K Q := by
  obtain ⟨v',w',hrun,h2,h3,h4⟩ := run_append_any (P := P) w base t o.type e i z size bytes ht hi hz hsize hby hzs hsz v n xs hown B A m c news hr h1 h63 hbytes hbase
  unfold Oper.wp execOp
  simp only [ho,resolve,invoke,builtin,Sem.run_bind,Sem.run_pure,Result.andThen_ok,List.map_toArray,List.map_cons,List.map_nil,hs,hx,hrun]
  exact h v' w' h2 h3 h4
theorem wpList_append_any {ops : Array Oper} {rest : List Oper} {o : Oper} {a : Act} {Q : Exit → Act → World → Prop} (hgd : o.guard = none) (s x : Operand) (t : TypeId)
    (ho : o.op = .call { callee := .builtin .append,args := #[s,x],argTypes := #[t,t] })
    (base : Nat) (e : TypeId) (i : TypeInfo) (z : Value) (size bytes : Nat) (ht : P.underlying t = some (.slice e)) (hi : P.info? e = some i) (hz : i.zero = some z)
    (hsize : i.size = size) (hby : i.bytes = bytes) (hzs : z.cells.size = size) (hsz : 0 < size)
    (v : Value) (n : Nat) (xs : List Value) (hs : a.eval s = v) (hown : w.ownsRow base e size v n xs)
    (B : Nat) (A : Option Addr) (m c : Nat) (news : List Value) (hx : a.eval x = .slice A m c) (hr : Reads w B size A m news) (h1 : ∀ u ∈ news,u.oneCell' = true)
    (h63 : n + m ≤ maxLen) (hbytes : (n + m) * bytes ≤ 140737488355328) (hbase : base ≤ w.heap.size)
    (h : ∀ v' w',w'.ownsRow base e size v' (n + m) (xs ++ news) → w.grownBy w' v.ownBlock → (v'.ownBlock = v.ownBlock ∨ v'.ownBlock = some w.heap.size) → wpList P ops Q rest (a.put o.dst v') w') : wpList P ops Q (o :: rest) a w :=
  wpList_plain hgd fun _ hK => wp_append_any w s x t ho base e i z size bytes ht hi hz hsize hby hzs hsz v n xs hs hown B A m c news hx hr h1 h63 hbytes hbase fun v' w' h2 h3 h4 => hK _ _ (h v' w' h2 h3 h4)
theorem step_append_any {ops : Array Oper} {o : Oper} {a : Act} {K : Act → World → Prop} {Q : Exit → Act → World → Prop} {E : Prop} (hgd : o.guard = none) (s x : Operand) (t : TypeId)
    (ho : o.op = .call { callee := .builtin .append,args := #[s,x],argTypes := #[t,t] })
    (base : Nat) (e : TypeId) (i : TypeInfo) (z : Value) (size bytes : Nat) (ht : P.underlying t = some (.slice e)) (hi : P.info? e = some i) (hz : i.zero = some z)
    (hsize : i.size = size) (hby : i.bytes = bytes) (hzs : z.cells.size = size) (hsz : 0 < size)
    (v : Value) (n : Nat) (xs : List Value) (hs : a.eval s = v) (hown : w.ownsRow base e size v n xs)
    (B : Nat) (A : Option Addr) (m c : Nat) (news : List Value) (hx : a.eval x = .slice A m c) (hr : Reads w B size A m news) (h1 : ∀ u ∈ news,u.oneCell' = true)
    (h63 : n + m ≤ maxLen) (hbytes : (n + m) * bytes ≤ 140737488355328) (hbase : base ≤ w.heap.size)
    (h : ∀ v' w',w'.ownsRow base e size v' (n + m) (xs ++ news) → w.grownBy w' v.ownBlock → (v'.ownBlock = v.ownBlock ∨ v'.ownBlock = some w.heap.size) → K (a.put o.dst v') w') :
    if Region.wanted o (yielded ops a.tmps) = true then Oper.wp P o a w K Q else E := by
  have hw : Region.wanted o (yielded ops a.tmps) = true := by simp [Region.wanted,hgd]
  rw [if_pos hw]
  exact wp_append_any w s x t ho base e i z size bytes ht hi hz hsize hby hzs hsz v n xs hs hown B A m c news hx hr h1 h63 hbytes hbase h
end
def mx (x y : Int) : Int := if x < y then y else x
def mn (x y : Int) : Int := if y < x then y else x
theorem run_mx (P : Program) (w : World) (ts : Array TypeId) (t : TypeId) (k k' : IntKind) (x y : Int) : (Builtin.max_ ts t #[.int k x, .int k' y]).run P w = .ok (.int k (mx x y)) w := by
  rw [run_max_int2];rfl
theorem run_mn (P : Program) (w : World) (ts : Array TypeId) (t : TypeId) (k k' : IntKind) (x y : Int) : (Builtin.min_ ts t #[.int k x, .int k' y]).run P w = .ok (.int k (mn x y)) w := by
  rw [run_min_int2];rfl
theorem mx_def (x y : Int) : mx x y = max x y := by unfold mx;omega
theorem mn_def (x y : Int) : mn x y = min x y := by unfold mn;omega
theorem wpList_app1 {P : Program} (w : World) {ops : Array Oper} {rest : List Oper} {o : Oper} {a : Act} {Q : Exit → Act → World → Prop} (hgd : o.guard = none) (s x : Operand) (t : TypeId)
    (ho : o.op = .call { callee := .builtin .append,args := #[s,x],argTypes := #[t,t] })
    (base : Nat) (e : TypeId) {i : TypeInfo} {z : Value} {bytes : Nat} (ht : P.underlying t = some (.slice e)) (hi : P.info? e = some i) (hz : i.zero = some z)
    (hsize : i.size = 1) (hby : i.bytes = bytes) (hzs : z.cells.size = 1)
    {v : Value} {n : Nat} {xs : List Value} {u : Value} (hown : w.ownsRow base e 1 v n xs) (hs : a.eval s = v) (hx : a.eval x = .slice (some ⟨w.heap.size,0,none⟩) 1 1) (h1 : u.oneCell' = true)
    (h63 : n + 1 ≤ maxLen) (hbytes : (n + 1) * bytes ≤ 140737488355328) (hbase : base ≤ w.heap.size)
    (h : ∀ v' w',w'.ownsRow base e 1 v' (n + 1) (xs ++ [u]) → w.grownBy w' v.ownBlock → (v'.ownBlock = v.ownBlock ∨ v'.ownBlock = some (w.heap.size + 1)) → wpList P ops Q rest (a.put o.dst v') w') : wpList P ops Q (o :: rest) a (w.alloc (.cells #[u] e)) :=
  wpList_append_any _ hgd s x t ho base e i z 1 bytes ht hi hz hsize hby hzs (by omega) v n xs hs (hown.alloc _) (w.heap.size + 1) (some ⟨w.heap.size,0,none⟩) 1 1 [u] hx
    ⟨rfl,fun _ => ⟨_,rfl,by simp,cell_one_new _ _ _⟩⟩ (by simpa using h1) h63 hbytes (by simp;omega)
    fun v' w' h2 h3 h4 => h v' w' h2 ((World.grownBy_alloc w _ _).trans h3) (by simpa using h4)
theorem ownsRow_below {w w' : World} {base B : Nat} {e : TypeId} {size n : Nat} {v : Value} {xs : List Value} (h : w.ownsRow base e size v n xs) (hb : Below B w w') (hB : w.heap.size ≤ B) : w'.ownsRow base e size v n xs := by
  refine ⟨h.1,?_⟩
  have hlt := h.lt
  rcases h.2 with h2 | ⟨g,cap,cur,hv,hg,hh,r⟩
  · exact .inl h2
  · refine .inr ⟨g,cap,cur,hv,hg,?_,r⟩
    have := (hlt g (by rw [hv];rfl)).2
    rw [hb.block g (by omega)];exact hh
structure Two (w : World) (base : Nat) (e : TypeId) (va : Value) (na : Nat) (xs : List Value) (vb : Value) (nb : Nat) (ys : List Value) : Prop where
  a : w.ownsRow base e 1 va na xs
  b : w.ownsRow base e 1 vb nb ys
  ne : ∀ k,va.ownBlock = some k → vb.ownBlock ≠ some k
theorem Two.swap {w : World} {base : Nat} {e : TypeId} {va vb : Value} {na nb : Nat} {xs ys : List Value} (h : Two w base e va na xs vb nb ys) : Two w base e vb nb ys va na xs :=
  ⟨h.b,h.a,fun k hb ha => h.ne k ha hb⟩
theorem Two.below {w w' : World} {base B : Nat} {e : TypeId} {va vb : Value} {na nb : Nat} {xs ys : List Value} (h : Two w base e va na xs vb nb ys) (hb : Below B w w') (hB : w.heap.size ≤ B) : Two w' base e va na xs vb nb ys :=
  ⟨ownsRow_below h.a hb hB,ownsRow_below h.b hb hB,h.ne⟩
theorem Two.kept {w w' : World} {base : Nat} {e : TypeId} {va vb : Value} {na nb : Nat} {xs ys : List Value} {row : Option Nat} (h : Two w base e va na xs vb nb ys) (hg : w.grownBy w' row) (hr : ∀ q,row = some q → q < base) : Two w' base e va na xs vb nb ys := by
  refine ⟨h.a.kept hg ?_,h.b.kept hg ?_,h.ne⟩
  · cases hv : va.ownBlock with
    | none => exact .inl rfl
    | some k => exact .inr fun e => by have := (h.a.lt k hv).1;have := hr k e.symm;omega
  · cases hv : vb.ownBlock with
    | none => exact .inl rfl
    | some k => exact .inr fun e => by have := (h.b.lt k hv).1;have := hr k e.symm;omega
structure Three (w : World) (base : Nat) (e : TypeId) (va : Value) (na : Nat) (xs : List Value) (vb : Value) (nb : Nat) (ys : List Value) (vc : Value) (nc : Nat) (zs : List Value) : Prop where
  ab : Two w base e va na xs vb nb ys
  ac : Two w base e va na xs vc nc zs
  bc : Two w base e vb nb ys vc nc zs
section
variable {w w' : World} {base B : Nat} {e : TypeId} {va vb vc v' : Value} {na nb nc n' : Nat} {xs ys zs xs' : List Value}
theorem Two.apart {row : Option Nat} (h : Two w base e va na xs vb nb ys) (hg : w.grownBy w' row) (ha : va.ownBlock = none ∨ va.ownBlock ≠ row) (hb : vb.ownBlock = none ∨ vb.ownBlock ≠ row) : Two w' base e va na xs vb nb ys :=
  ⟨h.a.kept hg ha,h.b.kept hg hb,h.ne⟩
theorem Three.below (h : Three w base e va na xs vb nb ys vc nc zs) (hb : Below B w w') (hB : w.heap.size ≤ B) : Three w' base e va na xs vb nb ys vc nc zs := ⟨h.ab.below hb hB,h.ac.below hb hB,h.bc.below hb hB⟩
end
theorem own_slice {w : World} {base : Nat} {e : TypeId} {v : Value} {n : Nat} {xs : List Value} (h : w.ownsRow base e 1 v n xs) : ∃ A c,v = .slice A n c ∧ Reads w w.heap.size 1 A n xs := by
  rcases h.2 with ⟨e,e0⟩ | ⟨g,cap,cur,e,_⟩
  · refine ⟨none,0,by rw [e,e0],?_⟩
    have hl := h.1
    subst e0
    obtain rfl : xs = [] := List.eq_nil_of_length_eq_zero (by simpa using hl)
    exact Reads.none_
  · subst e
    exact ⟨_,_,rfl,Reads.of_own h⟩
theorem Blk.readsN {w : World} {g B size : Nat} {t : TypeId} {cs : Array Value} (h : Blk w g t cs) (hB : g < B) {m : Nat} (hm : cs.size = m * size) : Reads w B size (some ⟨g,0,none⟩) m cs.toList := by
  refine ⟨by simpa using hm,fun _ => ⟨_,rfl,hB,fun j u hu => ?_⟩⟩
  have : (Addr.mk g 0 none).add j = ⟨g,j,none⟩ := by unfold Addr.add;split <;> simp_all
  rw [this,h.cell]
  simpa using hu
theorem lt_of_cell {w : World} {a : Addr} {v : Value} (h : w.cell? a = some v) : a.block < w.heap.size := by
  rcases Nat.lt_or_ge a.block w.heap.size with hlt | hge
  · exact hlt
  · exfalso
    unfold World.cell? at h
    rw [Array.getElem?_eq_none hge] at h
    cases h
theorem cell_off {w : World} {a : Addr} {j : Nat} {u : Value} (h : w.cell? (a.add j) = some u) : w.cell? ⟨a.block,a.off + j,none⟩ = some u := by
  have hs : (a.add j).spot = none := by
    unfold World.cell? at h
    split at h
    · cases hq : (a.add j).spot with
      | none => rfl
      | some q => rw [hq] at h;simp at h
    · cases h
  have : a.add j = ⟨a.block,a.off + j,none⟩ := by
    unfold Addr.add at hs ⊢
    split
    · rename_i h0
      rw [if_pos h0] at hs
      subst h0
      cases a
      simp at hs ⊢
      exact hs
    · rfl
  rwa [this] at h
theorem getElem?_flatMap_row {α β : Type} (f : α → List β) (ce : Nat) (hce : 0 < ce) (hf : ∀ x,(f x).length = ce) : ∀ (xs : List α) (j : Nat),(xs.flatMap f)[j]? = (xs[j / ce]?).bind fun x => (f x)[j % ce]?
  | [],j => by simp
  | x :: xs,j => by
    rw [List.flatMap_cons,List.getElem?_append,hf]
    split
    · rename_i h
      rw [Nat.div_eq_of_lt h,Nat.mod_eq_of_lt h];simp
    · rename_i h
      rw [getElem?_flatMap_row f ce hce hf xs (j - ce),Nat.div_eq_sub_div (a := j) hce (by omega),Nat.mod_eq_sub_mod (a := j) (by omega),List.getElem?_cons_succ]
theorem own_slice2 {w : World} {base : Nat} {e : TypeId} {size : Nat} {v : Value} {n : Nat} {xs : List Value} (h : w.ownsRow base e size v n xs) : ∃ A c,v = .slice A n c ∧ Reads w w.heap.size size A n xs := by
  rcases h.2 with ⟨e,e0⟩ | ⟨g,cap,cur,e,_⟩
  · refine ⟨none,0,by rw [e,e0],?_⟩
    have hl := h.1
    subst e0
    obtain rfl : xs = [] := List.eq_nil_of_length_eq_zero (by simpa using hl)
    exact Reads.none_
  · subst e
    exact ⟨_,_,rfl,Reads.of_own h⟩
theorem Blk.reads {w : World} {g B : Nat} {t : TypeId} {cs : Array Value} (h : Blk w g t cs) (hB : g < B) : Reads w B 1 (some ⟨g,0,none⟩) cs.size cs.toList := by
  refine ⟨by simp,fun _ => ⟨_,rfl,hB,fun j u hu => ?_⟩⟩
  have : (Addr.mk g 0 none).add j = ⟨g,j,none⟩ := by unfold Addr.add;split <;> simp_all
  rw [this,h.cell]
  simpa using hu
end Go.Proofs.YtidacaihmjdmkaaGreat
namespace Go.Proofs.YtidacaihmjdmkaaGreat
open Go.ChangeShapes Go.WideShapes Go.ChangeAt Go.RowKit Go.Deep
structure IsInts (k : IntKind) (bytes : Nat) (w : World) (A : Option Addr) (n c : Nat) (xs : List Int) : Prop where
  reads : Reads w w.heap.size 1 A n (xs.map (Value.int k))
  len : xs.length = n
  wf : ∀ x ∈ xs,(Lit.int k x).wf = true
  le : n ≤ c
  cap : c ≤ maxLen
  size : n * bytes ≤ 140737488351232
section
variable {b0 : Nat} {H : Type} {enc : TypeId × Value → H} {P : Program} {W : World}
theorem exists_list {α : Type} (n : Nat) (R : Nat → α → Prop) (h : ∀ i,i < n → ∃ x,R i x) : ∃ xs : List α,xs.length = n ∧ ∀ (i : Nat) (x : α),xs[i]? = some x → R i x := by
  induction n with
  | zero => exact ⟨[],rfl,by simp⟩
  | succ n ih =>
    obtain ⟨xs,hl,hx⟩ := ih fun i hi => h i (by omega)
    obtain ⟨y,hy⟩ := h n (by omega)
    refine ⟨xs ++ [y],by simp [hl],fun i x hi => ?_⟩
    rw [List.getElem?_append] at hi
    split at hi
    · exact hx i x hi
    · rename_i hge
      have : i - xs.length = 0 := by
        rcases Nat.eq_zero_or_pos (i - xs.length) with h0 | h0
        · exact h0
        · rw [List.getElem?_eq_none (by simp;omega)] at hi;cases hi
      rw [this] at hi
      simp at hi
      subst hi
      rw [show i = n by omega]
      exact hy
structure IsRows {α : Type} (ce bytes : Nat) (f : α → List Value) (Good : α → Prop) (w : World) (A : Option Addr) (n c : Nat) (xs : List α) : Prop where
  reads : Reads w w.heap.size ce A n (xs.flatMap f)
  len : xs.length = n
  good : ∀ x ∈ xs,Good x
  le : n ≤ c
  cap : c ≤ maxLen
  size : n * bytes ≤ 140737488351232
theorem IsRows.at_ {α : Type} {ce bytes : Nat} {f : α → List Value} {Good : α → Prop} {A : Option Addr} {n c : Nat} {xs : List α} (h : IsRows ce bytes f Good W A n c xs) (hce : 0 < ce) (hf : ∀ x,(f x).length = ce) {i : Nat} (hi : i < n) :
    ∃ (ad : Addr) (x : α),A = some ad ∧ xs[i]? = some x ∧ Good x ∧ ad.block < W.heap.size ∧ ∀ q,q < ce → W.cell? (ad.add (i * ce + q)) = (f x)[q]? := by
  obtain ⟨ad,e,hb,hc⟩ := h.reads.2 (by omega)
  have hl : i < xs.length := by have := h.len;omega
  refine ⟨ad,xs[i],e,List.getElem?_eq_getElem hl,h.good _ (List.getElem_mem _),hb,fun q hq => ?_⟩
  have h3 : q < (f xs[i]).length := by rw [hf];exact hq
  rw [List.getElem?_eq_getElem h3]
  refine hc _ _ ?_
  rw [getElem?_flatMap_row f ce hce hf,Nat.add_comm,Nat.add_mul_div_right _ _ hce,Nat.div_eq_of_lt hq,Nat.add_mul_mod_self_right,Nat.mod_eq_of_lt hq]
  simp [hl]
theorem opened_int {t : TypeId} {k : IntKind} {v : Value} {d : DataW H} {ps : List MemPlace} (hu : P.underlying t = some (.int k))
    (hv : Value.okWide P W .any b0 t v) (h : DataW.Trod enc P W 0 (fun _ => true) true t v d ps) : ∃ a : Int,v = .int k a ∧ (Lit.int k a).wf = true := by
  obtain ⟨a,rfl,_,_,w⟩ := open_int hu hv h
  exact ⟨a,rfl,w⟩
theorem opened_str {t : TypeId} {v : Value} {d : DataW H} {ps : List MemPlace} {ts : List TypeId} {ds : List (DataW H)} {j : Nat} (hu : P.underlying t = some .string)
    (hv : Value.okWide P W .any b0 t v) (h : DataW.Trod enc P W 0 (fun _ => true) true t v d ps)
    (hsz : (DataW.weightsEach P ts ds).all (· ≤ reachBytes) = true) (ht : ts[j]? = some t) (hd : ds[j]? = some d) : ∃ s : ByteArray,v = .string s ∧ s.size ≤ 140737488351232 := by
  obtain ⟨a,rfl,rfl,_,y⟩ := Go.ChangeMaps.open_string hu hv h
  refine ⟨a,rfl,?_⟩
  have z := sized_string hsz ht hd
  rw [Array.length_toList] at z
  exact z
end
end Go.Proofs.YtidacaihmjdmkaaGreat
namespace Go.Proofs.YtidacaihmjdmkaaGreat
open Go.RowKit
structure Fr (S : Nat → Prop) (w w' : World) : Prop where
  os : w'.os = w.os
  tape : w'.tape = w.tape
  output : w'.output = w.output
  size : w.heap.size ≤ w'.heap.size
  block : ∀ k,k < w.heap.size → ¬ S k → w'.heap[k]? = w.heap[k]?
section
variable {S S' T : Nat → Prop} {w w' w'' : World} {B : Nat}
theorem Fr.refl (S : Nat → Prop) (w : World) : Fr S w w := ⟨rfl,rfl,rfl,Nat.le_refl _,fun _ _ _ => rfl⟩
theorem Fr.trans (h : Fr S w w') (h' : Fr S' w' w'') (hs : ∀ k,k < w.heap.size → S' k → S k) : Fr S w w'' :=
  ⟨h'.os.trans h.os,h'.tape.trans h.tape,h'.output.trans h.output,Nat.le_trans h.size h'.size,fun k hk hn => (h'.block k (Nat.lt_of_lt_of_le hk h.size) (fun e => hn (hs k hk e))).trans (h.block k hk hn)⟩
theorem Fr.mono (h : Fr S w w') (hs : ∀ k,k < w.heap.size → S k → T k) : Fr T w w' := ⟨h.os,h.tape,h.output,h.size,fun k hk hn => h.block k hk (fun e => hn (hs k hk e))⟩
theorem Fr.of_grown {row : Option Nat} (h : w.grownBy w' row) (hr : ∀ k,row = some k → S k) : Fr S w w' := ⟨h.os,h.tape,h.output,h.size,fun k hk hn => h.block k hk (fun e => hn (hr k e.symm))⟩
theorem Fr.of_below (h : Below w.heap.size w w') : Fr S w w' := ⟨h.os,h.tape,h.output,h.size,fun k hk _ => h.block k hk⟩
theorem Fr.below (h : Fr S w w') (hB : B ≤ w.heap.size) (hs : ∀ k,k < w.heap.size → S k → B ≤ k) : Below B w w' :=
  ⟨h.os,h.tape,h.output,h.size,fun k hk => h.block k (Nat.lt_of_lt_of_le hk hB) (fun e => by have := hs k (Nat.lt_of_lt_of_le hk hB) e;omega)⟩
theorem Fr.drew (h : Fr S w w') : Fr S w w'.drew := ⟨h.os,h.tape,h.output,h.size,h.block⟩
theorem Fr.alloc (h : Fr S w w') (o : Obj) : Fr S w (w'.alloc o) := ⟨h.os,h.tape,h.output,Nat.le_trans h.size (by simp),fun k hk hn => (Below.heap_alloc w' o k (Nat.lt_of_lt_of_le hk h.size)).trans (h.block k hk hn)⟩
theorem Fr.setCell (h : Fr S w w') {p : Addr} (hp : p.block < w.heap.size → S p.block) (u : Value) : Fr S w (w'.setCell p u) :=
  ⟨h.os,h.tape,h.output,by simpa [World.setCell] using h.size,fun k hk hn => (Below.heap_setCell w' p u k (by rintro rfl;exact hn (hp hk))).trans (h.block k hk hn)⟩
theorem Fr.cell {p : Addr} {v : Value} (h : Fr S w w') (hv : w.cell? p = some v) (hn : ¬ S p.block) : w'.cell? p = some v := by
  have hlt : p.block < w.heap.size := by
    rcases Nat.lt_or_ge p.block w.heap.size with hl | hl
    · exact hl
    · unfold World.cell? at hv;rw [Array.getElem?_eq_none hl] at hv;cases hv
  exact (World.cell?_of_block (h.block p.block hlt hn)).trans hv
theorem Fr.blk {g : Nat} {t : TypeId} {cs : Array Value} (h : Fr S w w') (hb : Blk w g t cs) (hn : ¬ S g) : Blk w' g t cs := (h.block g hb.lt hn).trans hb
theorem Fr.own {base : Nat} {e : TypeId} {size n : Nat} {v : Value} {xs : List Value} (h : Fr S w w') (ho : w.ownsRow base e size v n xs) (hn : ∀ k,v.ownBlock = some k → ¬ S k) : w'.ownsRow base e size v n xs := by
  refine ⟨ho.1,?_⟩
  have hlt := ho.lt
  rcases ho.2 with h2 | ⟨g,cap,cur,hv,hg,hh,r⟩
  · exact .inl h2
  · exact .inr ⟨g,cap,cur,hv,hg,(h.block g (hlt g (by rw [hv];rfl)).2 (hn g (by rw [hv];rfl))).trans hh,r⟩
end
def lookI : List MapEntry → Int → Option Value
  | [],_ => none
  | e :: es,k => match e.key with
    | .int .i64 a => if k = a then some e.val else lookI es k
    | _ => none
def keysI (es : List MapEntry) : Prop := ∀ e ∈ es, ∃ a,e.key = .int .i64 a
def IMap (w : World) (b : Nat) (f : Int → Option Value) : Prop :=
  ∃ es clock,w.heap[b]? = some (.map es clock) ∧ keysI es.toList ∧ ∀ k,lookI es.toList k = f k
section
variable {w w' : World} {b : Nat} {f : Int → Option Value}
theorem IMap.lt (h : IMap w b f) : b < w.heap.size := by
  obtain ⟨es,c,hb,_⟩ := h
  rcases Nat.lt_or_ge b w.heap.size with hl | hl
  · exact hl
  · rw [Array.getElem?_eq_none hl] at hb;cases hb
theorem IMap.of_block (h : IMap w b f) (hb : w'.heap[b]? = w.heap[b]?) : IMap w' b f := by
  obtain ⟨es,c,hh,r⟩ := h
  exact ⟨es,c,hb.trans hh,r⟩
theorem IMap.fr {S : Nat → Prop} (h : IMap w b f) (hf : Fr S w w') (hn : ¬ S b) : IMap w' b f := h.of_block (hf.block b h.lt hn)
theorem IMap.new (w : World) : IMap (w.alloc (.map #[] 0)) w.heap.size (fun _ => none) := ⟨#[],0,heap_alloc_new w _,by simp [keysI],fun _ => rfl⟩
theorem IMap.alloc (h : IMap w b f) (o : Obj) : IMap (w.alloc o) b f := h.of_block (Below.heap_alloc w o b h.lt)
theorem IMap.setCell (h : IMap w b f) {p : Addr} (hp : b ≠ p.block) (u : Value) : IMap (w.setCell p u) b f := h.of_block (Below.heap_setCell w p u b hp)
theorem IMap.drew (h : IMap w b f) : IMap w.drew b f := h
end
theorem findNow_int (k : Int) : ∀ (es : List MapEntry) (i : Nat),keysI es →
    ∃ r,Instr.findNow (.int .i64) (.int .i64 k) es i = some r ∧ (∀ j v,r = some (j,v) → i ≤ j ∧ lookI es k = some v ∧ ∃ e,es[j - i]? = some e ∧ e.key = .int .i64 k) ∧ (r = none → lookI es k = none)
  | [],i,_ => ⟨none,rfl,by simp,fun _ => rfl⟩
  | e :: es,i,h => by
    obtain ⟨a,ha⟩ := h e (by simp)
    by_cases hk : k = a
    · subst hk
      refine ⟨some (i,e.val),by simp [Instr.findNow,ha,Instr.sameNow],?_,by simp⟩
      rintro j v hjv
      simp at hjv
      obtain ⟨rfl,rfl⟩ := hjv
      exact ⟨Nat.le_refl _,by simp [lookI,ha],e,by simp,ha⟩
    · obtain ⟨r,hr,h1,h2⟩ := findNow_int k es (i + 1) (fun e' he' => h e' (by simp [he']))
      refine ⟨r,by simp [Instr.findNow,ha,Instr.sameNow,beq_eq_false_iff_ne.2 hk,hr],?_,fun hn => by simp [lookI,ha,hk,h2 hn]⟩
      intro j v hjv
      obtain ⟨h3,h4,e',h5,h6⟩ := h1 j v hjv
      refine ⟨by omega,by simp [lookI,ha,hk,h4],e',?_,h6⟩
      rw [show j - i = (j - (i + 1)) + 1 by omega]
      simpa using h5
theorem lookI_append (k k' : Int) (v : Value) (c : Nat) : ∀ es : List MapEntry,keysI es → lookI (es ++ [⟨.int .i64 k,v,c⟩]) k' = (lookI es k').or (if k' = k then some v else none)
  | [],_ => by simp [lookI]
  | e :: es,h => by
    obtain ⟨a,ha⟩ := h e (by simp)
    have ih := lookI_append k k' v c es (fun e' he' => h e' (by simp [he']))
    by_cases hk : k' = a <;> simp [lookI,ha,hk,ih]
    all_goals (rw [← hk];simp [hk])
theorem lookI_modify (k k' : Int) (v : Value) : ∀ (es : List MapEntry) (j : Nat),keysI es → (∃ e,es[j]? = some e ∧ e.key = .int .i64 k) → (∀ i e,i < j → es[i]? = some e → e.key ≠ .int .i64 k) →
    lookI (es.modify j fun e => { e with key := .int .i64 k,val := v }) k' = if k' = k then some v else lookI es k'
  | [],j,_,⟨e,he,_⟩,_ => by simp at he
  | e :: es,0,h,⟨e',he',hke⟩,_ => by
    simp at he'
    subst he'
    by_cases hk : k' = k <;> simp [lookI,hke,hk]
  | e :: es,j + 1,h,⟨e',he',hke⟩,hf => by
    obtain ⟨a,ha⟩ := h e (by simp)
    have hne : a ≠ k := fun e' => hf 0 e (by omega) (by simp) (by rw [ha,e'])
    have ih := lookI_modify k k' v es j (fun e' he' => h e' (by simp [he'])) ⟨e',by simpa using he',hke⟩ (fun i e' hi he' => hf (i + 1) e' (by omega) (by simpa using he'))
    rw [List.modify_succ_cons]
    by_cases hk : k' = a
    · subst hk;simp [lookI,ha,hne]
    · simp [lookI,ha,hk,ih]
theorem findNow_first (k : Int) : ∀ (es : List MapEntry) (i j : Nat) (v : Value),keysI es → Instr.findNow (.int .i64) (.int .i64 k) es i = some (some (j,v)) → ∀ (q : Nat) (e : MapEntry),q < j - i → es[q]? = some e → e.key ≠ .int .i64 k
  | [],i,j,v,_,h => by simp [Instr.findNow] at h
  | e :: es,i,j,v,hk,h => by
    obtain ⟨a,ha⟩ := hk e (by simp)
    by_cases hka : k = a
    · subst hka
      simp [Instr.findNow,ha,Instr.sameNow] at h
      intro q e' hq
      omega
    · simp [Instr.findNow,ha,Instr.sameNow,beq_eq_false_iff_ne.2 hka] at h
      have ih := findNow_first k es (i + 1) j v (fun e' he' => hk e' (by simp [he'])) h
      intro q e' hq he'
      cases q with
      | zero => simp at he';subst he';rw [ha];simpa using fun h => hka h.symm
      | succ q => exact ih q e' (by omega) (by simpa using he')
section
variable {P : Program} {w : World} {b : Nat} {f : Int → Option Value} {t kt et : TypeId}
theorem run_checkKey_i (hk : P.underlying kt = some (.int .i64)) (e : Bool) (d : Nat) (k : Int) : (Instr.checkKey e (d + 1) kt (.int .i64 k)).run P w = .ok () w := by simp [Instr.checkKey,run_underlying hk]
theorem run_getObj_i {es : Array MapEntry} {cl : Nat} (hb : w.heap[b]? = some (.map es cl)) : (getObj b).run P w = .ok (.map es cl) w := by simp [getObj,Sem.run,hb]
theorem run_setObj_i {es : Array MapEntry} {cl : Nat} (hb : w.heap[b]? = some (.map es cl)) (o : Obj) : (setObj b o).run P w = .ok () { w with heap := w.heap.setIfInBounds b o } := by simp [setObj,Sem.run,hb]
theorem run_lookup_imap (ht : P.underlying t = some (.map kt et)) (hk : P.underlying kt = some (.int .i64)) {z : Value} (hz : (zeroValue et).run P w = .ok z w) (h : IMap w b f) (k : Int) (c : Bool) :
    (Instr.lookup t (.map (some b)) (.int .i64 k) c).run P w = .ok (if c then .tuple #[(f k).getD z, .bool (f k).isSome] else (f k).getD z) w := by
  obtain ⟨es,cl,hb,hke,hf⟩ := h
  obtain ⟨r,hr,h1,h2⟩ := findNow_int k es.toList 0 hke
  have hck : ∀ e : Bool,(Instr.checkKey e 10000 kt (.int .i64 k)).run P w = .ok () w := fun e => run_checkKey_i hk e 9999 k
  cases hr' : r with
  | none =>
    have hn := h2 hr'
    rw [hf] at hn
    subst hr'
    simp [Instr.lookup,run_underlying ht,run_getObj_i hb,hck,Instr.findKey,run_underlying hk,hr,hz,hn]
  | some p =>
    obtain ⟨j,v⟩ := p
    obtain ⟨_,h3,_⟩ := h1 j v hr'
    rw [hf] at h3
    subst hr'
    simp [Instr.lookup,run_underlying ht,run_getObj_i hb,hck,Instr.findKey,run_underlying hk,hr,h3]
def IPut (w w' : World) (b : Nat) (f : Int → Option Value) : Prop := IMap w' b f ∧ w.grownBy w' (some b) ∧ w'.heap.size = w.heap.size
theorem run_update_imap (ht : P.underlying t = some (.map kt et)) (hk : P.underlying kt = some (.int .i64)) (h : IMap w b f) (k : Int) (v : Value) :
    ∃ w',(Instr.mapUpdate t (.map (some b)) (.int .i64 k) v).run P w = .ok () w' ∧ IPut w w' b (fun k' => if k' = k then some v else f k') := by
  have hlt := h.lt
  obtain ⟨es,cl,hb,hke,hf⟩ := h
  obtain ⟨r,hr,h1,h2⟩ := findNow_int k es.toList 0 hke
  have hck : (Instr.checkKey false 10000 kt (.int .i64 k)).run P w = .ok () w := run_checkKey_i hk false 9999 k
  have hset : ∀ o : Obj,({ w with heap := w.heap.setIfInBounds b o } : World).heap[b]? = some o := by intro o;simp [hlt]
  have hgr : ∀ o : Obj,w.grownBy { w with heap := w.heap.setIfInBounds b o } (some b) := fun o => ⟨rfl,rfl,rfl,by simp,fun q _ hq => by
    have : b ≠ q := fun e => hq (by rw [e])
    simp [this]⟩
  cases hr' : r with
  | none =>
    have hn := h2 hr'
    subst hr'
    refine ⟨{ w with heap := w.heap.setIfInBounds b (.map (es.push ⟨.int .i64 k,v,cl⟩) (cl + 1)) },?_,⟨_,_,hset _,?_,fun k' => ?_⟩,hgr _,by simp⟩
    · simp [Instr.mapUpdate,run_underlying ht,run_getObj_i hb,hck,Instr.findKey,run_underlying hk,hr,run_setObj_i hb]
    · intro e he
      simp at he
      rcases he with he | rfl
      · exact hke e (by simpa using he)
      · exact ⟨k,rfl⟩
    · simp only [Array.toList_push]
      rw [lookI_append _ _ _ _ _ hke,hf]
      by_cases hkk : k' = k
      · subst hkk;rw [hf] at hn;simp [hn]
      · simp [hkk]
  | some p =>
    obtain ⟨j,u⟩ := p
    obtain ⟨_,h3,e,he,hek⟩ := h1 j u hr'
    subst hr'
    have he' : es[j]? = some e := by simpa using he
    refine ⟨{ w with heap := w.heap.setIfInBounds b (.map (es.modify j fun e => { e with key := .int .i64 k,val := v }) cl) },?_,⟨_,_,hset _,?_,fun k' => ?_⟩,hgr _,by simp⟩
    · simp [Instr.mapUpdate,run_underlying ht,run_getObj_i hb,hck,Instr.findKey,run_underlying hk,hr,he',hek,Instr.keyThatStays,Instr.sameBits,run_setObj_i hb]
    · intro e' he2
      rw [Array.toList_modify] at he2
      obtain ⟨q,hq,rfl⟩ := List.getElem_of_mem he2
      rw [List.getElem_modify]
      split
      · exact ⟨k,rfl⟩
      · exact hke _ (List.getElem_mem _)
    · rw [Array.toList_modify,lookI_modify k k' v es.toList j hke ⟨e,by simpa using he',hek⟩ (fun i e' hi he2 => findNow_first k es.toList 0 j u hke hr i e' (by omega) he2)]
      simp only [hf]
end
end Go.Proofs.YtidacaihmjdmkaaGreat
namespace Go.Proofs.YtidacaihmjdmkaaGreat
open Go.RowKit
structure ByteBlk (w : World) (g : Nat) (l : List UInt8) : Prop where
  cell : ∀ j (h : j < l.length),w.cell? ⟨g,j,none⟩ = some (.int .u8 (l[j].toNat : Int))
  free : ∀ j,j < l.length → w.frozen? ⟨g,j,none⟩ = false
theorem ByteBlk.of_block {w w' : World} {g : Nat} {l : List UInt8} (h : ByteBlk w g l) (hb : w'.heap[g]? = w.heap[g]?) : ByteBlk w' g l :=
  ⟨fun j hj => (World.cell?_of_block (a := ⟨g,j,none⟩) hb).trans (h.cell j hj),fun j hj => (World.frozen?_of_block (a := ⟨g,j,none⟩) hb).trans (h.free j hj)⟩
section
variable {P : Program} (w : World) {ops : Array Oper} {rest : List Oper} {o : Oper} {a : Act} {Q : Exit → Act → World → Prop}
theorem wpList_value (hgd : o.guard = none) {v : Value} {w' : World} (hrun : (execOp a.eval o).run P w = .ok (.value v) w') (h : wpList P ops Q rest (a.put o.dst v) w') : wpList P ops Q (o :: rest) a w :=
  wpList_plain hgd fun _ hK => by
    unfold Oper.wp
    rw [hrun]
    exact hK _ _ h
theorem wpList_copyBytes (hgd : o.guard = none) {dT sT e : TypeId} {d x : Operand} (hop : o.op = .call { callee := .builtin .copy,args := #[d,x],argTypes := #[dT,sT] }) (hu : P.underlying dT = some (.slice e)) (hz : ∀ w,(Go.sizeOf e).run P w = .ok 1 w)
    {g n cap : Nat} {l : List UInt8} {t : ByteArray} (hb : ByteBlk w g l) (hd : a.eval d = .slice (some ⟨g,0,none⟩) n cap) (hx : a.eval x = .string t) (hn : t.size ≤ n) (hl : t.size ≤ l.length)
    (h : ∀ w',ByteBlk w' g (t.data.toList ++ l.drop t.size) → w.grownBy w' (some g) → w'.heap.size = w.heap.size → wpList P ops Q rest (a.put o.dst (goInt t.size)) w') : wpList P ops Q (o :: rest) a w := by
  have hrun := run_copy_string (P := P) w dT sT o.type e g 0 n cap t hu hz hn (fun j hj => by rw [Nat.zero_add,hb.cell j (by omega)];rfl) (fun j hj => by rw [Nat.zero_add];exact hb.free j (by omega))
  have htl : t.data.toList.length = t.size := by rw [Array.length_toList];rfl
  have hlen : (t.data.toList.map fun x => Value.int .u8 (x.toNat : Int)).length = t.size := by rw [List.length_map,htl]
  have hsz : ∀ (vs : List Value) (o : Nat) (w : World),(w.setCells g o vs).heap.size = w.heap.size := by
    intro vs
    induction vs with
    | nil => intro o w;rfl
    | cons v vs ih => intro o w;rw [World.setCells,ih];simp [World.setCell]
  have hkeep : ∀ (vs : List Value) (o : Nat) (w : World),w.grownBy (w.setCells g o vs) (some g) := by
    intro vs
    induction vs with
    | nil => intro o w;exact World.grownBy.refl _ _
    | cons v vs ih =>
      intro o w
      rw [World.setCells]
      exact World.grownBy.trans (b := w.setCell ⟨g,o,none⟩ v) ⟨rfl,rfl,rfl,by simp [World.setCell],fun k _ hk => Below.heap_setCell w ⟨g,o,none⟩ v k (fun e => hk (by rw [e]))⟩ (ih (o + 1) _)
  have hfz : ∀ (vs : List Value) (o : Nat) (w : World) (p : Addr),(w.setCells g o vs).frozen? p = w.frozen? p := by
    intro vs
    induction vs with
    | nil => intro o w p;rfl
    | cons v vs ih => intro o w p;rw [World.setCells,ih];simp
  refine wpList_value w hgd (v := goInt t.size) (w' := w.setCells g 0 (t.data.toList.map fun x => Value.int .u8 (x.toNat : Int))) (by simp only [execOp,hop,resolve,invoke,builtin,Sem.run_bind,Sem.run_pure,Result.andThen_ok,List.map_toArray,List.map_cons,List.map_nil,hd,hx,hrun]) (h _ ⟨fun j hj => ?_,fun j hj => ?_⟩ (hkeep _ _ _) (hsz _ _ _))
  · by_cases hjt : j < t.size
    · have h1 := World.cell?_setCells_in g (t.data.toList.map fun x => Value.int .u8 (x.toNat : Int)) 0 w (fun q hq => by rw [Nat.zero_add,hb.cell q (by omega)];rfl) j (by omega)
      rw [Nat.zero_add] at h1
      rw [h1,List.getElem_append_left (by omega)]
      simp
    · rw [World.cell?_setCells_out g _ 0 w ⟨g,j,none⟩ (fun _ _ => .inr (by rw [hlen];show 0 + t.size ≤ j;omega))]
      rw [hb.cell j (by simp at hj;omega),List.getElem_append_right (by omega)]
      simp [show t.size + (j - t.size) = j by omega,htl]
  · rw [hfz];exact hb.free j (by simp at hj;omega)
theorem run_toString {src dst e : TypeId} (hs : P.underlying src = some (.slice e)) (he : P.underlying e = some (.int .u8)) (hd : P.underlying dst = some .string) {g n cap : Nat} {l : List UInt8} (hb : ByteBlk w g l) (hn : n = l.length) :
    (convert src dst (.slice (some ⟨g,0,none⟩) n cap)).run P w = .ok (.string ⟨l.toArray⟩) w := by
  subst hn
  exact run_convert_bytes_back w src dst e ⟨g,0,none⟩ cap l hs he hd fun j hj => by
    have : (Addr.mk g 0 none).add j = ⟨g,j,none⟩ := by unfold Addr.add;split <;> simp_all
    rw [this]
    exact hb.cell j hj
theorem wpList_toString (hgd : o.guard = none) {src dst e : TypeId} {x : Operand} (hop : o.op = .convert src dst x) (hs : P.underlying src = some (.slice e)) (he : P.underlying e = some (.int .u8)) (hd : P.underlying dst = some .string)
    {g n cap : Nat} {l : List UInt8} {t : ByteArray} (hb : ByteBlk w g l) (hn : n = l.length) (ht : (⟨l.toArray⟩ : ByteArray) = t) (hx : a.eval x = .slice (some ⟨g,0,none⟩) n cap) (h : wpList P ops Q rest (a.put o.dst (.string t)) w) : wpList P ops Q (o :: rest) a w := by
  subst ht
  exact wpList_value w hgd (v := .string ⟨l.toArray⟩) (by simp only [execOp,hop,hx,Sem.run_bind,run_toString w hs he hd hb hn,Result.andThen_ok];rfl) h
end
end Go.Proofs.YtidacaihmjdmkaaGreat
