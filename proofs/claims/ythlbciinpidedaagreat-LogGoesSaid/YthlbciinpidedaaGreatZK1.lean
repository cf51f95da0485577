/- What the laws of this seat lean on, part 1. -/
import Derived.Below
import Derived.Laws.OwnMore
import Derived.Deep.AppendLies
import Derived.Deep.Draws
import Derived.Laws.Rows
import Derived.Maps.AppendAt
import Derived.RegionTactic
import Derived.OwnWalk
import Derived.WalkKit
import Derived.ProofKit
import Derived.OpenShut
import Derived.ShutString
import Derived.ChangeOld
import Derived.SizedLaws
import Derived.Deep.Slices
/- Words on memory that the walks of this claim use: a slice that reads as a list; a block that is known whole. No program in sight. -/
namespace Go.Proofs.YthlbciinpidedaaGreat
set_option linter.unusedSimpArgs false
set_option linter.unusedVariables false
set_option maxRecDepth 100000
open Go.RowKit

theorem block_of_add (a : Addr) (n : Nat) : (a.add n).block = a.block := by unfold Addr.add; split <;> rfl
theorem add_of_add (a : Addr) (i j : Nat) : (a.add i).add j = a.add (i + j) := by
  unfold Addr.add
  by_cases hi : i = 0 <;> by_cases hj : j = 0 <;> simp [hi, hj, Nat.add_assoc]

def Reads (w : World) (B size : Nat) (A : Option Addr) (n : Nat) (xs : List Value) : Prop :=
  xs.length = n * size ∧ (0 < n → ∃ ad, A = some ad ∧ ad.block < B ∧ ∀ j u, xs[j]? = some u → w.cell? (ad.add j) = some u)

section
variable {w w' : World} {B B' size n : Nat} {A : Option Addr} {xs : List Value}
theorem Reads.none_ : Reads w B size A 0 [] := ⟨by simp, fun h => absurd h (by omega)⟩
theorem Reads.at_ {k : Nat} (h : Reads w B 1 A n xs) (hk : k < n) : ∃ ad u, A = some ad ∧ ad.block < B ∧ xs[k]? = some u ∧ w.cell? (ad.add k) = some u := by
  obtain ⟨ad, e, hb, hc⟩ := h.2 (by omega)
  have hl : k < xs.length := by have := h.1; omega
  exact ⟨ad, xs[k], e, hb, List.getElem?_eq_getElem hl, hc k _ (List.getElem?_eq_getElem hl)⟩
theorem Reads.keep (h : Reads w B size A n xs) (hk : ∀ p : Addr, p.block < B → w'.cell? p = w.cell? p) : Reads w' B size A n xs :=
  ⟨h.1, fun hn => by
    obtain ⟨ad, e, hb, hc⟩ := h.2 hn
    exact ⟨ad, e, hb, fun j u hu => (hk _ (by rw [block_of_add]; exact hb)).trans (hc j u hu)⟩⟩
theorem Reads.more (h : Reads w B size A n xs) (hB : B ≤ B') : Reads w B' size A n xs :=
  ⟨h.1, fun hn => by
    obtain ⟨ad, e, hb, hc⟩ := h.2 hn
    exact ⟨ad, e, by omega, hc⟩⟩
theorem Reads.below (h : Reads w B size A n xs) (hb : Below B w w') : Reads w' B size A n xs := h.keep fun _ hp => hb.cell hp
theorem Reads.drew (h : Reads w B size A n xs) : Reads w.drew B size A n xs := h
theorem Reads.drewN (h : Reads w B size A n xs) (k : Nat) : Reads (w.drewN k) B size A n xs := h
theorem Reads.alloc (h : Reads w B size A n xs) (hB : B ≤ w.heap.size) (o : Obj) : Reads (w.alloc o) B size A n xs := h.keep fun p hp => World.cell?_alloc_lt w o p (by omega)
theorem Reads.setCell (h : Reads w B size A n xs) {p : Addr} (hB : B ≤ p.block) (u : Value) : Reads (w.setCell p u) B size A n xs :=
  h.keep fun q hq => World.cell?_setCell_other w p q u (fun e => by subst e; omega)
theorem Reads.grown (h : Reads w B size A n xs) {row : Option Nat} (hg : w.grownBy w' row) (hB : B ≤ w.heap.size) (hr : ∀ g, row = some g → B ≤ g) : Reads w' B size A n xs :=
  h.keep fun p hp => World.cell?_of_block (hg.block p.block (by omega) (fun e => by have := hr _ e.symm; omega))
theorem Reads.cut (h : Reads w B size A n xs) {k cap : Nat} (hk : k ≤ n) (hc : n ≤ cap) :
    Reads w B size (if cap = k then A else A.map (·.add (k * size))) (n - k) (xs.drop (k * size)) := by
  refine ⟨by rw [List.length_drop, h.1, Nat.sub_mul], fun hn => ?_⟩
  obtain ⟨ad, rfl, hb, hcell⟩ := h.2 (by omega)
  rw [if_neg (by omega)]
  refine ⟨ad.add (k * size), rfl, by rw [block_of_add]; exact hb, fun j u hu => ?_⟩
  rw [add_of_add]
  exact hcell _ u (by rw [← hu, List.getElem?_drop])
theorem Reads.of_own {base : Nat} {e : TypeId} {c : Nat} (h : w.ownsRow base e size (.slice A n c) n xs) : Reads w w.heap.size size A n xs := by
  refine ⟨h.1, fun hn => ?_⟩
  obtain ⟨g, cap, hv, _, hlt⟩ := h.form hn
  have hA : A = some ⟨g, 0, none⟩ := by injection hv
  subst hA
  exact ⟨_, rfl, hlt, h.cells (g := g) rfl⟩
end

def Blk (w : World) (g : Nat) (t : TypeId) (cs : Array Value) : Prop := w.heap[g]? = some (.cells cs t (0, 0))

section
variable {w w' : World} {g : Nat} {t : TypeId} {cs : Array Value}
theorem Blk.lt (h : Blk w g t cs) : g < w.heap.size := by
  rcases Nat.lt_or_ge g w.heap.size with hlt | hge
  · exact hlt
  · unfold Blk at h; rw [Array.getElem?_eq_none hge] at h; cases h
theorem Blk.cell (h : Blk w g t cs) (i : Nat) : w.cell? ⟨g, i, none⟩ = cs[i]? := cell_of_row w g i cs t (0, 0) h
theorem Blk.frozen (h : Blk w g t cs) (i : Nat) : w.frozen? ⟨g, i, none⟩ = false := by
  unfold Blk at h
  simp [World.frozen?, h]
theorem Blk.new (w : World) (t : TypeId) (cs : Array Value) : Blk (w.alloc (.cells cs t)) w.heap.size t cs := heap_alloc_new w _
theorem Blk.drew (h : Blk w g t cs) : Blk w.drew g t cs := h
theorem Blk.drewN (h : Blk w g t cs) (n : Nat) : Blk (w.drewN n) g t cs := h
theorem Blk.alloc (h : Blk w g t cs) (o : Obj) : Blk (w.alloc o) g t cs := (Below.heap_alloc w o g h.lt).trans h
theorem Blk.set_ (h : Blk w g t cs) (i : Nat) (u : Value) : Blk (w.setCell ⟨g, i, none⟩ u) g t (cs.setIfInBounds i u) := by
  unfold Blk at h ⊢
  simp [World.setCell, Array.getElem?_modify, h]
theorem Blk.far (h : Blk w g t cs) {p : Addr} (hp : g ≠ p.block) (u : Value) : Blk (w.setCell p u) g t cs := (Below.heap_setCell w p u g hp).trans h
theorem Blk.below {B : Nat} (h : Blk w g t cs) (hb : Below B w w') (hg : g < B) : Blk w' g t cs := (hb.block g hg).trans h
theorem Blk.grown {row : Option Nat} (h : Blk w g t cs) (hb : w.grownBy w' row) (hg : some g ≠ row) : Blk w' g t cs := (hb.block g h.lt hg).trans h
theorem Blk.ne_ {g' : Nat} {t' : TypeId} {cs' : Array Value} (h : Blk w g t cs) (h' : Blk w g' t' cs') (hne : t ≠ t') : g ≠ g' := by
  rintro rfl
  unfold Blk at h h'
  rw [h] at h'
  injection h' with h'
  injection h' with _ ht
  exact hne ht
theorem own_blk_ne {base : Nat} {e : TypeId} {size n : Nat} {v : Value} {xs : List Value} (h : w.ownsRow base e size v n xs) (hg : Blk w g t cs) (hne : e ≠ t) : v.ownBlock ≠ some g := by
  rcases h.2 with ⟨rfl, _⟩ | ⟨g', cap, cur, rfl, _, hh, _⟩
  · simp [Value.ownBlock]
  · intro he
    have : g' = g := by simpa [Value.ownBlock] using he
    subst this
    exact Blk.ne_ (t := e) hh hg hne rfl
end

section
variable {P : Program} (w : World)

theorem run_append_of_nil (base : Nat) (t ty e : TypeId) (i : TypeInfo) (size : Nat) (ht : P.underlying t = some (.slice e)) (hi : P.info? e = some i)
    (v : Value) (n : Nat) (xs : List Value) (hown : w.ownsRow base e size v n xs) (c : Nat) : (Builtin.append_ #[t, t] ty #[v, .slice none 0 c]).run P w = .ok v w := by
  rcases hown.2 with ⟨rfl, rfl⟩ | ⟨g, cap, cur, rfl, _, _, hnc, _⟩
  · simp [Builtin.append_, run_underlying ht, sizeOf, typeInfo, hi, Builtin.lenOf, Builtin.firstCells]
  · simp [Builtin.append_, run_underlying ht, sizeOf, typeInfo, hi, Builtin.lenOf, Builtin.firstCells, hnc, storeCells]

theorem run_append_any (base : Nat) (t ty e : TypeId) (i : TypeInfo) (z : Value) (size bytes : Nat) (ht : P.underlying t = some (.slice e)) (hi : P.info? e = some i) (hz : i.zero = some z)
    (hsize : i.size = size) (hby : i.bytes = bytes) (hzs : z.cells.size = size) (hsz : 0 < size)
    (v : Value) (n : Nat) (xs : List Value) (hown : w.ownsRow base e size v n xs)
    (B : Nat) (A : Option Addr) (m c : Nat) (news : List Value) (hr : Reads w B size A m news) (h1 : ∀ u ∈ news, u.oneCell' = true)
    (h63 : n + m ≤ maxLen) (hbytes : (n + m) * bytes ≤ 140737488355328) (hbase : base ≤ w.heap.size) :
    ∃ v' w', (Builtin.append_ #[t, t] ty #[v, .slice A m c]).run P w = .ok v' w' ∧ w'.ownsRow base e size v' (n + m) (xs ++ news) ∧ w.grownBy w' v.ownBlock ∧
      (v'.ownBlock = v.ownBlock ∨ v'.ownBlock = some w.heap.size) := by
  rcases A with _ | ad
  · have hm : m = 0 := by
      rcases Nat.eq_zero_or_pos m with h0 | h0
      · exact h0
      · obtain ⟨ad, h, _⟩ := hr.2 h0
        cases h
    subst hm
    have hn : news = [] := List.eq_nil_of_length_eq_zero (by simpa using hr.1)
    subst hn
    exact ⟨v, w, run_append_of_nil w base t ty e i size ht hi v n xs hown c, by simpa using hown, World.grownBy.refl w _, .inl rfl⟩
  · have hcells : ∀ j u, news[j]? = some u → w.cell? (ad.add j) = some u := by
      intro j u hu
      rcases Nat.eq_zero_or_pos m with h0 | h0
      · subst h0
        have hn : news = [] := List.eq_nil_of_length_eq_zero (by simpa using hr.1)
        subst hn
        simp at hu
      · obtain ⟨ad', h, _, hc⟩ := hr.2 h0
        injection h with h
        subst h
        exact hc j u hu
    obtain ⟨v', w', hrun, h2, h3, _, h5⟩ := run_append_own_at (P := P) w base t ty e i z size bytes ht hi hz hsize hby hzs hsz v n xs hown ad m c news hr.1 hcells h1 h63 hbytes hbase
    exact ⟨v', w', hrun, h2, h3, h5⟩

theorem wp_append_any {o : Oper} {a : Act} {K : Act → World → Prop} {Q : Exit → Act → World → Prop} (s x : Operand) (t : TypeId)
    (ho : o.op = .call { callee := .builtin .append, args := #[s, x], argTypes := #[t, t] })
    (base : Nat) (e : TypeId) (i : TypeInfo) (z : Value) (size bytes : Nat) (ht : P.underlying t = some (.slice e)) (hi : P.info? e = some i) (hz : i.zero = some z)
    (hsize : i.size = size) (hby : i.bytes = bytes) (hzs : z.cells.size = size) (hsz : 0 < size)
    (v : Value) (n : Nat) (xs : List Value) (hs : a.eval s = v) (hown : w.ownsRow base e size v n xs)
    (B : Nat) (A : Option Addr) (m c : Nat) (news : List Value) (hx : a.eval x = .slice A m c) (hr : Reads w B size A m news) (h1 : ∀ u ∈ news, u.oneCell' = true)
    (h63 : n + m ≤ maxLen) (hbytes : (n + m) * bytes ≤ 140737488355328) (hbase : base ≤ w.heap.size)
    (h : ∀ v' w', w'.ownsRow base e size v' (n + m) (xs ++ news) → w.grownBy w' v.ownBlock → (v'.ownBlock = v.ownBlock ∨ v'.ownBlock = some w.heap.size) → K (a.put o.dst v') w') : o.wp P a w K Q := by
  obtain ⟨v', w', hrun, h2, h3, h4⟩ := run_append_any (P := P) w base t o.type e i z size bytes ht hi hz hsize hby hzs hsz v n xs hown B A m c news hr h1 h63 hbytes hbase
  unfold Oper.wp execOp
  simp only [ho, resolve, invoke, builtin, Sem.run_bind, Sem.run_pure, Result.andThen_ok, List.map_toArray, List.map_cons, List.map_nil, hs, hx, hrun]
  exact h v' w' h2 h3 h4

theorem wpList_append_any {ops : Array Oper} {rest : List Oper} {o : Oper} {a : Act} {Q : Exit → Act → World → Prop} (hgd : o.guard = none) (s x : Operand) (t : TypeId)
    (ho : o.op = .call { callee := .builtin .append, args := #[s, x], argTypes := #[t, t] })
    (base : Nat) (e : TypeId) (i : TypeInfo) (z : Value) (size bytes : Nat) (ht : P.underlying t = some (.slice e)) (hi : P.info? e = some i) (hz : i.zero = some z)
    (hsize : i.size = size) (hby : i.bytes = bytes) (hzs : z.cells.size = size) (hsz : 0 < size)
    (v : Value) (n : Nat) (xs : List Value) (hs : a.eval s = v) (hown : w.ownsRow base e size v n xs)
    (B : Nat) (A : Option Addr) (m c : Nat) (news : List Value) (hx : a.eval x = .slice A m c) (hr : Reads w B size A m news) (h1 : ∀ u ∈ news, u.oneCell' = true)
    (h63 : n + m ≤ maxLen) (hbytes : (n + m) * bytes ≤ 140737488355328) (hbase : base ≤ w.heap.size)
    (h : ∀ v' w', w'.ownsRow base e size v' (n + m) (xs ++ news) → w.grownBy w' v.ownBlock → (v'.ownBlock = v.ownBlock ∨ v'.ownBlock = some w.heap.size) → wpList P ops Q rest (a.put o.dst v') w') : wpList P ops Q (o :: rest) a w :=
  wpList_plain hgd fun _ hK => wp_append_any w s x t ho base e i z size bytes ht hi hz hsize hby hzs hsz v n xs hs hown B A m c news hx hr h1 h63 hbytes hbase fun v' w' h2 h3 h4 => hK _ _ (h v' w' h2 h3 h4)

theorem step_append_any {ops : Array Oper} {o : Oper} {a : Act} {K : Act → World → Prop} {Q : Exit → Act → World → Prop} {E : Prop} (hgd : o.guard = none) (s x : Operand) (t : TypeId)
    (ho : o.op = .call { callee := .builtin .append, args := #[s, x], argTypes := #[t, t] })
    (base : Nat) (e : TypeId) (i : TypeInfo) (z : Value) (size bytes : Nat) (ht : P.underlying t = some (.slice e)) (hi : P.info? e = some i) (hz : i.zero = some z)
    (hsize : i.size = size) (hby : i.bytes = bytes) (hzs : z.cells.size = size) (hsz : 0 < size)
    (v : Value) (n : Nat) (xs : List Value) (hs : a.eval s = v) (hown : w.ownsRow base e size v n xs)
    (B : Nat) (A : Option Addr) (m c : Nat) (news : List Value) (hx : a.eval x = .slice A m c) (hr : Reads w B size A m news) (h1 : ∀ u ∈ news, u.oneCell' = true)
    (h63 : n + m ≤ maxLen) (hbytes : (n + m) * bytes ≤ 140737488355328) (hbase : base ≤ w.heap.size)
    (h : ∀ v' w', w'.ownsRow base e size v' (n + m) (xs ++ news) → w.grownBy w' v.ownBlock → (v'.ownBlock = v.ownBlock ∨ v'.ownBlock = some w.heap.size) → K (a.put o.dst v') w') :
    if Region.wanted o (yielded ops a.tmps) = true then Oper.wp P o a w K Q else E := by
  have hw : Region.wanted o (yielded ops a.tmps) = true := by simp [Region.wanted, hgd]
  rw [if_pos hw]
  exact wp_append_any w s x t ho base e i z size bytes ht hi hz hsize hby hzs hsz v n xs hs hown B A m c news hx hr h1 h63 hbytes hbase h
end

/-- min and max as single words, so that a walk does not part at them. -/
def mx (x y : Int) : Int := if x < y then y else x
def mn (x y : Int) : Int := if y < x then y else x
theorem run_mx (P : Program) (w : World) (ts : Array TypeId) (t : TypeId) (k k' : IntKind) (x y : Int) : (Builtin.max_ ts t #[.int k x, .int k' y]).run P w = .ok (.int k (mx x y)) w := by
  rw [run_max_int2]; rfl
theorem run_mn (P : Program) (w : World) (ts : Array TypeId) (t : TypeId) (k k' : IntKind) (x y : Int) : (Builtin.min_ ts t #[.int k x, .int k' y]).run P w = .ok (.int k (mn x y)) w := by
  rw [run_min_int2]; rfl
theorem mx_def (x y : Int) : mx x y = max x y := by unfold mx; omega
theorem mn_def (x y : Int) : mn x y = min x y := by unfold mn; omega

/-- Below B w w1: old cells and marks read as before. -/
theorem bcell {W w1 : World} {B : Nat} (hb : Below B W w1) : (∀ b o, b < B → w1.cell? ⟨b, o, none⟩ = W.cell? ⟨b, o, none⟩) ∧ (∀ b o, b < B → w1.frozen? ⟨b, o, none⟩ = W.frozen? ⟨b, o, none⟩) :=
  ⟨fun b o h => hb.cell (p := ⟨b, o, none⟩) h, fun b o h => hb.frozen (p := ⟨b, o, none⟩) h⟩
theorem ret_int {k : IntKind} {a b : Int} (h : a = b) : Ending.returned (.int k a) = .returned (.int k b) := by rw [h]
theorem below_drewN {B : Nat} {a w : World} (h : Below B a w) (n : Nat) : Below B a (w.drewN n) := ⟨h.os, h.tape, h.output, h.size, h.block⟩
theorem only_drew_l {a w : World} {row : Option Nat} (h : a.grownBy w row) : a.grownBy w.drew row := ⟨h.os, h.tape, h.output, h.size, h.block⟩
/-- 'v = append(v, u)' of one value of one cell, v a row of the call's own. -/
theorem wpList_app1 {P : Program} (w : World) {ops : Array Oper} {rest : List Oper} {o : Oper} {a : Act} {Q : Exit → Act → World → Prop} (hgd : o.guard = none) (s x : Operand) (t : TypeId)
    (ho : o.op = .call { callee := .builtin .append, args := #[s, x], argTypes := #[t, t] })
    (base : Nat) (e : TypeId) {i : TypeInfo} {z : Value} {bytes : Nat} (ht : P.underlying t = some (.slice e)) (hi : P.info? e = some i) (hz : i.zero = some z)
    (hsize : i.size = 1) (hby : i.bytes = bytes) (hzs : z.cells.size = 1)
    {v : Value} {n : Nat} {xs : List Value} {u : Value} (hown : w.ownsRow base e 1 v n xs) (hs : a.eval s = v) (hx : a.eval x = .slice (some ⟨w.heap.size, 0, none⟩) 1 1) (h1 : u.oneCell' = true)
    (h63 : n + 1 ≤ maxLen) (hbytes : (n + 1) * bytes ≤ 140737488355328) (hbase : base ≤ w.heap.size)
    (h : ∀ v' w', w'.ownsRow base e 1 v' (n + 1) (xs ++ [u]) → w.grownBy w' v.ownBlock → (v'.ownBlock = v.ownBlock ∨ v'.ownBlock = some (w.heap.size + 1)) → wpList P ops Q rest (a.put o.dst v') w') : wpList P ops Q (o :: rest) a (w.alloc (.cells #[u] e)) :=
  wpList_append_any _ hgd s x t ho base e i z 1 bytes ht hi hz hsize hby hzs (by omega) v n xs hs (hown.alloc _) (w.heap.size + 1) (some ⟨w.heap.size, 0, none⟩) 1 1 [u] hx
    ⟨rfl, fun _ => ⟨_, rfl, by simp, cell_one_new _ _ _⟩⟩ (by simpa using h1) h63 hbytes (by simp; omega)
    fun v' w' h2 h3 h4 => h v' w' h2 ((World.grownBy_alloc w _ _).trans h3) (by simpa using h4)

theorem ownsRow_below {w w' : World} {base B : Nat} {e : TypeId} {size n : Nat} {v : Value} {xs : List Value} (h : w.ownsRow base e size v n xs) (hb : Below B w w') (hB : w.heap.size ≤ B) : w'.ownsRow base e size v n xs := by
  refine ⟨h.1, ?_⟩
  have hlt := h.lt
  rcases h.2 with h2 | ⟨g, cap, cur, hv, hg, hh, r⟩
  · exact .inl h2
  · refine .inr ⟨g, cap, cur, hv, hg, ?_, r⟩
    have := (hlt g (by rw [hv]; rfl)).2
    rw [hb.block g (by omega)]; exact hh

/-- Two rows of the call's own, in unlike blocks. -/
structure Two (w : World) (base : Nat) (e : TypeId) (va : Value) (na : Nat) (xs : List Value) (vb : Value) (nb : Nat) (ys : List Value) : Prop where
  a : w.ownsRow base e 1 va na xs
  b : w.ownsRow base e 1 vb nb ys
  ne : ∀ k, va.ownBlock = some k → vb.ownBlock ≠ some k
theorem Two.grow_a {w w' : World} {base : Nat} {e : TypeId} {va va' vb : Value} {na na' nb : Nat} {xs xs' ys : List Value} (h : Two w base e va na xs vb nb ys) (ha : w'.ownsRow base e 1 va' na' xs')
    (hg : w.grownBy w' va.ownBlock) (hn : va'.ownBlock = va.ownBlock ∨ ∃ q, w.heap.size ≤ q ∧ va'.ownBlock = some q) : Two w' base e va' na' xs' vb nb ys := by
  refine ⟨ha, h.b.kept hg ?_, fun k hk => ?_⟩
  · cases hvb : vb.ownBlock with
    | none => exact .inl rfl
    | some k => refine .inr fun e => h.ne k e.symm hvb
  · rcases hn with hn | ⟨q, hq, hn⟩
    · rw [hn] at hk; exact h.ne k hk
    · intro hb
      have := (h.b.lt k hb).2
      rw [hn] at hk; cases hk; omega
theorem Two.swap {w : World} {base : Nat} {e : TypeId} {va vb : Value} {na nb : Nat} {xs ys : List Value} (h : Two w base e va na xs vb nb ys) : Two w base e vb nb ys va na xs :=
  ⟨h.b, h.a, fun k hb ha => h.ne k ha hb⟩
theorem Two.grow_b {w w' : World} {base : Nat} {e : TypeId} {va vb' vb : Value} {na nb' nb : Nat} {xs ys' ys : List Value} (h : Two w base e va na xs vb nb ys) (hb : w'.ownsRow base e 1 vb' nb' ys')
    (hg : w.grownBy w' vb.ownBlock) (hn : vb'.ownBlock = vb.ownBlock ∨ ∃ q, w.heap.size ≤ q ∧ vb'.ownBlock = some q) : Two w' base e va na xs vb' nb' ys' := (h.swap.grow_a hb hg hn).swap
theorem Two.below {w w' : World} {base B : Nat} {e : TypeId} {va vb : Value} {na nb : Nat} {xs ys : List Value} (h : Two w base e va na xs vb nb ys) (hb : Below B w w') (hB : w.heap.size ≤ B) : Two w' base e va na xs vb nb ys :=
  ⟨ownsRow_below h.a hb hB, ownsRow_below h.b hb hB, h.ne⟩

theorem Two.kept {w w' : World} {base : Nat} {e : TypeId} {va vb : Value} {na nb : Nat} {xs ys : List Value} {row : Option Nat} (h : Two w base e va na xs vb nb ys) (hg : w.grownBy w' row) (hr : ∀ q, row = some q → q < base) : Two w' base e va na xs vb nb ys := by
  refine ⟨h.a.kept hg ?_, h.b.kept hg ?_, h.ne⟩
  · cases hv : va.ownBlock with
    | none => exact .inl rfl
    | some k => exact .inr fun e => by have := (h.a.lt k hv).1; have := hr k e.symm; omega
  · cases hv : vb.ownBlock with
    | none => exact .inl rfl
    | some k => exact .inr fun e => by have := (h.b.lt k hv).1; have := hr k e.symm; omega

/-- Three rows of the call's own, in unlike blocks. -/
structure Three (w : World) (base : Nat) (e : TypeId) (va : Value) (na : Nat) (xs : List Value) (vb : Value) (nb : Nat) (ys : List Value) (vc : Value) (nc : Nat) (zs : List Value) : Prop where
  ab : Two w base e va na xs vb nb ys
  ac : Two w base e va na xs vc nc zs
  bc : Two w base e vb nb ys vc nc zs
section
variable {w w' : World} {base B : Nat} {e : TypeId} {va vb vc v' : Value} {na nb nc n' : Nat} {xs ys zs xs' : List Value}
theorem Two.apart {row : Option Nat} (h : Two w base e va na xs vb nb ys) (hg : w.grownBy w' row) (ha : va.ownBlock = none ∨ va.ownBlock ≠ row) (hb : vb.ownBlock = none ∨ vb.ownBlock ≠ row) : Two w' base e va na xs vb nb ys :=
  ⟨h.a.kept hg ha, h.b.kept hg hb, h.ne⟩
theorem Two.ne_b (h : Two w base e va na xs vb nb ys) : vb.ownBlock = none ∨ vb.ownBlock ≠ va.ownBlock := by
  cases hv : vb.ownBlock with
  | none => exact .inl rfl
  | some k => exact .inr fun e => h.ne k e.symm hv
theorem Two.ne_a (h : Two w base e va na xs vb nb ys) : va.ownBlock = none ∨ va.ownBlock ≠ vb.ownBlock := h.swap.ne_b
theorem Three.grow_a (h : Three w base e va na xs vb nb ys vc nc zs) (ha : w'.ownsRow base e 1 v' n' xs') (hg : w.grownBy w' va.ownBlock) (hn : v'.ownBlock = va.ownBlock ∨ ∃ q, w.heap.size ≤ q ∧ v'.ownBlock = some q) :
    Three w' base e v' n' xs' vb nb ys vc nc zs := ⟨h.ab.grow_a ha hg hn, h.ac.grow_a ha hg hn, h.bc.apart hg h.ab.ne_b h.ac.ne_b⟩
theorem Three.grow_b (h : Three w base e va na xs vb nb ys vc nc zs) (ha : w'.ownsRow base e 1 v' n' xs') (hg : w.grownBy w' vb.ownBlock) (hn : v'.ownBlock = vb.ownBlock ∨ ∃ q, w.heap.size ≤ q ∧ v'.ownBlock = some q) :
    Three w' base e va na xs v' n' xs' vc nc zs := ⟨h.ab.grow_b ha hg hn, h.ac.apart hg h.ab.ne_a h.bc.ne_b, h.bc.grow_a ha hg hn⟩
theorem Three.grow_c (h : Three w base e va na xs vb nb ys vc nc zs) (ha : w'.ownsRow base e 1 v' n' xs') (hg : w.grownBy w' vc.ownBlock) (hn : v'.ownBlock = vc.ownBlock ∨ ∃ q, w.heap.size ≤ q ∧ v'.ownBlock = some q) :
    Three w' base e va na xs vb nb ys v' n' xs' := ⟨h.ab.apart hg h.ac.ne_a h.bc.ne_a, h.ac.grow_b ha hg hn, h.bc.grow_b ha hg hn⟩
theorem Three.below (h : Three w base e va na xs vb nb ys vc nc zs) (hb : Below B w w') (hB : w.heap.size ≤ B) : Three w' base e va na xs vb nb ys vc nc zs := ⟨h.ab.below hb hB, h.ac.below hb hB, h.bc.below hb hB⟩
end

/-- The same append as a step of a region that draws its order. -/
theorem step_app1 {P : Program} (w : World) {ops : Array Oper} {o : Oper} {a : Act} {K : Act → World → Prop} {Q : Exit → Act → World → Prop} {E : Prop} (hgd : o.guard = none) (s x : Operand) (t : TypeId)
    (ho : o.op = .call { callee := .builtin .append, args := #[s, x], argTypes := #[t, t] })
    (base : Nat) (e : TypeId) {i : TypeInfo} {z : Value} {bytes : Nat} (ht : P.underlying t = some (.slice e)) (hi : P.info? e = some i) (hz : i.zero = some z)
    (hsize : i.size = 1) (hby : i.bytes = bytes) (hzs : z.cells.size = 1)
    {v : Value} {n : Nat} {xs : List Value} {u : Value} (hown : w.ownsRow base e 1 v n xs) (hs : a.eval s = v) (hx : a.eval x = .slice (some ⟨w.heap.size, 0, none⟩) 1 1) (h1 : u.oneCell' = true)
    (h63 : n + 1 ≤ maxLen) (hbytes : (n + 1) * bytes ≤ 140737488355328) (hbase : base ≤ w.heap.size)
    (h : ∀ v' w', w'.ownsRow base e 1 v' (n + 1) (xs ++ [u]) → w.grownBy w' v.ownBlock → (v'.ownBlock = v.ownBlock ∨ v'.ownBlock = some (w.heap.size + 1)) → K (a.put o.dst v') w') :
    if Region.wanted o (yielded ops a.tmps) = true then Oper.wp P o a (w.alloc (.cells #[u] e)).drew K Q else E :=
  step_append_any _ hgd s x t ho base e i z 1 bytes ht hi hz hsize hby hzs (by omega) v n xs hs ((hown.alloc _).drew) (w.heap.size + 1) (some ⟨w.heap.size, 0, none⟩) 1 1 [u] hx
    ⟨rfl, fun _ => ⟨_, rfl, by simp, cell_one_new _ _ _⟩⟩ (by simpa using h1) h63 hbytes (by simp; omega)
    fun v' w' h2 h3 h4 => h v' w' h2 ((only_drew_l (World.grownBy_alloc w (.cells #[u] e) _)).trans h3) (by simpa using h4)

theorem own_slice {w : World} {base : Nat} {e : TypeId} {v : Value} {n : Nat} {xs : List Value} (h : w.ownsRow base e 1 v n xs) : ∃ A c, v = .slice A n c ∧ Reads w w.heap.size 1 A n xs := by
  rcases h.2 with ⟨e, e0⟩ | ⟨g, cap, cur, e, _⟩
  · refine ⟨none, 0, by rw [e, e0], ?_⟩
    have hl := h.1
    subst e0
    obtain rfl : xs = [] := List.eq_nil_of_length_eq_zero (by simpa using hl)
    exact Reads.none_
  · subst e
    exact ⟨_, _, rfl, Reads.of_own h⟩

theorem Blk.readsN {w : World} {g B size : Nat} {t : TypeId} {cs : Array Value} (h : Blk w g t cs) (hB : g < B) {m : Nat} (hm : cs.size = m * size) : Reads w B size (some ⟨g, 0, none⟩) m cs.toList := by
  refine ⟨by simpa using hm, fun _ => ⟨_, rfl, hB, fun j u hu => ?_⟩⟩
  have : (Addr.mk g 0 none).add j = ⟨g, j, none⟩ := by unfold Addr.add; split <;> simp_all
  rw [this, h.cell]
  simpa using hu
theorem lt_of_cell {w : World} {a : Addr} {v : Value} (h : w.cell? a = some v) : a.block < w.heap.size := by
  rcases Nat.lt_or_ge a.block w.heap.size with hlt | hge
  · exact hlt
  · exfalso
    unfold World.cell? at h
    rw [Array.getElem?_eq_none hge] at h
    cases h

/-- A cell behind another one, as the walk spells a field's or an array's next place. -/
theorem cell_off {w : World} {a : Addr} {j : Nat} {u : Value} (h : w.cell? (a.add j) = some u) : w.cell? ⟨a.block, a.off + j, none⟩ = some u := by
  have hs : (a.add j).spot = none := by
    unfold World.cell? at h
    split at h
    · cases hq : (a.add j).spot with
      | none => rfl
      | some q => rw [hq] at h; simp at h
    · cases h
  have : a.add j = ⟨a.block, a.off + j, none⟩ := by
    unfold Addr.add at hs ⊢
    split
    · rename_i h0
      rw [if_pos h0] at hs
      subst h0
      cases a
      simp at hs ⊢
      exact hs
    · rfl
  rwa [this] at h

theorem getElem?_flatMap_row {α β : Type} (f : α → List β) (ce : Nat) (hce : 0 < ce) (hf : ∀ x, (f x).length = ce) : ∀ (xs : List α) (j : Nat), (xs.flatMap f)[j]? = (xs[j / ce]?).bind fun x => (f x)[j % ce]?
  | [], j => by simp
  | x :: xs, j => by
    rw [List.flatMap_cons, List.getElem?_append, hf]
    split
    · rename_i h
      rw [Nat.div_eq_of_lt h, Nat.mod_eq_of_lt h]; simp
    · rename_i h
      rw [getElem?_flatMap_row f ce hce hf xs (j - ce), Nat.div_eq_sub_div (a := j) hce (by omega), Nat.mod_eq_sub_mod (a := j) (by omega), List.getElem?_cons_succ]

theorem own_slice2 {w : World} {base : Nat} {e : TypeId} {size : Nat} {v : Value} {n : Nat} {xs : List Value} (h : w.ownsRow base e size v n xs) : ∃ A c, v = .slice A n c ∧ Reads w w.heap.size size A n xs := by
  rcases h.2 with ⟨e, e0⟩ | ⟨g, cap, cur, e, _⟩
  · refine ⟨none, 0, by rw [e, e0], ?_⟩
    have hl := h.1
    subst e0
    obtain rfl : xs = [] := List.eq_nil_of_length_eq_zero (by simpa using hl)
    exact Reads.none_
  · subst e
    exact ⟨_, _, rfl, Reads.of_own h⟩

theorem Blk.reads {w : World} {g B : Nat} {t : TypeId} {cs : Array Value} (h : Blk w g t cs) (hB : g < B) : Reads w B 1 (some ⟨g, 0, none⟩) cs.size cs.toList := by
  refine ⟨by simp, fun _ => ⟨_, rfl, hB, fun j u hu => ?_⟩⟩
  have : (Addr.mk g 0 none).add j = ⟨g, j, none⟩ := by unfold Addr.add; split <;> simp_all
  rw [this, h.cell]
  simpa using hu
end Go.Proofs.YthlbciinpidedaaGreat
/- How the arguments of a law are opened for its walk. No program in sight. -/
namespace Go.Proofs.YthlbciinpidedaaGreat
set_option linter.unusedSimpArgs false
set_option linter.unusedVariables false
set_option maxRecDepth 100000
open Go.ChangeShapes Go.WideShapes Go.ChangeAt Go.RowKit Go.Deep

/-- A slice of whole numbers, as a law is handed it. -/
structure IsInts (k : IntKind) (bytes : Nat) (w : World) (A : Option Addr) (n c : Nat) (xs : List Int) : Prop where
  reads : Reads w w.heap.size 1 A n (xs.map (Value.int k))
  len : xs.length = n
  wf : ∀ x ∈ xs, (Lit.int k x).wf = true
  le : n ≤ c
  cap : c ≤ maxLen
  size : n * bytes ≤ 140737488351232

section
variable {b0 : Nat} {H : Type} {enc : TypeId × Value → H} {P : Program} {W : World}
theorem opened_ints {t e : TypeId} {k : IntKind} {v : Value} {d : DataW H} {ps : List MemPlace} {ts : List TypeId} {ds : List (DataW H)} {j : Nat} {bytes : Nat}
    (hu : P.underlying t = some (.slice e)) (he : P.underlying e = some (.int k)) (hc : P.cellsOf e = 1) (hB : P.bytesOf e = bytes)
    (hv : Value.okWide P W .any b0 t v) (h : DataW.Trod enc P W 0 (fun _ => true) true t v d ps)
    (hsz : (DataW.weightsEach P ts ds).all (· ≤ reachBytes) = true) (ht : ts[j]? = some t) (hd : ds[j]? = some d) :
    ∃ A n c xs, v = .slice A n c ∧ IsInts k bytes W A n c xs := by
  obtain ⟨A, n, c, rfl⟩ := okWide_slice hu hv
  obtain ⟨fuel, hf⟩ := h
  rcases open_ints hu he hc hf with ⟨hcs, _⟩ | ⟨x, l, c', zs, hcs, _, hl, hm, hz, hx, hcell, hwz⟩
  · simp [Value.cells] at hcs
    obtain ⟨rfl, rfl, rfl⟩ := hcs
    exact ⟨_, _, _, [], rfl, ⟨Reads.none_, rfl, by simp, Nat.le_refl _, by simp [maxLen], by simp⟩⟩
  · simp [Value.cells] at hcs
    obtain ⟨rfl, rfl, rfl⟩ := hcs
    simp only [if_true] at hz
    obtain ⟨hx, _⟩ := Prod.mk.inj hx
    subst hx
    have z := sized_slice hsz ht hd hu
    rw [hB] at z
    have h1 : (lits (H := H) k (zs.take n)).length + (lits (H := H) k (zs.drop n)).length = zs.length := by simp [lits]; omega
    rw [h1] at z
    refine ⟨_, _, _, zs.take n, rfl, ⟨⟨by simp; omega, fun hn => ⟨x, rfl, by have := lt_of_cell (hcell 0 (by omega)); rwa [block_of_add] at this, fun j u hu => ?_⟩⟩, by simp; omega, fun x hx => hwz x (List.mem_of_mem_take hx), hl, hm, by have := Nat.mul_le_mul_right bytes (show n ≤ zs.length by omega); unfold reachBytes at z; omega⟩⟩
    rw [List.getElem?_map, List.getElem?_take] at hu
    split at hu
    · have hj : j < zs.length := by omega
      rw [List.getElem?_eq_getElem hj] at hu
      have := hcell j hj
      simp at hu this
      rw [← hu]
      simpa [hj] using this
    · simp at hu

theorem exists_list {α : Type} (n : Nat) (R : Nat → α → Prop) (h : ∀ i, i < n → ∃ x, R i x) : ∃ xs : List α, xs.length = n ∧ ∀ (i : Nat) (x : α), xs[i]? = some x → R i x := by
  induction n with
  | zero => exact ⟨[], rfl, by simp⟩
  | succ n ih =>
    obtain ⟨xs, hl, hx⟩ := ih fun i hi => h i (by omega)
    obtain ⟨y, hy⟩ := h n (by omega)
    refine ⟨xs ++ [y], by simp [hl], fun i x hi => ?_⟩
    rw [List.getElem?_append] at hi
    split at hi
    · exact hx i x hi
    · rename_i hge
      have : i - xs.length = 0 := by
        rcases Nat.eq_zero_or_pos (i - xs.length) with h0 | h0
        · exact h0
        · rw [List.getElem?_eq_none (by simp; omega)] at hi; cases hi
      rw [this] at hi
      simp at hi
      subst hi
      rw [show i = n by omega]
      exact hy

/-- A slice, as a law is handed it, each of its elements told by 'f'. -/
structure IsRows {α : Type} (ce bytes : Nat) (f : α → List Value) (Good : α → Prop) (w : World) (A : Option Addr) (n c : Nat) (xs : List α) : Prop where
  reads : Reads w w.heap.size ce A n (xs.flatMap f)
  len : xs.length = n
  good : ∀ x ∈ xs, Good x
  le : n ≤ c
  cap : c ≤ maxLen
  size : n * bytes ≤ 140737488351232

theorem opened_rows {α : Type} {t e : TypeId} {v : Value} {d : DataW H} {ps : List MemPlace} {ts : List TypeId} {ds : List (DataW H)} {j : Nat} {bytes : Nat} (ce : Nat) (f : α → List Value) (Good : α → Prop)
    (hce : 0 < ce) (hf : ∀ x, (f x).length = ce)
    (hu : P.underlying t = some (.slice e)) (hc : P.cellsOf e = ce) (hB : P.bytesOf e = bytes)
    (helem : ∀ (fuel : Nat) (cs : List Value) (x : DataW H × List MemPlace), DataW.trod enc P W 0 (fun _ => true) true fuel e cs = some x → ∃ a : α, cs = f a ∧ Good a)
    (hv : Value.okWide P W .any b0 t v) (h : DataW.Trod enc P W 0 (fun _ => true) true t v d ps)
    (hsz : (DataW.weightsEach P ts ds).all (· ≤ reachBytes) = true) (ht : ts[j]? = some t) (hd : ds[j]? = some d) :
    ∃ A n c xs, v = .slice A n c ∧ IsRows ce bytes f Good W A n c xs := by
  obtain ⟨A, n, c, rfl⟩ := okWide_slice hu hv
  obtain ⟨fuel, hf'⟩ := h
  rcases open_slice hu hf' with ⟨hcs, _⟩ | ⟨a, l, c', m, k, D, Pl, hcs, _, hl, hm, hmm, hx, hi⟩
  · simp [Value.cells] at hcs
    obtain ⟨rfl, rfl, rfl⟩ := hcs
    exact ⟨_, _, _, [], rfl, ⟨Reads.none_, rfl, by simp, Nat.le_refl _, by simp [maxLen], by simp⟩⟩
  · simp [Value.cells] at hcs
    obtain ⟨rfl, rfl, rfl⟩ := hcs
    simp only [if_true] at hmm
    subst hmm
    obtain ⟨hx, _⟩ := Prod.mk.inj hx
    subst hx
    have z := sized_slice hsz ht hd hu
    rw [hB] at z
    simp only [List.length_map, List.length_range] at z
    have hstep : ∀ i, i < n → ∃ x : α, (∀ q, q < ce → W.cell? ((a.add (i * ce)).add q) = (f x)[q]?) ∧ Good x := by
      intro i hin
      obtain ⟨cs', hcs', htr⟩ := hi i (by omega)
      obtain ⟨_, hlen, hat⟩ := World.cells?_some hcs'
      obtain ⟨x, rfl, hg⟩ := helem _ _ _ htr
      rw [hc] at hat
      exact ⟨x, hat, hg⟩
    obtain ⟨xs, hxl, hxs⟩ := exists_list n _ hstep
    refine ⟨_, _, _, xs, rfl, ⟨⟨?_, fun hn => ⟨a, rfl, ?_, fun q u hq => ?_⟩⟩, hxl, fun x hx => ?_, hl, hm, ?_⟩⟩
    · have : ∀ l : List α, (l.flatMap f).length = l.length * ce := by
        intro l
        induction l with
        | nil => simp
        | cons x l ih => rw [List.flatMap_cons, List.length_append, hf, ih, List.length_cons, Nat.add_mul]; omega
      rw [this, hxl]
    · have h0 : 0 < xs.length := by omega
      obtain ⟨h1, _⟩ := hxs 0 xs[0] (List.getElem?_eq_getElem h0)
      have h2 := h1 0 hce
      have h3 : 0 < (f xs[0]).length := by rw [hf]; exact hce
      rw [List.getElem?_eq_getElem h3] at h2
      have := lt_of_cell h2
      rwa [block_of_add, block_of_add] at this
    · rw [getElem?_flatMap_row f ce hce hf] at hq
      cases hx : xs[q / ce]? with
      | none => rw [hx] at hq; simp at hq
      | some x =>
        rw [hx] at hq
        simp only [Option.bind_some] at hq
        obtain ⟨h1, _⟩ := hxs _ _ hx
        have := h1 (q % ce) (Nat.mod_lt _ hce)
        rw [add_of_add, Nat.div_add_mod'] at this
        rw [this, hq]
    · obtain ⟨i, hi', rfl⟩ := List.getElem_of_mem hx
      exact (hxs i _ (List.getElem?_eq_getElem hi')).2
    · unfold reachBytes at z
      exact Nat.le_trans (Nat.mul_le_mul_right bytes (Nat.le_add_right n _)) z

/-- The cells of element i. -/
theorem IsRows.at_ {α : Type} {ce bytes : Nat} {f : α → List Value} {Good : α → Prop} {A : Option Addr} {n c : Nat} {xs : List α} (h : IsRows ce bytes f Good W A n c xs) (hce : 0 < ce) (hf : ∀ x, (f x).length = ce) {i : Nat} (hi : i < n) :
    ∃ (ad : Addr) (x : α), A = some ad ∧ xs[i]? = some x ∧ Good x ∧ ad.block < W.heap.size ∧ ∀ q, q < ce → W.cell? (ad.add (i * ce + q)) = (f x)[q]? := by
  obtain ⟨ad, e, hb, hc⟩ := h.reads.2 (by omega)
  have hl : i < xs.length := by have := h.len; omega
  refine ⟨ad, xs[i], e, List.getElem?_eq_getElem hl, h.good _ (List.getElem_mem _), hb, fun q hq => ?_⟩
  have h3 : q < (f xs[i]).length := by rw [hf]; exact hq
  rw [List.getElem?_eq_getElem h3]
  refine hc _ _ ?_
  rw [getElem?_flatMap_row f ce hce hf, Nat.add_comm, Nat.add_mul_div_right _ _ hce, Nat.div_eq_of_lt hq, Nat.add_mul_mod_self_right, Nat.mod_eq_of_lt hq]
  simp [hl]

def pairCells (k : IntKind) (p : Int × Int) : List Value := [.int k p.1, .int k p.2]
def GoodPair (k : IntKind) (p : Int × Int) : Prop := (Lit.int k p.1).wf = true ∧ (Lit.int k p.2).wf = true
abbrev IsPairs (k : IntKind) (bytes : Nat) := IsRows 2 bytes (pairCells k) (GoodPair k)
theorem pair_elem {k : IntKind} {e i : TypeId} (he : P.underlying e = some (.array 2 i)) (hi : P.underlying i = some (.int k)) (h2 : P.cellsOf e = 2) (h1 : P.cellsOf i = 1) (fuel : Nat) (cs : List Value) (x : DataW H × List MemPlace)
    (h : DataW.trod enc P W 0 (fun _ => true) true fuel e cs = some x) : ∃ p : Int × Int, cs = pairCells k p ∧ GoodPair k p := by
  obtain ⟨xs, m, _, _, hlen, hxl, hat⟩ := DataW.trod_array he h
  rw [h2] at hlen
  match cs, hlen with
  | [c0, c1], _ =>
    have a0 := hat 0 (by omega)
    have a1 := hat 1 (by omega)
    match xs, hxl with
    | [y0, y1], _ =>
      simp [h1] at a0 a1
      obtain ⟨p, e0, _, w0⟩ := DataW.trod_int hi a0
      obtain ⟨q, e1, _, w1⟩ := DataW.trod_int hi a1
      simp at e0 e1
      exact ⟨(p, q), by simp [pairCells, e0, e1], w0, w1⟩

theorem opened_int {t : TypeId} {k : IntKind} {v : Value} {d : DataW H} {ps : List MemPlace} (hu : P.underlying t = some (.int k))
    (hv : Value.okWide P W .any b0 t v) (h : DataW.Trod enc P W 0 (fun _ => true) true t v d ps) : ∃ a : Int, v = .int k a ∧ (Lit.int k a).wf = true := by
  obtain ⟨a, rfl, _, _, w⟩ := open_int hu hv h
  exact ⟨a, rfl, w⟩
theorem opened_bool {t : TypeId} {v : Value} {d : DataW H} {ps : List MemPlace} (hu : P.underlying t = some .bool)
    (hv : Value.okWide P W .any b0 t v) (h : DataW.Trod enc P W 0 (fun _ => true) true t v d ps) : ∃ a : Bool, v = .bool a := by
  obtain ⟨a, rfl, _, _⟩ := open_bool hu hv h
  exact ⟨a, rfl⟩
theorem opened_str {t : TypeId} {v : Value} {d : DataW H} {ps : List MemPlace} {ts : List TypeId} {ds : List (DataW H)} {j : Nat} (hu : P.underlying t = some .string)
    (hv : Value.okWide P W .any b0 t v) (h : DataW.Trod enc P W 0 (fun _ => true) true t v d ps)
    (hsz : (DataW.weightsEach P ts ds).all (· ≤ reachBytes) = true) (ht : ts[j]? = some t) (hd : ds[j]? = some d) : ∃ s : ByteArray, v = .string s ∧ s.size ≤ 140737488351232 := by
  obtain ⟨a, rfl, rfl, _, y⟩ := Go.ChangeMaps.open_string hu hv h
  refine ⟨a, rfl, ?_⟩
  have z := sized_string hsz ht hd
  rw [Array.length_toList] at z
  exact z

def oneBool (b : Bool) : List Value := [.bool b]
abbrev IsBools := IsRows 1 1 oneBool (fun _ => True)
theorem opened_bools {t e : TypeId} {v : Value} {d : DataW H} {ps : List MemPlace} {ts : List TypeId} {ds : List (DataW H)} {j : Nat}
    (hu : P.underlying t = some (.slice e)) (he : P.underlying e = some .bool) (hc : P.cellsOf e = 1) (hB : P.bytesOf e = 1)
    (hv : Value.okWide P W .any b0 t v) (h : DataW.Trod enc P W 0 (fun _ => true) true t v d ps)
    (hsz : (DataW.weightsEach P ts ds).all (· ≤ reachBytes) = true) (ht : ts[j]? = some t) (hd : ds[j]? = some d) :
    ∃ A n c xs, v = .slice A n c ∧ IsBools W A n c xs :=
  opened_rows 1 oneBool (fun _ => True) (by omega) (fun _ => rfl) hu hc hB (fun fuel cs x h => by
    obtain ⟨b, h1, _⟩ := DataW.trod_bool he h
    exact ⟨b, h1, trivial⟩) hv h hsz ht hd
theorem IsBools.reads_ {w : World} {A : Option Addr} {n c : Nat} {xs : List Bool} (h : IsBools w A n c xs) : Reads w w.heap.size 1 A n (xs.map Value.bool) := by
  have := h.reads
  have e : xs.flatMap oneBool = xs.map Value.bool := by
    clear h this
    induction xs with
    | nil => rfl
    | cons x xs ih => rw [List.flatMap_cons, ih]; rfl
  rwa [e] at this
def oneStr (s : ByteArray) : List Value := [.string s]
abbrev IsStrs := IsRows 1 16 oneStr (fun s => s.size ≤ maxLen)
theorem opened_strs {t e : TypeId} {v : Value} {d : DataW H} {ps : List MemPlace} {ts : List TypeId} {ds : List (DataW H)} {j : Nat}
    (hu : P.underlying t = some (.slice e)) (he : P.underlying e = some .string) (hc : P.cellsOf e = 1) (hB : P.bytesOf e = 16)
    (hv : Value.okWide P W .any b0 t v) (h : DataW.Trod enc P W 0 (fun _ => true) true t v d ps)
    (hsz : (DataW.weightsEach P ts ds).all (· ≤ reachBytes) = true) (ht : ts[j]? = some t) (hd : ds[j]? = some d) :
    ∃ A n c xs, v = .slice A n c ∧ IsStrs W A n c xs :=
  opened_rows 1 oneStr (fun s => s.size ≤ maxLen) (by omega) (fun _ => rfl) hu hc hB (fun fuel cs x h => by
    obtain ⟨b, h1, _, h2⟩ := DataW.trod_string he h
    exact ⟨b, h1, h2⟩) hv h hsz ht hd
theorem IsStrs.reads_ {w : World} {A : Option Addr} {n c : Nat} {xs : List ByteArray} (h : IsStrs w A n c xs) : Reads w w.heap.size 1 A n (xs.map Value.string) := by
  have := h.reads
  have e : xs.flatMap oneStr = xs.map Value.string := by
    clear h this
    induction xs with
    | nil => rfl
    | cons x xs ih => rw [List.flatMap_cons, ih]; rfl
  rwa [e] at this
/-- An array of two, by value. -/
theorem opened_arr2 {t i : TypeId} {k : IntKind} {v : Value} {d : DataW H} {ps : List MemPlace} (hu : P.underlying t = some (.array 2 i)) (hi : P.underlying i = some (.int k)) (h2 : P.cellsOf t = 2) (h1 : P.cellsOf i = 1)
    (hv : Value.okWide P W .any b0 t v) (h : DataW.Trod enc P W 0 (fun _ => true) true t v d ps) : ∃ p : Int × Int, v = .agg #[.int k p.1, .int k p.2] ∧ GoodPair k p := by
  simp only [Value.okWide, hu] at hv
  obtain ⟨cs, rfl, _⟩ := hv
  obtain ⟨fuel, hf⟩ := h
  obtain ⟨p, hp, hg⟩ := pair_elem hu hi h2 h1 fuel _ _ hf
  refine ⟨p, ?_, hg⟩
  have hp : cs.toList = pairCells k p := hp
  rw [← Array.toList_inj.1 (show cs.toList = (#[.int k p.1, .int k p.2] : Array Value).toList from hp)]
end
end Go.Proofs.YthlbciinpidedaaGreat
