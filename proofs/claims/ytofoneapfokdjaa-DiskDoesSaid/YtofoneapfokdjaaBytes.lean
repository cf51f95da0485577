/- Bytes in a block of the call's own: '[]byte(s)', 'copy(b, s)', 'string(b)', each as one step of a walk. No program in sight. -/
import Derived.Test.YtofoneapfokdjaaMaps
import Derived.Lib.LazyBuf
import Derived.Lib.ConvBytes
import Derived.Laws.IdiomCopy
import Derived.Laws.IdiomStrings
namespace Go.Proofs.Ytofoneapfokdjaa
set_option linter.unusedSimpArgs false
set_option linter.unusedVariables false
open Go.RowKit

/-- The first cells of block g are the bytes l, and may be written. -/
structure ByteBlk (w : World) (g : Nat) (l : List UInt8) : Prop where
  cell : ∀ j (h : j < l.length), w.cell? ⟨g, j, none⟩ = some (.int .u8 (l[j].toNat : Int))
  free : ∀ j, j < l.length → w.frozen? ⟨g, j, none⟩ = false

theorem ByteBlk.of_block {w w' : World} {g : Nat} {l : List UInt8} (h : ByteBlk w g l) (hb : w'.heap[g]? = w.heap[g]?) : ByteBlk w' g l :=
  ⟨fun j hj => (World.cell?_of_block (a := ⟨g, j, none⟩) hb).trans (h.cell j hj), fun j hj => (World.frozen?_of_block (a := ⟨g, j, none⟩) hb).trans (h.free j hj)⟩

section
variable {P : Program} (w : World) {ops : Array Oper} {rest : List Oper} {o : Oper} {a : Act} {Q : Exit → Act → World → Prop}

theorem wpList_value (hgd : o.guard = none) {v : Value} {w' : World} (hrun : (execOp a.eval o).run P w = .ok (.value v) w') (h : wpList P ops Q rest (a.put o.dst v) w') : wpList P ops Q (o :: rest) a w :=
  wpList_plain hgd fun _ hK => by
    unfold Oper.wp
    rw [hrun]
    exact hK _ _ h

theorem wpList_toBytes (hgd : o.guard = none) {src dst e : TypeId} {x : Operand} (hop : o.op = .convert src dst x) (hs : P.underlying src = some .string) (hd : P.underlying dst = some (.slice e)) (he : P.underlying e = some (.int .u8))
    {s : ByteArray} (hx : a.eval x = .string s) (h : ∀ cap w', ByteBlk w' w.heap.size s.data.toList → w.grownBy w' none → w'.heap.size = w.heap.size + 1 → wpList P ops Q rest (a.put o.dst (.slice (some ⟨w.heap.size, 0, none⟩) s.size cap)) w') :
    wpList P ops Q (o :: rest) a w := by
  have hrun := run_bytes_of_string (P := P) w src dst e s hs hd he
  refine wpList_value w hgd (v := .slice (some ⟨w.heap.size, 0, none⟩) s.size (grownCap w s.size 0 e)) (by simp only [execOp, hop, hx, Sem.run_bind, hrun, Result.andThen_ok]; rfl) (h _ _ ⟨fun j hj => ?_, fun j hj => ?_⟩ ?_ (by simp))
  · have := World.cell?_alloc_mark w.drew (bytesRow s (grownCap w s.size 0 e)) e ((bytesRow s (grownCap w s.size 0 e)).size, (bytesRow s (grownCap w s.size 0 e)).size + 1) j
    have hj' : j < s.data.size := by simpa using hj
    refine this.trans ?_
    unfold bytesRow
    rw [Array.getElem?_append_left (by simpa using hj')]
    simp
    exact ⟨_, Array.getElem?_eq_getElem hj', rfl⟩
  · have hj' : j < s.data.size := by simpa using hj
    have hbig : j < (bytesRow s (grownCap w s.size 0 e)).size := by unfold bytesRow; rw [Array.size_append, Array.size_map]; omega
    unfold World.frozen?
    have : (w.drew.alloc (.cells (bytesRow s (grownCap w s.size 0 e)) e ((bytesRow s (grownCap w s.size 0 e)).size, (bytesRow s (grownCap w s.size 0 e)).size + 1))).heap[w.heap.size]? = some (.cells (bytesRow s (grownCap w s.size 0 e)) e ((bytesRow s (grownCap w s.size 0 e)).size, (bytesRow s (grownCap w s.size 0 e)).size + 1)) := heap_alloc_new w.drew _
    rw [this]
    simp
    omega
  · exact (only_drew_l (World.grownBy.refl w none)).trans (World.grownBy_alloc w.drew _ none)

theorem wpList_copyBytes (hgd : o.guard = none) {dT sT e : TypeId} {d x : Operand} (hop : o.op = .call { callee := .builtin .copy, args := #[d, x], argTypes := #[dT, sT] }) (hu : P.underlying dT = some (.slice e)) (hz : ∀ w, (Go.sizeOf e).run P w = .ok 1 w)
    {g n cap : Nat} {l : List UInt8} {t : ByteArray} (hb : ByteBlk w g l) (hd : a.eval d = .slice (some ⟨g, 0, none⟩) n cap) (hx : a.eval x = .string t) (hn : t.size ≤ n) (hl : t.size ≤ l.length)
    (h : ∀ w', ByteBlk w' g (t.data.toList ++ l.drop t.size) → w.grownBy w' (some g) → w'.heap.size = w.heap.size → wpList P ops Q rest (a.put o.dst (goInt t.size)) w') : wpList P ops Q (o :: rest) a w := by
  have hrun := run_copy_string (P := P) w dT sT o.type e g 0 n cap t hu hz hn (fun j hj => by rw [Nat.zero_add, hb.cell j (by omega)]; rfl) (fun j hj => by rw [Nat.zero_add]; exact hb.free j (by omega))
  have htl : t.data.toList.length = t.size := by rw [Array.length_toList]; rfl
  have hlen : (t.data.toList.map fun x => Value.int .u8 (x.toNat : Int)).length = t.size := by rw [List.length_map, htl]
  have hsz : ∀ (vs : List Value) (o : Nat) (w : World), (w.setCells g o vs).heap.size = w.heap.size := by
    intro vs
    induction vs with
    | nil => intro o w; rfl
    | cons v vs ih => intro o w; rw [World.setCells, ih]; simp [World.setCell]
  have hkeep : ∀ (vs : List Value) (o : Nat) (w : World), w.grownBy (w.setCells g o vs) (some g) := by
    intro vs
    induction vs with
    | nil => intro o w; exact World.grownBy.refl _ _
    | cons v vs ih =>
      intro o w
      rw [World.setCells]
      exact World.grownBy.trans (b := w.setCell ⟨g, o, none⟩ v) ⟨rfl, rfl, rfl, by simp [World.setCell], fun k _ hk => Below.heap_setCell w ⟨g, o, none⟩ v k (fun e => hk (by rw [e]))⟩ (ih (o + 1) _)
  have hfz : ∀ (vs : List Value) (o : Nat) (w : World) (p : Addr), (w.setCells g o vs).frozen? p = w.frozen? p := by
    intro vs
    induction vs with
    | nil => intro o w p; rfl
    | cons v vs ih => intro o w p; rw [World.setCells, ih]; simp
  refine wpList_value w hgd (v := goInt t.size) (w' := w.setCells g 0 (t.data.toList.map fun x => Value.int .u8 (x.toNat : Int))) (by simp only [execOp, hop, resolve, invoke, builtin, Sem.run_bind, Sem.run_pure, Result.andThen_ok, List.map_toArray, List.map_cons, List.map_nil, hd, hx, hrun]) (h _ ⟨fun j hj => ?_, fun j hj => ?_⟩ (hkeep _ _ _) (hsz _ _ _))
  · by_cases hjt : j < t.size
    · have h1 := World.cell?_setCells_in g (t.data.toList.map fun x => Value.int .u8 (x.toNat : Int)) 0 w (fun q hq => by rw [Nat.zero_add, hb.cell q (by omega)]; rfl) j (by omega)
      rw [Nat.zero_add] at h1
      rw [h1, List.getElem_append_left (by omega)]
      simp
    · rw [World.cell?_setCells_out g _ 0 w ⟨g, j, none⟩ (fun _ _ => .inr (by rw [hlen]; show 0 + t.size ≤ j; omega))]
      rw [hb.cell j (by simp at hj; omega), List.getElem_append_right (by omega)]
      simp [show t.size + (j - t.size) = j by omega, htl]
  · rw [hfz]; exact hb.free j (by simp at hj; omega)

theorem run_toString {src dst e : TypeId} (hs : P.underlying src = some (.slice e)) (he : P.underlying e = some (.int .u8)) (hd : P.underlying dst = some .string) {g n cap : Nat} {l : List UInt8} (hb : ByteBlk w g l) (hn : n = l.length) :
    (convert src dst (.slice (some ⟨g, 0, none⟩) n cap)).run P w = .ok (.string ⟨l.toArray⟩) w := by
  subst hn
  exact run_convert_bytes_back w src dst e ⟨g, 0, none⟩ cap l hs he hd fun j hj => by
    have : (Addr.mk g 0 none).add j = ⟨g, j, none⟩ := by unfold Addr.add; split <;> simp_all
    rw [this]
    exact hb.cell j hj

theorem wpList_toString (hgd : o.guard = none) {src dst e : TypeId} {x : Operand} (hop : o.op = .convert src dst x) (hs : P.underlying src = some (.slice e)) (he : P.underlying e = some (.int .u8)) (hd : P.underlying dst = some .string)
    {g n cap : Nat} {l : List UInt8} {t : ByteArray} (hb : ByteBlk w g l) (hn : n = l.length) (ht : (⟨l.toArray⟩ : ByteArray) = t) (hx : a.eval x = .slice (some ⟨g, 0, none⟩) n cap) (h : wpList P ops Q rest (a.put o.dst (.string t)) w) : wpList P ops Q (o :: rest) a w := by
  subst ht
  exact wpList_value w hgd (v := .string ⟨l.toArray⟩) (by simp only [execOp, hop, hx, Sem.run_bind, run_toString w hs he hd hb hn, Result.andThen_ok]; rfl) h
end
end Go.Proofs.Ytofoneapfokdjaa
