/- What the laws of this seat lean on, part 2. -/
import Derived.Test.YthlbciinpidedaaGreatZK1
import Derived.Laws.Sem
import Derived.Laws.Entries
import Derived.WalkSpells
import Derived.Carry
import Derived.Lib.LazyBuf
import Derived.Lib.ConvBytes
import Derived.Laws.IdiomCopy
import Derived.Laws.IdiomStrings
import Derived.Test.YthlbciinpidedaaGreatProg
import Derived.WalkKit
import Derived.Lib.Hide
import Derived.Laws.BitsAllLaws
import Derived.Deep.WholeRow
/- Maps keyed by int, as plain functions; frames by the set of blocks that may turn. No program in sight. -/
namespace Go.Proofs.YthlbciinpidedaaGreat
set_option linter.unusedSimpArgs false
set_option linter.unusedVariables false
set_option maxRecDepth 100000
open Go.RowKit

/-- Only the blocks of S, and new ones, may differ. -/
structure Fr (S : Nat → Prop) (w w' : World) : Prop where
  os : w'.os = w.os
  tape : w'.tape = w.tape
  output : w'.output = w.output
  size : w.heap.size ≤ w'.heap.size
  block : ∀ k, k < w.heap.size → ¬ S k → w'.heap[k]? = w.heap[k]?

section
variable {S S' T : Nat → Prop} {w w' w'' : World} {B : Nat}
theorem Fr.refl (S : Nat → Prop) (w : World) : Fr S w w := ⟨rfl, rfl, rfl, Nat.le_refl _, fun _ _ _ => rfl⟩
theorem Fr.trans (h : Fr S w w') (h' : Fr S' w' w'') (hs : ∀ k, k < w.heap.size → S' k → S k) : Fr S w w'' :=
  ⟨h'.os.trans h.os, h'.tape.trans h.tape, h'.output.trans h.output, Nat.le_trans h.size h'.size, fun k hk hn => (h'.block k (Nat.lt_of_lt_of_le hk h.size) (fun e => hn (hs k hk e))).trans (h.block k hk hn)⟩
theorem Fr.mono (h : Fr S w w') (hs : ∀ k, k < w.heap.size → S k → T k) : Fr T w w' := ⟨h.os, h.tape, h.output, h.size, fun k hk hn => h.block k hk (fun e => hn (hs k hk e))⟩
theorem Fr.of_grown {row : Option Nat} (h : w.grownBy w' row) (hr : ∀ k, row = some k → S k) : Fr S w w' := ⟨h.os, h.tape, h.output, h.size, fun k hk hn => h.block k hk (fun e => hn (hr k e.symm))⟩
theorem Fr.of_below (h : Below w.heap.size w w') : Fr S w w' := ⟨h.os, h.tape, h.output, h.size, fun k hk _ => h.block k hk⟩
theorem Fr.of_below' (h : Below B w w') (hs : ∀ k, k < w.heap.size → B ≤ k → S k) : Fr S w w' := ⟨h.os, h.tape, h.output, h.size, fun k hk hn => h.block k (by rcases Nat.lt_or_ge k B with h1 | h1; exact h1; exact absurd (hs k hk h1) hn)⟩
theorem Fr.below (h : Fr S w w') (hB : B ≤ w.heap.size) (hs : ∀ k, k < w.heap.size → S k → B ≤ k) : Below B w w' :=
  ⟨h.os, h.tape, h.output, h.size, fun k hk => h.block k (Nat.lt_of_lt_of_le hk hB) (fun e => by have := hs k (Nat.lt_of_lt_of_le hk hB) e; omega)⟩
theorem Fr.drew (h : Fr S w w') : Fr S w w'.drew := ⟨h.os, h.tape, h.output, h.size, h.block⟩
theorem Fr.drewN (h : Fr S w w') (n : Nat) : Fr S w (w'.drewN n) := ⟨h.os, h.tape, h.output, h.size, h.block⟩
theorem Fr.alloc (h : Fr S w w') (o : Obj) : Fr S w (w'.alloc o) := ⟨h.os, h.tape, h.output, Nat.le_trans h.size (by simp), fun k hk hn => (Below.heap_alloc w' o k (Nat.lt_of_lt_of_le hk h.size)).trans (h.block k hk hn)⟩
theorem Fr.setCell (h : Fr S w w') {p : Addr} (hp : p.block < w.heap.size → S p.block) (u : Value) : Fr S w (w'.setCell p u) :=
  ⟨h.os, h.tape, h.output, by simpa [World.setCell] using h.size, fun k hk hn => (Below.heap_setCell w' p u k (by rintro rfl; exact hn (hp hk))).trans (h.block k hk hn)⟩
theorem Fr.cell {p : Addr} {v : Value} (h : Fr S w w') (hv : w.cell? p = some v) (hn : ¬ S p.block) : w'.cell? p = some v := by
  have hlt : p.block < w.heap.size := by
    rcases Nat.lt_or_ge p.block w.heap.size with hl | hl
    · exact hl
    · unfold World.cell? at hv; rw [Array.getElem?_eq_none hl] at hv; cases hv
  exact (World.cell?_of_block (h.block p.block hlt hn)).trans hv
theorem Fr.blk {g : Nat} {t : TypeId} {cs : Array Value} (h : Fr S w w') (hb : Blk w g t cs) (hn : ¬ S g) : Blk w' g t cs := (h.block g hb.lt hn).trans hb
theorem Fr.own {base : Nat} {e : TypeId} {size n : Nat} {v : Value} {xs : List Value} (h : Fr S w w') (ho : w.ownsRow base e size v n xs) (hn : ∀ k, v.ownBlock = some k → ¬ S k) : w'.ownsRow base e size v n xs := by
  refine ⟨ho.1, ?_⟩
  have hlt := ho.lt
  rcases ho.2 with h2 | ⟨g, cap, cur, hv, hg, hh, r⟩
  · exact .inl h2
  · exact .inr ⟨g, cap, cur, hv, hg, (h.block g (hlt g (by rw [hv]; rfl)).2 (hn g (by rw [hv]; rfl))).trans hh, r⟩
end

/-- What a list of entries holds at an int. -/
def lookI : List MapEntry → Int → Option Value
  | [], _ => none
  | e :: es, k => match e.key with
    | .int .i64 a => if k = a then some e.val else lookI es k
    | _ => none
def keysI (es : List MapEntry) : Prop := ∀ e ∈ es, ∃ a, e.key = .int .i64 a

/-- Block b is a map from ints that holds f. -/
def IMap (w : World) (b : Nat) (f : Int → Option Value) : Prop :=
  ∃ es clock, w.heap[b]? = some (.map es clock) ∧ keysI es.toList ∧ ∀ k, lookI es.toList k = f k

section
variable {w w' : World} {b : Nat} {f : Int → Option Value}
theorem IMap.lt (h : IMap w b f) : b < w.heap.size := by
  obtain ⟨es, c, hb, _⟩ := h
  rcases Nat.lt_or_ge b w.heap.size with hl | hl
  · exact hl
  · rw [Array.getElem?_eq_none hl] at hb; cases hb
theorem IMap.of_block (h : IMap w b f) (hb : w'.heap[b]? = w.heap[b]?) : IMap w' b f := by
  obtain ⟨es, c, hh, r⟩ := h
  exact ⟨es, c, hb.trans hh, r⟩
theorem IMap.fr {S : Nat → Prop} (h : IMap w b f) (hf : Fr S w w') (hn : ¬ S b) : IMap w' b f := h.of_block (hf.block b h.lt hn)
theorem IMap.new (w : World) : IMap (w.alloc (.map #[] 0)) w.heap.size (fun _ => none) := ⟨#[], 0, heap_alloc_new w _, by simp [keysI], fun _ => rfl⟩
theorem IMap.alloc (h : IMap w b f) (o : Obj) : IMap (w.alloc o) b f := h.of_block (Below.heap_alloc w o b h.lt)
theorem IMap.setCell (h : IMap w b f) {p : Addr} (hp : b ≠ p.block) (u : Value) : IMap (w.setCell p u) b f := h.of_block (Below.heap_setCell w p u b hp)
theorem IMap.drew (h : IMap w b f) : IMap w.drew b f := h
end

theorem findNow_int (k : Int) : ∀ (es : List MapEntry) (i : Nat), keysI es →
    ∃ r, Instr.findNow (.int .i64) (.int .i64 k) es i = some r ∧ (∀ j v, r = some (j, v) → i ≤ j ∧ lookI es k = some v ∧ ∃ e, es[j - i]? = some e ∧ e.key = .int .i64 k) ∧ (r = none → lookI es k = none)
  | [], i, _ => ⟨none, rfl, by simp, fun _ => rfl⟩
  | e :: es, i, h => by
    obtain ⟨a, ha⟩ := h e (by simp)
    by_cases hk : k = a
    · subst hk
      refine ⟨some (i, e.val), by simp [Instr.findNow, ha, Instr.sameNow], ?_, by simp⟩
      rintro j v hjv
      simp at hjv
      obtain ⟨rfl, rfl⟩ := hjv
      exact ⟨Nat.le_refl _, by simp [lookI, ha], e, by simp, ha⟩
    · obtain ⟨r, hr, h1, h2⟩ := findNow_int k es (i + 1) (fun e' he' => h e' (by simp [he']))
      refine ⟨r, by simp [Instr.findNow, ha, Instr.sameNow, beq_eq_false_iff_ne.2 hk, hr], ?_, fun hn => by simp [lookI, ha, hk, h2 hn]⟩
      intro j v hjv
      obtain ⟨h3, h4, e', h5, h6⟩ := h1 j v hjv
      refine ⟨by omega, by simp [lookI, ha, hk, h4], e', ?_, h6⟩
      rw [show j - i = (j - (i + 1)) + 1 by omega]
      simpa using h5

theorem lookI_append (k k' : Int) (v : Value) (c : Nat) : ∀ es : List MapEntry, keysI es → lookI (es ++ [⟨.int .i64 k, v, c⟩]) k' = (lookI es k').or (if k' = k then some v else none)
  | [], _ => by simp [lookI]
  | e :: es, h => by
    obtain ⟨a, ha⟩ := h e (by simp)
    have ih := lookI_append k k' v c es (fun e' he' => h e' (by simp [he']))
    by_cases hk : k' = a <;> simp [lookI, ha, hk, ih]
    all_goals (rw [← hk]; simp [hk])

theorem lookI_modify (k k' : Int) (v : Value) : ∀ (es : List MapEntry) (j : Nat), keysI es → (∃ e, es[j]? = some e ∧ e.key = .int .i64 k) → (∀ i e, i < j → es[i]? = some e → e.key ≠ .int .i64 k) →
    lookI (es.modify j fun e => { e with key := .int .i64 k, val := v }) k' = if k' = k then some v else lookI es k'
  | [], j, _, ⟨e, he, _⟩, _ => by simp at he
  | e :: es, 0, h, ⟨e', he', hke⟩, _ => by
    simp at he'
    subst he'
    by_cases hk : k' = k <;> simp [lookI, hke, hk]
  | e :: es, j + 1, h, ⟨e', he', hke⟩, hf => by
    obtain ⟨a, ha⟩ := h e (by simp)
    have hne : a ≠ k := fun e' => hf 0 e (by omega) (by simp) (by rw [ha, e'])
    have ih := lookI_modify k k' v es j (fun e' he' => h e' (by simp [he'])) ⟨e', by simpa using he', hke⟩ (fun i e' hi he' => hf (i + 1) e' (by omega) (by simpa using he'))
    rw [List.modify_succ_cons]
    by_cases hk : k' = a
    · subst hk; simp [lookI, ha, hne]
    · simp [lookI, ha, hk, ih]

theorem findNow_first (k : Int) : ∀ (es : List MapEntry) (i j : Nat) (v : Value), keysI es → Instr.findNow (.int .i64) (.int .i64 k) es i = some (some (j, v)) → ∀ (q : Nat) (e : MapEntry), q < j - i → es[q]? = some e → e.key ≠ .int .i64 k
  | [], i, j, v, _, h => by simp [Instr.findNow] at h
  | e :: es, i, j, v, hk, h => by
    obtain ⟨a, ha⟩ := hk e (by simp)
    by_cases hka : k = a
    · subst hka
      simp [Instr.findNow, ha, Instr.sameNow] at h
      intro q e' hq
      omega
    · simp [Instr.findNow, ha, Instr.sameNow, beq_eq_false_iff_ne.2 hka] at h
      have ih := findNow_first k es (i + 1) j v (fun e' he' => hk e' (by simp [he'])) h
      intro q e' hq he'
      cases q with
      | zero => simp at he'; subst he'; rw [ha]; simpa using fun h => hka h.symm
      | succ q => exact ih q e' (by omega) (by simpa using he')

section
variable {P : Program} {w : World} {b : Nat} {f : Int → Option Value} {t kt et : TypeId}
theorem run_checkKey_i (hk : P.underlying kt = some (.int .i64)) (e : Bool) (d : Nat) (k : Int) : (Instr.checkKey e (d + 1) kt (.int .i64 k)).run P w = .ok () w := by simp [Instr.checkKey, run_underlying hk]
theorem run_getObj_i {es : Array MapEntry} {cl : Nat} (hb : w.heap[b]? = some (.map es cl)) : (getObj b).run P w = .ok (.map es cl) w := by simp [getObj, Sem.run, hb]
theorem run_setObj_i {es : Array MapEntry} {cl : Nat} (hb : w.heap[b]? = some (.map es cl)) (o : Obj) : (setObj b o).run P w = .ok () { w with heap := w.heap.setIfInBounds b o } := by simp [setObj, Sem.run, hb]

theorem run_lookup_imap (ht : P.underlying t = some (.map kt et)) (hk : P.underlying kt = some (.int .i64)) {z : Value} (hz : (zeroValue et).run P w = .ok z w) (h : IMap w b f) (k : Int) (c : Bool) :
    (Instr.lookup t (.map (some b)) (.int .i64 k) c).run P w = .ok (if c then .tuple #[(f k).getD z, .bool (f k).isSome] else (f k).getD z) w := by
  obtain ⟨es, cl, hb, hke, hf⟩ := h
  obtain ⟨r, hr, h1, h2⟩ := findNow_int k es.toList 0 hke
  have hck : ∀ e : Bool, (Instr.checkKey e 10000 kt (.int .i64 k)).run P w = .ok () w := fun e => run_checkKey_i hk e 9999 k
  cases hr' : r with
  | none =>
    have hn := h2 hr'
    rw [hf] at hn
    subst hr'
    simp [Instr.lookup, run_underlying ht, run_getObj_i hb, hck, Instr.findKey, run_underlying hk, hr, hz, hn]
  | some p =>
    obtain ⟨j, v⟩ := p
    obtain ⟨_, h3, _⟩ := h1 j v hr'
    rw [hf] at h3
    subst hr'
    simp [Instr.lookup, run_underlying ht, run_getObj_i hb, hck, Instr.findKey, run_underlying hk, hr, h3]

/-- A store: the map holds the new value at its key, and all else is as it was. -/
def IPut (w w' : World) (b : Nat) (f : Int → Option Value) : Prop := IMap w' b f ∧ w.grownBy w' (some b) ∧ w'.heap.size = w.heap.size
theorem run_update_imap (ht : P.underlying t = some (.map kt et)) (hk : P.underlying kt = some (.int .i64)) (h : IMap w b f) (k : Int) (v : Value) :
    ∃ w', (Instr.mapUpdate t (.map (some b)) (.int .i64 k) v).run P w = .ok () w' ∧ IPut w w' b (fun k' => if k' = k then some v else f k') := by
  have hlt := h.lt
  obtain ⟨es, cl, hb, hke, hf⟩ := h
  obtain ⟨r, hr, h1, h2⟩ := findNow_int k es.toList 0 hke
  have hck : (Instr.checkKey false 10000 kt (.int .i64 k)).run P w = .ok () w := run_checkKey_i hk false 9999 k
  have hset : ∀ o : Obj, ({ w with heap := w.heap.setIfInBounds b o } : World).heap[b]? = some o := by intro o; simp [hlt]
  have hgr : ∀ o : Obj, w.grownBy { w with heap := w.heap.setIfInBounds b o } (some b) := fun o => ⟨rfl, rfl, rfl, by simp, fun q _ hq => by
    have : b ≠ q := fun e => hq (by rw [e])
    simp [this]⟩
  cases hr' : r with
  | none =>
    have hn := h2 hr'
    subst hr'
    refine ⟨{ w with heap := w.heap.setIfInBounds b (.map (es.push ⟨.int .i64 k, v, cl⟩) (cl + 1)) }, ?_, ⟨_, _, hset _, ?_, fun k' => ?_⟩, hgr _, by simp⟩
    · simp [Instr.mapUpdate, run_underlying ht, run_getObj_i hb, hck, Instr.findKey, run_underlying hk, hr, run_setObj_i hb]
    · intro e he
      simp at he
      rcases he with he | rfl
      · exact hke e (by simpa using he)
      · exact ⟨k, rfl⟩
    · simp only [Array.toList_push]
      rw [lookI_append _ _ _ _ _ hke, hf]
      by_cases hkk : k' = k
      · subst hkk; rw [hf] at hn; simp [hn]
      · simp [hkk]
  | some p =>
    obtain ⟨j, u⟩ := p
    obtain ⟨_, h3, e, he, hek⟩ := h1 j u hr'
    subst hr'
    have he' : es[j]? = some e := by simpa using he
    refine ⟨{ w with heap := w.heap.setIfInBounds b (.map (es.modify j fun e => { e with key := .int .i64 k, val := v }) cl) }, ?_, ⟨_, _, hset _, ?_, fun k' => ?_⟩, hgr _, by simp⟩
    · simp [Instr.mapUpdate, run_underlying ht, run_getObj_i hb, hck, Instr.findKey, run_underlying hk, hr, he', hek, Instr.keyThatStays, Instr.sameBits, run_setObj_i hb]
    · intro e' he2
      rw [Array.toList_modify] at he2
      obtain ⟨q, hq, rfl⟩ := List.getElem_of_mem he2
      rw [List.getElem_modify]
      split
      · exact ⟨k, rfl⟩
      · exact hke _ (List.getElem_mem _)
    · rw [Array.toList_modify, lookI_modify k k' v es.toList j hke ⟨e, by simpa using he', hek⟩ (fun i e' hi he2 => findNow_first k es.toList 0 j u hke hr i e' (by omega) he2)]
      simp only [hf]
end
end Go.Proofs.YthlbciinpidedaaGreat
/- Bytes in a block of the call's own: '[]byte(s)', 'copy(b, s)', 'string(b)', each as one step of a walk. No program in sight. -/
namespace Go.Proofs.YthlbciinpidedaaGreat
set_option linter.unusedSimpArgs false
set_option linter.unusedVariables false
set_option maxRecDepth 100000
open Go.RowKit

/-- The first cells of block g are the bytes l, and may be written. -/
structure ByteBlk (w : World) (g : Nat) (l : List UInt8) : Prop where
  cell : ∀ j (h : j < l.length), w.cell? ⟨g, j, none⟩ = some (.int .u8 (l[j].toNat : Int))
  free : ∀ j, j < l.length → w.frozen? ⟨g, j, none⟩ = false

theorem ByteBlk.of_block {w w' : World} {g : Nat} {l : List UInt8} (h : ByteBlk w g l) (hb : w'.heap[g]? = w.heap[g]?) : ByteBlk w' g l :=
  ⟨fun j hj => (World.cell?_of_block (a := ⟨g, j, none⟩) hb).trans (h.cell j hj), fun j hj => (World.frozen?_of_block (a := ⟨g, j, none⟩) hb).trans (h.free j hj)⟩

section
variable {P : Program} (w : World) {ops : Array Oper} {rest : List Oper} {o : Oper} {a : Act} {Q : Exit → Act → World → Prop}

theorem wpList_value (hgd : o.guard = none) {v : Value} {w' : World} (hrun : (execOp a.eval o).run P w = .ok (.value v) w') (h : wpList P ops Q rest (a.put o.dst v) w') : wpList P ops Q (o :: rest) a w :=
  wpList_plain hgd fun _ hK => by
    unfold Oper.wp
    rw [hrun]
    exact hK _ _ h

theorem wpList_toBytes (hgd : o.guard = none) {src dst e : TypeId} {x : Operand} (hop : o.op = .convert src dst x) (hs : P.underlying src = some .string) (hd : P.underlying dst = some (.slice e)) (he : P.underlying e = some (.int .u8))
    {s : ByteArray} (hx : a.eval x = .string s) (h : ∀ cap w', ByteBlk w' w.heap.size s.data.toList → w.grownBy w' none → w'.heap.size = w.heap.size + 1 → wpList P ops Q rest (a.put o.dst (.slice (some ⟨w.heap.size, 0, none⟩) s.size cap)) w') :
    wpList P ops Q (o :: rest) a w := by
  have hrun := run_bytes_of_string (P := P) w src dst e s hs hd he
  refine wpList_value w hgd (v := .slice (some ⟨w.heap.size, 0, none⟩) s.size (grownCap w s.size 0 e)) (by simp only [execOp, hop, hx, Sem.run_bind, hrun, Result.andThen_ok]; rfl) (h _ _ ⟨fun j hj => ?_, fun j hj => ?_⟩ ?_ (by simp))
  · have := World.cell?_alloc_mark w.drew (bytesRow s (grownCap w s.size 0 e)) e ((bytesRow s (grownCap w s.size 0 e)).size, (bytesRow s (grownCap w s.size 0 e)).size + 1) j
    have hj' : j < s.data.size := by simpa using hj
    refine this.trans ?_
    unfold bytesRow
    rw [Array.getElem?_append_left (by simpa using hj')]
    simp
    exact ⟨_, Array.getElem?_eq_getElem hj', rfl⟩
  · have hj' : j < s.data.size := by simpa using hj
    have hbig : j < (bytesRow s (grownCap w s.size 0 e)).size := by unfold bytesRow; rw [Array.size_append, Array.size_map]; omega
    unfold World.frozen?
    have : (w.drew.alloc (.cells (bytesRow s (grownCap w s.size 0 e)) e ((bytesRow s (grownCap w s.size 0 e)).size, (bytesRow s (grownCap w s.size 0 e)).size + 1))).heap[w.heap.size]? = some (.cells (bytesRow s (grownCap w s.size 0 e)) e ((bytesRow s (grownCap w s.size 0 e)).size, (bytesRow s (grownCap w s.size 0 e)).size + 1)) := heap_alloc_new w.drew _
    rw [this]
    simp
    omega
  · exact (only_drew_l (World.grownBy.refl w none)).trans (World.grownBy_alloc w.drew _ none)

theorem wpList_copyBytes (hgd : o.guard = none) {dT sT e : TypeId} {d x : Operand} (hop : o.op = .call { callee := .builtin .copy, args := #[d, x], argTypes := #[dT, sT] }) (hu : P.underlying dT = some (.slice e)) (hz : ∀ w, (Go.sizeOf e).run P w = .ok 1 w)
    {g n cap : Nat} {l : List UInt8} {t : ByteArray} (hb : ByteBlk w g l) (hd : a.eval d = .slice (some ⟨g, 0, none⟩) n cap) (hx : a.eval x = .string t) (hn : t.size ≤ n) (hl : t.size ≤ l.length)
    (h : ∀ w', ByteBlk w' g (t.data.toList ++ l.drop t.size) → w.grownBy w' (some g) → w'.heap.size = w.heap.size → wpList P ops Q rest (a.put o.dst (goInt t.size)) w') : wpList P ops Q (o :: rest) a w := by
  have hrun := run_copy_string (P := P) w dT sT o.type e g 0 n cap t hu hz hn (fun j hj => by rw [Nat.zero_add, hb.cell j (by omega)]; rfl) (fun j hj => by rw [Nat.zero_add]; exact hb.free j (by omega))
  have htl : t.data.toList.length = t.size := by rw [Array.length_toList]; rfl
  have hlen : (t.data.toList.map fun x => Value.int .u8 (x.toNat : Int)).length = t.size := by rw [List.length_map, htl]
  have hsz : ∀ (vs : List Value) (o : Nat) (w : World), (w.setCells g o vs).heap.size = w.heap.size := by
    intro vs
    induction vs with
    | nil => intro o w; rfl
    | cons v vs ih => intro o w; rw [World.setCells, ih]; simp [World.setCell]
  have hkeep : ∀ (vs : List Value) (o : Nat) (w : World), w.grownBy (w.setCells g o vs) (some g) := by
    intro vs
    induction vs with
    | nil => intro o w; exact World.grownBy.refl _ _
    | cons v vs ih =>
      intro o w
      rw [World.setCells]
      exact World.grownBy.trans (b := w.setCell ⟨g, o, none⟩ v) ⟨rfl, rfl, rfl, by simp [World.setCell], fun k _ hk => Below.heap_setCell w ⟨g, o, none⟩ v k (fun e => hk (by rw [e]))⟩ (ih (o + 1) _)
  have hfz : ∀ (vs : List Value) (o : Nat) (w : World) (p : Addr), (w.setCells g o vs).frozen? p = w.frozen? p := by
    intro vs
    induction vs with
    | nil => intro o w p; rfl
    | cons v vs ih => intro o w p; rw [World.setCells, ih]; simp
  refine wpList_value w hgd (v := goInt t.size) (w' := w.setCells g 0 (t.data.toList.map fun x => Value.int .u8 (x.toNat : Int))) (by simp only [execOp, hop, resolve, invoke, builtin, Sem.run_bind, Sem.run_pure, Result.andThen_ok, List.map_toArray, List.map_cons, List.map_nil, hd, hx, hrun]) (h _ ⟨fun j hj => ?_, fun j hj => ?_⟩ (hkeep _ _ _) (hsz _ _ _))
  · by_cases hjt : j < t.size
    · have h1 := World.cell?_setCells_in g (t.data.toList.map fun x => Value.int .u8 (x.toNat : Int)) 0 w (fun q hq => by rw [Nat.zero_add, hb.cell q (by omega)]; rfl) j (by omega)
      rw [Nat.zero_add] at h1
      rw [h1, List.getElem_append_left (by omega)]
      simp
    · rw [World.cell?_setCells_out g _ 0 w ⟨g, j, none⟩ (fun _ _ => .inr (by rw [hlen]; show 0 + t.size ≤ j; omega))]
      rw [hb.cell j (by simp at hj; omega), List.getElem_append_right (by omega)]
      simp [show t.size + (j - t.size) = j by omega, htl]
  · rw [hfz]; exact hb.free j (by simp at hj; omega)

theorem run_toString {src dst e : TypeId} (hs : P.underlying src = some (.slice e)) (he : P.underlying e = some (.int .u8)) (hd : P.underlying dst = some .string) {g n cap : Nat} {l : List UInt8} (hb : ByteBlk w g l) (hn : n = l.length) :
    (convert src dst (.slice (some ⟨g, 0, none⟩) n cap)).run P w = .ok (.string ⟨l.toArray⟩) w := by
  subst hn
  exact run_convert_bytes_back w src dst e ⟨g, 0, none⟩ cap l hs he hd fun j hj => by
    have : (Addr.mk g 0 none).add j = ⟨g, j, none⟩ := by unfold Addr.add; split <;> simp_all
    rw [this]
    exact hb.cell j hj

theorem wpList_toString (hgd : o.guard = none) {src dst e : TypeId} {x : Operand} (hop : o.op = .convert src dst x) (hs : P.underlying src = some (.slice e)) (he : P.underlying e = some (.int .u8)) (hd : P.underlying dst = some .string)
    {g n cap : Nat} {l : List UInt8} {t : ByteArray} (hb : ByteBlk w g l) (hn : n = l.length) (ht : (⟨l.toArray⟩ : ByteArray) = t) (hx : a.eval x = .slice (some ⟨g, 0, none⟩) n cap) (h : wpList P ops Q rest (a.put o.dst (.string t)) w) : wpList P ops Q (o :: rest) a w := by
  subst ht
  exact wpList_value w hgd (v := .string ⟨l.toArray⟩) (by simp only [execOp, hop, hx, Sem.run_bind, run_toString w hs he hd hb hn, Result.andThen_ok]; rfl) h
end
end Go.Proofs.YthlbciinpidedaaGreat
/- word.Put and word.Get, and the document's. -/
namespace Go.Proofs.YthlbciinpidedaaGreat
set_option linter.unusedSimpArgs false
set_option linter.unusedVariables false
set_option maxRecDepth 100000
open Go.RowKit
attribute [local go_sem high] run_mx run_mn

/-- Byte j of a number. -/
def nbyte (n : Int) (j : Nat) : Int := n / 2 ^ (8 * j) % 256
def putAt (n : Int) (k j : Nat) : Value := .int .u8 (if j < k then nbyte n j else 0)
/-- The eight bytes, of which the first k are laid. -/
def putCells (n : Int) (k : Nat) : Array Value := #[putAt n k 0, putAt n k 1, putAt n k 2, putAt n k 3, putAt n k 4, putAt n k 5, putAt n k 6, putAt n k 7]
theorem putCells_at (n : Int) (k j : Nat) (hj : j < 8) : (putCells n k)[j]? = some (putAt n k j) := by
  match j, hj with
  | 0, _ => rfl
  | 1, _ => rfl
  | 2, _ => rfl
  | 3, _ => rfl
  | 4, _ => rfl
  | 5, _ => rfl
  | 6, _ => rfl
  | 7, _ => rfl
theorem putCells_set (n : Int) (k : Nat) (_hk : k < 8) : (putCells n k).setIfInBounds k (.int .u8 (nbyte n k)) = putCells n (k + 1) := by
  apply Array.ext_getElem?
  intro j
  rw [Array.getElem?_setIfInBounds]
  by_cases hj : j < 8
  · rw [putCells_at n (k + 1) j hj, putCells_at n k j hj]
    by_cases e : k = j
    · rw [if_pos e, if_pos (show k < (putCells n k).size from _hk)]
      subst e
      unfold putAt; rw [if_pos (by omega)]
    · rw [if_neg e]
      unfold putAt
      by_cases h : j < k
      · rw [if_pos h, if_pos (by omega)]
      · rw [if_neg h, if_neg (by omega)]
  · rw [if_neg (by omega), Array.getElem?_eq_none (show (putCells n k).size ≤ j from (by show 8 ≤ j; omega)), Array.getElem?_eq_none (show (putCells n (k + 1)).size ≤ j from (by show 8 ≤ j; omega))]

/-- The first k bytes of a number. -/
def leB (n : Int) (k : Nat) : List UInt8 := (List.range k).map fun j => UInt8.ofNat (nbyte n j).toNat
def putB (n : Int) (k : Nat) : ByteArray := ⟨(leB n k).toArray⟩
theorem leB_len (n : Int) (k : Nat) : (leB n k).length = k := by simp [leB]
theorem nbyte_in (n : Int) (j : Nat) : 0 ≤ nbyte n j ∧ nbyte n j < 256 := by unfold nbyte; omega
theorem leB_at (n : Int) (k j : Nat) (hj : j < k) : ((leB n k)[j]'(by rw [leB_len]; exact hj)).toNat = nbyte n j := by
  have := nbyte_in n j
  simp [leB]
  omega
theorem sizeOf_u8 (w : World) : (Go.sizeOf 5).run Tryz.prog w = .ok 1 w := by kernel_rfl
theorem run_arr8 (b k : Nat) (hk : k ≤ 8) (w : World) : (Instr.sliceAt 196 (.pointer (some ⟨b, 0, none⟩)) none (some (.int .i64 k)) (some (.int .i64 k))).run Tryz.prog w = .ok (.slice (some ⟨b, 0, none⟩) k k) w := by
  have h := run_sliceAt_array_hm w 196 ⟨b, 0, none⟩ (P := Tryz.prog) (by kernel_rfl) .i64 .i64 (k : Int) (k : Int) (by omega) (by omega) (by rw [show Tryz.prog.arrayLen 196 = 8 from by kernel_rfl]; omega)
  rw [h, show Tryz.prog.elem 196 = 5 from by kernel_rfl, sizeOf_u8]
  show Result.ok (slicedAt _ 0 k k 1) w = _
  unfold slicedAt
  have : (Addr.mk b 0 none).add (0 * 1) = ⟨b, 0, none⟩ := rfl
  rw [this]
  simp

set_option maxRecDepth 100000 in
set_option maxHeartbeats 4000000 in
theorem Put_any (n : Int) (k : Nat) (hk : k ≤ 8) (_hn : 0 ≤ n ∧ n < 18446744073709551616) (w : World) :
    Calls Tryz.prog 126 #[.int .u64 n, .int .i64 k] w fun e w' => e = .returned (.string (putB n k)) ∧ Below w.heap.size w w' := by
  have e1 : mn (mx (k : Int) 0) 8 = k := by rw [mn_def, mx_def]; omega
  go_enter Tryz.func126, Tryz.ntmps126
  go_wp2_with fail
  have hb : Blk (w.alloc (.cells (putCells n 0) 196)) w.heap.size 196 (putCells n 0) := Blk.new _ _ _
  have hB : Below w.heap.size w (w.alloc (.cells (putCells n 0) 196)) := (Below.refl _ _).alloc (Nat.le_refl _) _
  go_loopw [10] (fun i wr => ∃ j : Nat, j ≤ 8 ∧ i = .int .i64 j ∧ Blk wr w.heap.size 196 (putCells n j) ∧ Below w.heap.size w wr) (fun i _ => 8 - (intOf i).toNat)
  case atStart => exact ⟨0, by omega, rfl, hb, hB⟩
  case round =>
    clear hb hB
    obtain ⟨j, hj, rfl, hb, hB⟩ := hrel
    by_cases hlt : j < 8
    · have c1 := (hb.cell j).trans (putCells_at n j j hlt)
      have f1 := hb.frozen j
      go_wp2_with fail
      go_roundw
      case rel => exact ⟨j + 1, by omega, by go_num, by rw [← putCells_set n j hlt]; exact hb.set_ _ _, hB.setCell (Nat.le_refl _) _⟩
      case measure => simp [intOf]; omega
    · obtain rfl : j = 8 := by omega
      have hs := run_arr8 w.heap.size k hk wr
      have hbb : ByteBlk wr w.heap.size (leB n k) := ⟨fun j hj => by
        have hj' : j < k := by rw [leB_len] at hj; exact hj
        rw [hb.cell, putCells_at n 8 j (by omega), leB_at n k j hj']
        unfold putAt
        rw [if_pos (by omega)], fun j _ => hb.frozen j⟩
      have hc : (convert 50 9 (.slice (some ⟨w.heap.size, 0, none⟩) k k)).run Tryz.prog wr = .ok (.string (putB n k)) wr := run_toString wr Tryz.underlying50 Tryz.underlying5 Tryz.underlying9 hbb (leB_len n k).symm
      go_wp2_with fail
      go_ret
      exact ⟨rfl, hB⟩
/-- The number of bytes. -/
def leN : List UInt8 → Nat
  | [] => 0
  | b :: l => b.toNat + 256 * leN l
theorem leN_lt : ∀ l : List UInt8, leN l < 2 ^ (8 * l.length)
  | [] => by simp [leN]
  | b :: l => by
    have := leN_lt l
    have hb := b.toNat_lt
    rw [List.length_cons, show 8 * (l.length + 1) = 8 * l.length + 8 by omega, Nat.pow_add]
    show b.toNat + 256 * leN l < _
    omega
theorem leN_append (l m : List UInt8) : leN (l ++ m) = leN l + 2 ^ (8 * l.length) * leN m := by
  induction l with
  | nil => simp [leN]
  | cons b l ih =>
    rw [List.length_cons, show 8 * (l.length + 1) = 8 * l.length + 8 by omega, Nat.pow_add]
    show b.toNat + 256 * leN (l ++ m) = b.toNat + 256 * leN l + _
    rw [ih, Nat.mul_add, Nat.add_assoc, show (2 : Nat) ^ 8 = 256 from rfl, Nat.mul_left_comm, Nat.mul_assoc]
theorem leN_zeros (k : Nat) : leN (List.replicate k 0) = 0 := by
  induction k with
  | zero => rfl
  | succ k ih => rw [List.replicate_succ]; show (0 : UInt8).toNat + 256 * leN _ = 0; rw [ih]; rfl
theorem leN_take_succ (l : List UInt8) (k : Nat) (hk : k < l.length) : leN (l.take (k + 1)) = leN (l.take k) + 2 ^ (8 * k) * (l[k]).toNat := by
  rw [List.take_succ_eq_append_getElem hk, leN_append]
  have : (l.take k).length = k := by rw [List.length_take]; omega
  rw [this]
  show _ + _ * (l[k].toNat + 256 * 0) = _
  rw [Nat.mul_zero, Nat.add_zero]

theorem or_byte (a x j : Nat) (ha : a < 2 ^ (8 * j)) (hx : x < 2 ^ 8) (hj : j < 8) : bits BinOp.or IntKind.u64 (a : Int) (IntKind.u64.wrap ((x : Int) * 2 ^ (8 * j))) = ((a + 2 ^ (8 * j) * x : Nat) : Int) := by
  have hp : 2 ^ (8 * j) * 2 ^ 8 ≤ 2 ^ 64 := by rw [← Nat.pow_add]; exact Nat.pow_le_pow_right (by omega) (by omega)
  have hlt : 2 ^ (8 * j) * x + 2 ^ (8 * j) ≤ 2 ^ 64 := by
    have : 2 ^ (8 * j) * (x + 1) ≤ 2 ^ (8 * j) * 2 ^ 8 := Nat.mul_le_mul_left _ (by omega)
    rw [Nat.mul_add, Nat.mul_one] at this
    exact Nat.le_trans this hp
  have hp0 : 0 < 2 ^ (8 * j) := Nat.pow_pos (by omega)
  have hc : ((x : Int) * 2 ^ (8 * j)) = ((2 ^ (8 * j) * x : Nat) : Int) := by push_cast; rw [Int.mul_comm]
  have hw : IntKind.u64.wrap ((x : Int) * 2 ^ (8 * j)) = ((2 ^ (8 * j) * x : Nat) : Int) := by
    rw [hc, IntKind.wrap_u64]
    omega
  rw [hw, u64_or_nat a (2 ^ (8 * j) * x) (by omega) (by omega), Nat.or_comm, ← Nat.two_pow_add_eq_or_of_lt ha x, Nat.add_comm]

set_option maxRecDepth 100000 in
set_option maxHeartbeats 4000000 in
theorem Get_any (s : ByteArray) (hs : s.size ≤ 8) (w : World) :
    Calls Tryz.prog 93 #[.string s] w fun e w' => e = .returned (.int .u64 (leN s.data.toList)) ∧ Below w.heap.size w w' := by
  go_enter Tryz.func93, Tryz.ntmps93
  have hb0 : ByteBlk (w.alloc (.cells #[.int .u8 0, .int .u8 0, .int .u8 0, .int .u8 0, .int .u8 0, .int .u8 0, .int .u8 0, .int .u8 0] 196)) w.heap.size (List.replicate 8 0) := by
    have h := Blk.new w 196 #[.int .u8 0, .int .u8 0, .int .u8 0, .int .u8 0, .int .u8 0, .int .u8 0, .int .u8 0, .int .u8 0]
    refine ⟨fun j hj => ?_, fun j _ => h.frozen j⟩
    rw [h.cell]
    have hj : j < 8 := by simpa using hj
    match j, hj with
    | 0, _ => rfl
    | 1, _ => rfl
    | 2, _ => rfl
    | 3, _ => rfl
    | 4, _ => rfl
    | 5, _ => rfl
    | 6, _ => rfl
    | 7, _ => rfl
  have hs8 : s.size ≤ (List.replicate 8 (0 : UInt8)).length := by simpa using hs
  go_wp2_with (refine wpList_copyBytes (o := ⟨some 8, _, _, _, _, _⟩) _ rfl rfl Tryz.underlying50 sizeOf_u8 hb0 rfl rfl hs hs8 ?_; intro w1 hb hg hz; clear hb0)
  have hB : Below w.heap.size w w1 := ((Below.refl w.heap.size w).alloc (Nat.le_refl _) _).grown hg (by simp) (fun q e => by cases e; exact Nat.le_refl _)
  have hl8 : (s.data.toList ++ List.drop s.size (List.replicate 8 0)).length = 8 := by
    have : s.data.toList.length = s.size := by rw [Array.length_toList]; rfl
    rw [List.length_append, List.length_drop, List.length_replicate, this]; omega
  have hN : leN (s.data.toList ++ List.drop s.size (List.replicate 8 0)) = leN s.data.toList := by
    rw [leN_append, List.drop_replicate, leN_zeros, Nat.mul_zero, Nat.add_zero]
  have HN := Lib.hid hN
  clear hN hs8 hg hz hs
  generalize s.data.toList ++ List.drop s.size (List.replicate 8 0) = l at *
  go_loop [4, 9] (fun n i => ∃ j : Nat, j ≤ 8 ∧ i = .int .i64 j ∧ n = .int .u64 (leN (l.take j))) (fun _ i => 8 - (intOf i).toNat)
  case atStart => exact ⟨0, by omega, rfl, rfl⟩
  case round =>
    obtain ⟨j, hj, rfl, rfl⟩ := hrel
    by_cases hlt : j < 8
    · have c1 := hb.cell j (by omega)
      have hx := (l[j]'(by omega)).toNat_lt
      have hstep := leN_take_succ l j (by omega)
      have hlow := leN_lt (l.take j)
      rw [List.length_take, hl8, Nat.min_eq_left (by omega)] at hlow
      generalize leN (l.take j) = a at *
      generalize (l[j]'(by omega)).toNat = x at *
      have hor := Lib.hid (or_byte a x j hlow hx hlt)
      go_wp2_with fail
      go_round
      case rel => exact ⟨j + 1, by omega, by go_num, by rw [hor.out, hstep]⟩
      case measure => simp [intOf]; omega
    · obtain rfl : j = 8 := by omega
      have ht : l.take 8 = l := List.take_of_length_le (by omega)
      have HT := Lib.hid ht
      clear ht
      go_wp2_with fail
      go_ret
      exact ⟨by first | rfl | (rw [← HN.out, ← HT.out]; rfl) | (show Ending.returned (.int .u64 (leN _)) = _; rw [HT.out, HN.out]), hB⟩
end Go.Proofs.YthlbciinpidedaaGreat
/- The document's numbers: lodgerref01. -/
namespace Go.Proofs.YthlbciinpidedaaGreat
set_option linter.unusedSimpArgs false
set_option linter.unusedVariables false
set_option maxRecDepth 100000
open Go.RowKit
attribute [local go_sem high] run_mx run_mn

theorem Size_any (n : Int) (w : World) : Calls Tryz.prog 151 #[.int .i64 n] w fun e w' => e = .returned (.int .i64 (mx 0 (mn n 8))) ∧ w = w' := by
  go_enter Tryz.func151, Tryz.ntmps151
  go_wp2
  go_ret
  exact ⟨rfl, rfl⟩

theorem conv_byte (w : World) (x : Int) (hx : 0 ≤ x ∧ x ≤ 255) : (convert 50 9 (.slice (some ⟨w.heap.size, 0, none⟩) 1 1)).run Tryz.prog (w.alloc (.cells #[.int .u8 x] 5)) = .ok (.string ⟨#[UInt8.ofNat x.toNat]⟩) (w.alloc (.cells #[.int .u8 x] 5)) := by
  have hb : ByteBlk (w.alloc (.cells #[.int .u8 x] 5)) w.heap.size [UInt8.ofNat x.toNat] := by
    have h := Blk.new w 5 #[.int .u8 x]
    have hv : ((UInt8.ofNat x.toNat).toNat : Int) = x := by
      rw [UInt8.toNat_ofNat', Nat.mod_eq_of_lt (by omega)]; omega
    refine ⟨fun j hj => ?_, fun j _ => h.frozen j⟩
    obtain rfl : j = 0 := by simp at hj; exact hj
    rw [h.cell]
    show some (Value.int .u8 x) = some (.int .u8 ((UInt8.ofNat x.toNat).toNat : Int))
    rw [hv]
  exact run_toString _ Tryz.underlying50 Tryz.underlying5 Tryz.underlying9 hb rfl

theorem putB_succ (n : Int) (j : Nat) : putB n (j + 1) = putB n j ++ ⟨#[UInt8.ofNat (nbyte n j).toNat]⟩ := by
  apply ByteArray.ext
  apply Array.toList_inj.1
  unfold putB leB
  simp [List.range_succ]
theorem putB_size (n : Int) (j : Nat) : (putB n j).size = j := by
  show (leB n j).toArray.size = j
  rw [List.size_toArray, leB_len]

set_option maxRecDepth 100000 in
set_option maxHeartbeats 4000000 in
theorem RPut_any (n : Int) (k : Nat) (hk : k ≤ 8) (hn : 0 ≤ n ∧ n < 18446744073709551616) (w : World) :
    Calls Tryz.prog 136 #[.int .u64 n, .int .i64 k] w fun e w' => e = .returned (.string (putB n k)) ∧ Below w.heap.size w w' := by
  have e1 : mx 0 (mn (k : Int) 8) = k := by rw [mn_def, mx_def]; omega
  go_enter Tryz.func136, Tryz.ntmps136
  go_wp2_with fail
  go_loopw [0, 5, 6] (fun m s i wr => ∃ j : Nat, j ≤ k ∧ i = .int .i64 j ∧ m = .int .u64 (n / 2 ^ (8 * j)) ∧ s = .string (putB n j) ∧ Below w.heap.size w wr) (fun _ _ i _ => k - (intOf i).toNat)
  case atStart => exact ⟨0, by omega, rfl, by simp, rfl, Below.refl _ _⟩
  case round =>
    obtain ⟨j, hj, rfl, rfl, rfl, hB⟩ := hrel
    by_cases hlt : j < k
    · have hlt' : (j : Int) < (k : Int) := by omega
      have hnb := nbyte_in n j
      have hcv := conv_byte wr (nbyte n j) (by omega)
      have hadd : ∀ w, (Op.stringOp .add (putB n j) ⟨#[UInt8.ofNat (nbyte n j).toNat]⟩).run Tryz.prog w = .ok (.string (putB n (j + 1))) w := fun w => by
        rw [run_string_add_sum, ← putB_succ]
        rw [putB_size]; show j + 1 ≤ _; omega
      have hd : n / 2 ^ (8 * j) / 256 = n / 2 ^ (8 * (j + 1)) := by
        rw [Int.ediv_ediv_of_nonneg (by exact Int.pow_nonneg (by omega)), show 8 * (j + 1) = 8 * j + 8 by omega, Int.pow_add]; rfl
      have hm0 : 0 ≤ n / 2 ^ (8 * j) := Int.ediv_nonneg hn.1 (Int.pow_nonneg (by omega))
      have hv1 : n / 2 ^ (8 * j) % 256 = nbyte n j := rfl
      have hv2 : (n / 2 ^ (8 * j)).tdiv 256 = n / 2 ^ (8 * (j + 1)) := by rw [Int.tdiv_eq_ediv_of_nonneg hm0]; exact hd
      go_wp2_with (first | (go_at_call 151; refine (Size_any _ _).mono ?_; rintro e w' ⟨rfl, rfl⟩))
      go_roundw
      case rel => exact ⟨j + 1, by omega, by go_num, by rw [IntKind.wrap_u64]; congr 1; have h1 : 0 ≤ n / 2 ^ (8 * (j + 1)) := Int.ediv_nonneg hn.1 (Int.pow_nonneg (by omega)); have h2 : n / 2 ^ (8 * (j + 1)) ≤ n := Int.ediv_le_self _ hn.1; omega, rfl, hB.alloc hB.size _⟩
      case measure => simp [intOf]; omega
    · obtain rfl : j = k := by omega
      have hlt' : ¬ ((j : Int) < (j : Int)) := by omega
      go_wp2_with (first | (go_at_call 151; refine (Size_any _ _).mono ?_; rintro e w' ⟨rfl, rfl⟩))
      go_ret
      exact ⟨rfl, hB⟩

set_option maxRecDepth 100000 in
set_option maxHeartbeats 4000000 in
theorem RGet_any (s : ByteArray) (hs : s.size ≤ 8) (w : World) :
    Calls Tryz.prog 140 #[.string s] w fun e w' => e = .returned (.int .u64 (leN s.data.toList)) ∧ w = w' := by
  go_enter Tryz.func140, Tryz.ntmps140
  have e1 : mn (s.size : Int) 8 = s.size := by rw [mn_def]; omega
  have hl : s.data.toList.length = s.size := by rw [Array.length_toList]; rfl
  go_wp2_with fail
  go_loop [3, 4] (fun m i => ∃ j : Nat, j ≤ s.size ∧ i = .int .i64 ((j : Int) - 1) ∧ m = .int .u64 (leN (s.data.toList.drop j))) (fun _ i => (intOf i + 1).toNat)
  case atStart => exact ⟨s.size, by omega, rfl, by rw [List.drop_of_length_le (by omega)]; rfl⟩
  case round =>
    obtain ⟨j, hj, rfl, rfl⟩ := hrel
    by_cases hlt : 1 ≤ j
    · have hlt' : (1 : Int) ≤ (j : Int) := by omega
      have hlow := leN_lt (s.data.toList.drop j)
      rw [List.length_drop, hl] at hlow
      have hlow2 : leN (s.data.toList.drop j) < 2 ^ 56 := Nat.lt_of_lt_of_le hlow (Nat.pow_le_pow_right (by omega) (by omega))
      have hstep : leN (s.data.toList.drop (j - 1)) = (s.data.toList[j - 1]'(by omega)).toNat + 256 * leN (s.data.toList.drop j) := by
        rw [List.drop_eq_getElem_cons (by omega : j - 1 < s.data.toList.length), show j - 1 + 1 = j by omega]; rfl
      have hx := (s.data.toList[j - 1]'(by omega)).toNat_lt
      have hv : IntKind.u64.wrap ((leN (s.data.toList.drop j) : Int) * 256 + IntKind.u64.wrap ((s.data.toList[j - 1]'(by omega)).toNat : Int)) = (leN (s.data.toList.drop (j - 1)) : Int) := by
        rw [hstep, IntKind.wrap_u64, IntKind.wrap_u64]; omega
      have HV := Lib.hid hv
      clear hv hstep hlow hx
      go_wp2_with fail
      go_round
      case rel => exact ⟨j - 1, by omega, by congr 1; omega, by rw [← HV.out]; rfl⟩
      case measure => simp [intOf]; omega
    · obtain rfl : j = 0 := by omega
      go_wp2_with fail
      go_ret
      exact ⟨rfl, rfl⟩
end Go.Proofs.YthlbciinpidedaaGreat
/- crc: the table, and a text's sum. -/
namespace Go.Proofs.YthlbciinpidedaaGreat
set_option linter.unusedSimpArgs false
set_option linter.unusedVariables false
set_option maxRecDepth 100000
open Go.RowKit
attribute [local go_sem high] run_mx run_mn

/-- One bit's step; a byte's rest is eight of them. -/
def stepC (r : Nat) : Nat := if r % 2 = 1 then (r / 2) ^^^ 3988292384 else r / 2
def stepsC : Nat → Nat → Nat
  | 0, r => r
  | k + 1, r => stepC (stepsC k r)
def tabC (i : Nat) : Nat := stepsC 8 i
theorem stepC_lt {r : Nat} (h : r < 4294967296) : stepC r < 4294967296 := by
  unfold stepC
  split
  · exact Nat.xor_lt_two_pow (n := 32) (by omega) (by omega)
  · omega
theorem stepsC_lt (k : Nat) {r : Nat} (h : r < 4294967296) : stepsC k r < 4294967296 := by
  induction k with
  | zero => exact h
  | succ k ih => exact stepC_lt ih
def crcTabAt (i j : Nat) : Value := .int .u32 ((if j < i then tabC j else 0 : Nat) : Int)
def crcCells (i : Nat) : Array Value := ((List.range 256).map (crcTabAt i)).toArray
theorem crcCells_size (i : Nat) : (crcCells i).size = 256 := by simp [crcCells]
theorem crcCells_at (i j : Nat) (hj : j < 256) : (crcCells i)[j]? = some (crcTabAt i j) := by
  unfold crcCells
  rw [List.getElem?_toArray, List.getElem?_map, List.getElem?_range hj]; rfl
theorem crcCells_set (k : Nat) (hk : k < 256) : (crcCells k).setIfInBounds k (.int .u32 (tabC k : Int)) = crcCells (k + 1) := by
  apply Array.ext_getElem?
  intro j
  rw [Array.getElem?_setIfInBounds, crcCells_size]
  by_cases hj : j < 256
  · rw [crcCells_at (k + 1) j hj, crcCells_at k j hj]
    by_cases e : k = j
    · rw [if_pos e, if_pos hk]
      subst e
      unfold crcTabAt; rw [if_pos (by omega)]
    · rw [if_neg e]
      unfold crcTabAt
      by_cases h : j < k
      · rw [if_pos h, if_pos (by omega)]
      · rw [if_neg h, if_neg (by omega)]
  · rw [if_neg (by omega), Array.getElem?_eq_none (by rw [crcCells_size]; omega), Array.getElem?_eq_none (by rw [crcCells_size]; omega)]
theorem zero256 : (Tryz.prog.info? 229).map (fun i => (i.zero, i.size)) = some (some (.agg (crcCells 0)), 256) := by kernel_rfl

set_option maxRecDepth 100000 in
set_option maxHeartbeats 4000000 in
theorem rests_any (w : World) :
    Calls Tryz.prog 158 #[] w fun e w' => e = .returned (.agg (crcCells 256)) ∧ Below w.heap.size w w' := by
  obtain ⟨hz, hi⟩ := zero_of_info zero256
  have h0 : Blk (w.alloc (.cells (crcCells 0) 229)) w.heap.size 229 (crcCells 0) := Blk.new _ _ _
  have hs := crcCells_size 0
  go_enter Tryz.func158, Tryz.ntmps158
  generalize hT0 : crcCells 0 = T0 at *
  go_wp2_with fail
  have h1 : Blk ((w.alloc (.cells T0 229)).alloc (.cells T0 229)) (w.heap.size + 1) 229 T0 := by
    have := Blk.new (w.alloc (.cells T0 229)) 229 T0
    rwa [show (w.alloc (.cells T0 229)).heap.size = w.heap.size + 1 by simp] at this
  have h2 := h0.alloc (.cells T0 229)
  have hB : Below w.heap.size w ((w.alloc (.cells T0 229)).alloc (.cells T0 229)) := ((Below.refl _ _).alloc (Nat.le_refl _) _).alloc (by simp) _
  go_loopw [4] (fun i wr => ∃ j : Nat, j ≤ 256 ∧ i = .int .i64 j ∧ Blk wr (w.heap.size + 1) 229 (crcCells j) ∧ Blk wr w.heap.size 229 T0 ∧ Below w.heap.size w wr) (fun i _ => 256 - (intOf i).toNat)
  case atStart => exact ⟨0, by omega, rfl, by rw [hT0]; exact h1, h2, hB⟩
  case round =>
    clear h0 h1 h2 hB
    obtain ⟨j, hj, rfl, hb, hr, hB⟩ := hrel
    by_cases hlt : j < 256
    · have c1 := (hb.cell j).trans (crcCells_at j j hlt)
      have f1 := hb.frozen j
      go_wp2_with fail
      go_loop [3, 9] (fun r i => ∃ m : Nat, m ≤ 8 ∧ i = .int .i64 m ∧ r = .int .u32 (stepsC m j)) (fun _ i => 8 - (intOf i).toNat)
      case atStart => exact ⟨0, by omega, rfl, rfl⟩
      case round =>
        obtain ⟨m, hm, rfl, rfl⟩ := hrel
        by_cases hlm : m < 8
        · have hrl := stepsC_lt m (r := j) (by omega)
          have hst : stepsC (m + 1) j = stepC (stepsC m j) := rfl
          generalize stepsC m j = r at *
          have hand : bits BinOp.and IntKind.u32 (r : Int) 1 = ((r % 2 : Nat) : Int) := by
            have := u32_and_nat r 1 hrl (by omega)
            rw [Nat.and_one_is_mod] at this
            exact this
          by_cases hodd : r % 2 = 1
          · have hx := u32_xor_nat (r / 2) 3988292384 (by omega) (by omega)
            have hst2 : stepsC (m + 1) j = (r / 2) ^^^ 3988292384 := by rw [hst]; exact if_pos hodd
            have HS := Lib.hid hst2
            rw [hodd] at hand
            clear hst hst2 hodd
            have hx : bits BinOp.xor IntKind.u32 ((r : Int) / 2) 3988292384 = ((r / 2 ^^^ 3988292384 : Nat) : Int) := hx
            go_wp2_with fail
            go_round
            case rel => exact ⟨m + 1, by omega, by go_num, by rw [HS.out]⟩
            case measure => simp [intOf]; omega
          · have hev : r % 2 = 0 := by omega
            have hst2 : stepsC (m + 1) j = r / 2 := by rw [hst]; exact if_neg hodd
            have HS := Lib.hid hst2
            rw [hev] at hand
            clear hst hst2 hodd hev
            go_wp2_with fail
            go_round
            case rel => exact ⟨m + 1, by omega, by go_num, by rw [HS.out]; rfl⟩
            case measure => simp [intOf]; omega
        · obtain rfl : m = 8 := by omega
          go_wp2_with fail
          go_roundw
          case rel => exact ⟨j + 1, by omega, by go_num, by rw [← crcCells_set j hlt]; exact hb.set_ _ _, hr.far (by show w.heap.size ≠ w.heap.size + 1; omega) _, hB.setCell (by show w.heap.size ≤ w.heap.size + 1; omega) _⟩
          case measure => simp [intOf]; omega
    · obtain rfl : j = 256 := by omega
      have hl : (loadVar 229 ⟨w.heap.size + 1, 0, none⟩).run Tryz.prog wr = .ok (.agg (crcCells 256)) wr := run_loadVar_row wr _ _ _ _ (0, 0) _ hb Tryz.underlying229 rfl (by rw [crcCells_size]; exact hi)
      go_wp2_with fail
      unfold Oper.wp
      simp only [execOp, Act.eval, Instr.loadAt, Instr.sureAddr, Sem.run_bind, Sem.run_pure]
      change Oper.upon _ _ _ _ _ (((loadVar 229 ⟨w.heap.size + 1, 0, none⟩).run Tryz.prog wr).andThen fun a w' => Result.ok (Next.value a) w')
      rw [hl, Result.andThen_ok, Oper.upon_value]
      have hst := run_storeVar_row wr w.heap.size 229 229 T0 (crcCells 256) (P := Tryz.prog) hr (by rw [crcCells_size]; exact hi) (by rw [hs, crcCells_size]) (by unfold crcCells; simp [crcTabAt, Value.oneCell'])
      have hsc : (storeCells ⟨w.heap.size, 0, none⟩ (crcCells 256).toList).run Tryz.prog wr = .ok () (wr.setRow w.heap.size (crcCells 256)) := by
        cases hq : Tryz.prog.info? 229 with
        | none => simp [hq] at hi
        | some i =>
          have hs' : (crcCells 256).size = i.size := by rw [crcCells_size]; simp [hq] at hi; omega
          simpa [storeVar, sizeOf, typeInfo, hq, Value.cells, hs'] using hst
      have hb2 : Blk (wr.setRow w.heap.size (crcCells 256)) w.heap.size 229 (crcCells 256) := by
        unfold Blk World.setRow
        simp only [Array.getElem?_modify, if_true]
        rw [show wr.heap[w.heap.size]? = _ from hr]; rfl
      have hld : (loadVar 229 ⟨w.heap.size, 0, none⟩).run Tryz.prog (wr.setRow w.heap.size (crcCells 256)) = .ok (.agg (crcCells 256)) (wr.setRow w.heap.size (crcCells 256)) := run_loadVar_row _ _ _ _ _ (0, 0) _ hb2 Tryz.underlying229 rfl (by rw [crcCells_size]; exact hi)
      have hB2 : Below w.heap.size w (wr.setRow w.heap.size (crcCells 256)) := hB.trans ⟨rfl, rfl, rfl, by simp [World.setRow], fun k hk => by
        simp only [World.setRow, Array.getElem?_modify]
        rw [if_neg (by omega)]⟩
      clear hst hl hb hr hB
      go_wp2_with fail
      (try simp only [Exit.inBlock, Exit.then])
      refine bodyPost_ret (v := .agg (crcCells 256)) ?_ rfl ⟨rfl, hB2⟩
      exact results_cell_row rfl _ _ w.heap.size _ (crcCells 256) (0, 0) _ rfl hb2 Tryz.underlying229 rfl (by rw [crcCells_size]; exact hi)
end Go.Proofs.YthlbciinpidedaaGreat
