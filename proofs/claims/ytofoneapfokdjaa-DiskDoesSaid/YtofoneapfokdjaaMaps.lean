/- Maps keyed by int, as plain functions; frames by the set of blocks that may turn. No program in sight. -/
import Derived.Test.YtofoneapfokdjaaBase
import Derived.Laws.Sem
import Derived.Laws.Entries
import Derived.WalkSpells
import Derived.Carry
namespace Go.Proofs.Ytofoneapfokdjaa
set_option linter.unusedSimpArgs false
set_option linter.unusedVariables false
open Go.RowKit

/-- Only the blocks of S, and new ones, may differ. -/
structure Fr (S : Nat → Prop) (w w' : World) : Prop where
  os : w'.os = w.os
  tape : w'.tape = w.tape
  output : w'.output = w.output
  size : w.heap.size ≤ w'.heap.size
  block : ∀ k, k < w.heap.size → ¬ S k → w'.heap[k]? = w.heap[k]?

section
variable {S S' T : Nat → Prop} {w w' w'' : World} {B : Nat}
theorem Fr.refl (S : Nat → Prop) (w : World) : Fr S w w := ⟨rfl, rfl, rfl, Nat.le_refl _, fun _ _ _ => rfl⟩
theorem Fr.trans (h : Fr S w w') (h' : Fr S' w' w'') (hs : ∀ k, k < w.heap.size → S' k → S k) : Fr S w w'' :=
  ⟨h'.os.trans h.os, h'.tape.trans h.tape, h'.output.trans h.output, Nat.le_trans h.size h'.size, fun k hk hn => (h'.block k (Nat.lt_of_lt_of_le hk h.size) (fun e => hn (hs k hk e))).trans (h.block k hk hn)⟩
theorem Fr.mono (h : Fr S w w') (hs : ∀ k, k < w.heap.size → S k → T k) : Fr T w w' := ⟨h.os, h.tape, h.output, h.size, fun k hk hn => h.block k hk (fun e => hn (hs k hk e))⟩
theorem Fr.of_grown {row : Option Nat} (h : w.grownBy w' row) (hr : ∀ k, row = some k → S k) : Fr S w w' := ⟨h.os, h.tape, h.output, h.size, fun k hk hn => h.block k hk (fun e => hn (hr k e.symm))⟩
theorem Fr.of_below (h : Below w.heap.size w w') : Fr S w w' := ⟨h.os, h.tape, h.output, h.size, fun k hk _ => h.block k hk⟩
theorem Fr.of_below' (h : Below B w w') (hs : ∀ k, k < w.heap.size → B ≤ k → S k) : Fr S w w' := ⟨h.os, h.tape, h.output, h.size, fun k hk hn => h.block k (by rcases Nat.lt_or_ge k B with h1 | h1; exact h1; exact absurd (hs k hk h1) hn)⟩
theorem Fr.below (h : Fr S w w') (hB : B ≤ w.heap.size) (hs : ∀ k, k < w.heap.size → S k → B ≤ k) : Below B w w' :=
  ⟨h.os, h.tape, h.output, h.size, fun k hk => h.block k (Nat.lt_of_lt_of_le hk hB) (fun e => by have := hs k (Nat.lt_of_lt_of_le hk hB) e; omega)⟩
theorem Fr.drew (h : Fr S w w') : Fr S w w'.drew := ⟨h.os, h.tape, h.output, h.size, h.block⟩
theorem Fr.drewN (h : Fr S w w') (n : Nat) : Fr S w (w'.drewN n) := ⟨h.os, h.tape, h.output, h.size, h.block⟩
theorem Fr.alloc (h : Fr S w w') (o : Obj) : Fr S w (w'.alloc o) := ⟨h.os, h.tape, h.output, Nat.le_trans h.size (by simp), fun k hk hn => (Below.heap_alloc w' o k (Nat.lt_of_lt_of_le hk h.size)).trans (h.block k hk hn)⟩
theorem Fr.setCell (h : Fr S w w') {p : Addr} (hp : p.block < w.heap.size → S p.block) (u : Value) : Fr S w (w'.setCell p u) :=
  ⟨h.os, h.tape, h.output, by simpa [World.setCell] using h.size, fun k hk hn => (Below.heap_setCell w' p u k (by rintro rfl; exact hn (hp hk))).trans (h.block k hk hn)⟩
theorem Fr.cell {p : Addr} {v : Value} (h : Fr S w w') (hv : w.cell? p = some v) (hn : ¬ S p.block) : w'.cell? p = some v := by
  have hlt : p.block < w.heap.size := by
    rcases Nat.lt_or_ge p.block w.heap.size with hl | hl
    · exact hl
    · unfold World.cell? at hv; rw [Array.getElem?_eq_none hl] at hv; cases hv
  exact (World.cell?_of_block (h.block p.block hlt hn)).trans hv
theorem Fr.blk {g : Nat} {t : TypeId} {cs : Array Value} (h : Fr S w w') (hb : Blk w g t cs) (hn : ¬ S g) : Blk w' g t cs := (h.block g hb.lt hn).trans hb
theorem Fr.own {base : Nat} {e : TypeId} {size n : Nat} {v : Value} {xs : List Value} (h : Fr S w w') (ho : w.ownsRow base e size v n xs) (hn : ∀ k, v.ownBlock = some k → ¬ S k) : w'.ownsRow base e size v n xs := by
  refine ⟨ho.1, ?_⟩
  have hlt := ho.lt
  rcases ho.2 with h2 | ⟨g, cap, cur, hv, hg, hh, r⟩
  · exact .inl h2
  · exact .inr ⟨g, cap, cur, hv, hg, (h.block g (hlt g (by rw [hv]; rfl)).2 (hn g (by rw [hv]; rfl))).trans hh, r⟩
end

/-- What a list of entries holds at an int. -/
def lookI : List MapEntry → Int → Option Value
  | [], _ => none
  | e :: es, k => match e.key with
    | .int .i64 a => if k = a then some e.val else lookI es k
    | _ => none
def keysI (es : List MapEntry) : Prop := ∀ e ∈ es, ∃ a, e.key = .int .i64 a

/-- Block b is a map from ints that holds f. -/
def IMap (w : World) (b : Nat) (f : Int → Option Value) : Prop :=
  ∃ es clock, w.heap[b]? = some (.map es clock) ∧ keysI es.toList ∧ ∀ k, lookI es.toList k = f k

section
variable {w w' : World} {b : Nat} {f : Int → Option Value}
theorem IMap.lt (h : IMap w b f) : b < w.heap.size := by
  obtain ⟨es, c, hb, _⟩ := h
  rcases Nat.lt_or_ge b w.heap.size with hl | hl
  · exact hl
  · rw [Array.getElem?_eq_none hl] at hb; cases hb
theorem IMap.of_block (h : IMap w b f) (hb : w'.heap[b]? = w.heap[b]?) : IMap w' b f := by
  obtain ⟨es, c, hh, r⟩ := h
  exact ⟨es, c, hb.trans hh, r⟩
theorem IMap.fr {S : Nat → Prop} (h : IMap w b f) (hf : Fr S w w') (hn : ¬ S b) : IMap w' b f := h.of_block (hf.block b h.lt hn)
theorem IMap.new (w : World) : IMap (w.alloc (.map #[] 0)) w.heap.size (fun _ => none) := ⟨#[], 0, heap_alloc_new w _, by simp [keysI], fun _ => rfl⟩
theorem IMap.alloc (h : IMap w b f) (o : Obj) : IMap (w.alloc o) b f := h.of_block (Below.heap_alloc w o b h.lt)
theorem IMap.setCell (h : IMap w b f) {p : Addr} (hp : b ≠ p.block) (u : Value) : IMap (w.setCell p u) b f := h.of_block (Below.heap_setCell w p u b hp)
theorem IMap.drew (h : IMap w b f) : IMap w.drew b f := h
end

theorem findNow_int (k : Int) : ∀ (es : List MapEntry) (i : Nat), keysI es →
    ∃ r, Instr.findNow (.int .i64) (.int .i64 k) es i = some r ∧ (∀ j v, r = some (j, v) → i ≤ j ∧ lookI es k = some v ∧ ∃ e, es[j - i]? = some e ∧ e.key = .int .i64 k) ∧ (r = none → lookI es k = none)
  | [], i, _ => ⟨none, rfl, by simp, fun _ => rfl⟩
  | e :: es, i, h => by
    obtain ⟨a, ha⟩ := h e (by simp)
    by_cases hk : k = a
    · subst hk
      refine ⟨some (i, e.val), by simp [Instr.findNow, ha, Instr.sameNow], ?_, by simp⟩
      rintro j v hjv
      simp at hjv
      obtain ⟨rfl, rfl⟩ := hjv
      exact ⟨Nat.le_refl _, by simp [lookI, ha], e, by simp, ha⟩
    · obtain ⟨r, hr, h1, h2⟩ := findNow_int k es (i + 1) (fun e' he' => h e' (by simp [he']))
      refine ⟨r, by simp [Instr.findNow, ha, Instr.sameNow, beq_eq_false_iff_ne.2 hk, hr], ?_, fun hn => by simp [lookI, ha, hk, h2 hn]⟩
      intro j v hjv
      obtain ⟨h3, h4, e', h5, h6⟩ := h1 j v hjv
      refine ⟨by omega, by simp [lookI, ha, hk, h4], e', ?_, h6⟩
      rw [show j - i = (j - (i + 1)) + 1 by omega]
      simpa using h5

theorem lookI_append (k k' : Int) (v : Value) (c : Nat) : ∀ es : List MapEntry, keysI es → lookI (es ++ [⟨.int .i64 k, v, c⟩]) k' = (lookI es k').or (if k' = k then some v else none)
  | [], _ => by simp [lookI]
  | e :: es, h => by
    obtain ⟨a, ha⟩ := h e (by simp)
    have ih := lookI_append k k' v c es (fun e' he' => h e' (by simp [he']))
    by_cases hk : k' = a <;> simp [lookI, ha, hk, ih]
    all_goals (rw [← hk]; simp [hk])

theorem lookI_modify (k k' : Int) (v : Value) : ∀ (es : List MapEntry) (j : Nat), keysI es → (∃ e, es[j]? = some e ∧ e.key = .int .i64 k) → (∀ i e, i < j → es[i]? = some e → e.key ≠ .int .i64 k) →
    lookI (es.modify j fun e => { e with key := .int .i64 k, val := v }) k' = if k' = k then some v else lookI es k'
  | [], j, _, ⟨e, he, _⟩, _ => by simp at he
  | e :: es, 0, h, ⟨e', he', hke⟩, _ => by
    simp at he'
    subst he'
    by_cases hk : k' = k <;> simp [lookI, hke, hk]
  | e :: es, j + 1, h, ⟨e', he', hke⟩, hf => by
    obtain ⟨a, ha⟩ := h e (by simp)
    have hne : a ≠ k := fun e' => hf 0 e (by omega) (by simp) (by rw [ha, e'])
    have ih := lookI_modify k k' v es j (fun e' he' => h e' (by simp [he'])) ⟨e', by simpa using he', hke⟩ (fun i e' hi he' => hf (i + 1) e' (by omega) (by simpa using he'))
    rw [List.modify_succ_cons]
    by_cases hk : k' = a
    · subst hk; simp [lookI, ha, hne]
    · simp [lookI, ha, hk, ih]

theorem findNow_first (k : Int) : ∀ (es : List MapEntry) (i j : Nat) (v : Value), keysI es → Instr.findNow (.int .i64) (.int .i64 k) es i = some (some (j, v)) → ∀ (q : Nat) (e : MapEntry), q < j - i → es[q]? = some e → e.key ≠ .int .i64 k
  | [], i, j, v, _, h => by simp [Instr.findNow] at h
  | e :: es, i, j, v, hk, h => by
    obtain ⟨a, ha⟩ := hk e (by simp)
    by_cases hka : k = a
    · subst hka
      simp [Instr.findNow, ha, Instr.sameNow] at h
      intro q e' hq
      omega
    · simp [Instr.findNow, ha, Instr.sameNow, beq_eq_false_iff_ne.2 hka] at h
      have ih := findNow_first k es (i + 1) j v (fun e' he' => hk e' (by simp [he'])) h
      intro q e' hq he'
      cases q with
      | zero => simp at he'; subst he'; rw [ha]; simpa using fun h => hka h.symm
      | succ q => exact ih q e' (by omega) (by simpa using he')

section
variable {P : Program} {w : World} {b : Nat} {f : Int → Option Value} {t kt et : TypeId}
theorem run_checkKey_i (hk : P.underlying kt = some (.int .i64)) (e : Bool) (d : Nat) (k : Int) : (Instr.checkKey e (d + 1) kt (.int .i64 k)).run P w = .ok () w := by simp [Instr.checkKey, run_underlying hk]
theorem run_getObj_i {es : Array MapEntry} {cl : Nat} (hb : w.heap[b]? = some (.map es cl)) : (getObj b).run P w = .ok (.map es cl) w := by simp [getObj, Sem.run, hb]
theorem run_setObj_i {es : Array MapEntry} {cl : Nat} (hb : w.heap[b]? = some (.map es cl)) (o : Obj) : (setObj b o).run P w = .ok () { w with heap := w.heap.setIfInBounds b o } := by simp [setObj, Sem.run, hb]

theorem run_lookup_imap (ht : P.underlying t = some (.map kt et)) (hk : P.underlying kt = some (.int .i64)) {z : Value} (hz : (zeroValue et).run P w = .ok z w) (h : IMap w b f) (k : Int) (c : Bool) :
    (Instr.lookup t (.map (some b)) (.int .i64 k) c).run P w = .ok (if c then .tuple #[(f k).getD z, .bool (f k).isSome] else (f k).getD z) w := by
  obtain ⟨es, cl, hb, hke, hf⟩ := h
  obtain ⟨r, hr, h1, h2⟩ := findNow_int k es.toList 0 hke
  have hck : ∀ e : Bool, (Instr.checkKey e 10000 kt (.int .i64 k)).run P w = .ok () w := fun e => run_checkKey_i hk e 9999 k
  cases hr' : r with
  | none =>
    have hn := h2 hr'
    rw [hf] at hn
    subst hr'
    simp [Instr.lookup, run_underlying ht, run_getObj_i hb, hck, Instr.findKey, run_underlying hk, hr, hz, hn]
  | some p =>
    obtain ⟨j, v⟩ := p
    obtain ⟨_, h3, _⟩ := h1 j v hr'
    rw [hf] at h3
    subst hr'
    simp [Instr.lookup, run_underlying ht, run_getObj_i hb, hck, Instr.findKey, run_underlying hk, hr, h3]

/-- A store: the map holds the new value at its key, and all else is as it was. -/
def IPut (w w' : World) (b : Nat) (f : Int → Option Value) : Prop := IMap w' b f ∧ w.grownBy w' (some b) ∧ w'.heap.size = w.heap.size
theorem run_update_imap (ht : P.underlying t = some (.map kt et)) (hk : P.underlying kt = some (.int .i64)) (h : IMap w b f) (k : Int) (v : Value) :
    ∃ w', (Instr.mapUpdate t (.map (some b)) (.int .i64 k) v).run P w = .ok () w' ∧ IPut w w' b (fun k' => if k' = k then some v else f k') := by
  have hlt := h.lt
  obtain ⟨es, cl, hb, hke, hf⟩ := h
  obtain ⟨r, hr, h1, h2⟩ := findNow_int k es.toList 0 hke
  have hck : (Instr.checkKey false 10000 kt (.int .i64 k)).run P w = .ok () w := run_checkKey_i hk false 9999 k
  have hset : ∀ o : Obj, ({ w with heap := w.heap.setIfInBounds b o } : World).heap[b]? = some o := by intro o; simp [hlt]
  have hgr : ∀ o : Obj, w.grownBy { w with heap := w.heap.setIfInBounds b o } (some b) := fun o => ⟨rfl, rfl, rfl, by simp, fun q _ hq => by
    have : b ≠ q := fun e => hq (by rw [e])
    simp [this]⟩
  cases hr' : r with
  | none =>
    have hn := h2 hr'
    subst hr'
    refine ⟨{ w with heap := w.heap.setIfInBounds b (.map (es.push ⟨.int .i64 k, v, cl⟩) (cl + 1)) }, ?_, ⟨_, _, hset _, ?_, fun k' => ?_⟩, hgr _, by simp⟩
    · simp [Instr.mapUpdate, run_underlying ht, run_getObj_i hb, hck, Instr.findKey, run_underlying hk, hr, run_setObj_i hb]
    · intro e he
      simp at he
      rcases he with he | rfl
      · exact hke e (by simpa using he)
      · exact ⟨k, rfl⟩
    · simp only [Array.toList_push]
      rw [lookI_append _ _ _ _ _ hke, hf]
      by_cases hkk : k' = k
      · subst hkk; rw [hf] at hn; simp [hn]
      · simp [hkk]
  | some p =>
    obtain ⟨j, u⟩ := p
    obtain ⟨_, h3, e, he, hek⟩ := h1 j u hr'
    subst hr'
    have he' : es[j]? = some e := by simpa using he
    refine ⟨{ w with heap := w.heap.setIfInBounds b (.map (es.modify j fun e => { e with key := .int .i64 k, val := v }) cl) }, ?_, ⟨_, _, hset _, ?_, fun k' => ?_⟩, hgr _, by simp⟩
    · simp [Instr.mapUpdate, run_underlying ht, run_getObj_i hb, hck, Instr.findKey, run_underlying hk, hr, he', hek, Instr.keyThatStays, Instr.sameBits, run_setObj_i hb]
    · intro e' he2
      rw [Array.toList_modify] at he2
      obtain ⟨q, hq, rfl⟩ := List.getElem_of_mem he2
      rw [List.getElem_modify]
      split
      · exact ⟨k, rfl⟩
      · exact hke _ (List.getElem_mem _)
    · rw [Array.toList_modify, lookI_modify k k' v es.toList j hke ⟨e, by simpa using he', hek⟩ (fun i e' hi he2 => findNow_first k es.toList 0 j u hke hr i e' (by omega) he2)]
      simp only [hf]
end
end Go.Proofs.Ytofoneapfokdjaa
