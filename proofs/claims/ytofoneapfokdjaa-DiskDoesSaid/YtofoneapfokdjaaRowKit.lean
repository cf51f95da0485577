/- How the arguments of a law are opened for its walk. No program in sight. -/
import Derived.Test.YtofoneapfokdjaaBase
import Derived.WalkKit
import Derived.ProofKit
import Derived.OpenShut
import Derived.ShutString
import Derived.ChangeOld
import Derived.SizedLaws
import Derived.Deep.Slices
namespace Go.Proofs.Ytofoneapfokdjaa
set_option linter.unusedSimpArgs false
set_option linter.unusedVariables false
open Go.ChangeShapes Go.WideShapes Go.ChangeAt Go.RowKit Go.Deep

/-- A slice of whole numbers, as a law is handed it. -/
structure IsInts (k : IntKind) (bytes : Nat) (w : World) (A : Option Addr) (n c : Nat) (xs : List Int) : Prop where
  reads : Reads w w.heap.size 1 A n (xs.map (Value.int k))
  len : xs.length = n
  wf : ∀ x ∈ xs, (Lit.int k x).wf = true
  le : n ≤ c
  cap : c ≤ maxLen
  size : n * bytes ≤ 140737488351232

section
variable {b0 : Nat} {H : Type} {enc : TypeId × Value → H} {P : Program} {W : World}
theorem opened_ints {t e : TypeId} {k : IntKind} {v : Value} {d : DataW H} {ps : List MemPlace} {ts : List TypeId} {ds : List (DataW H)} {j : Nat} {bytes : Nat}
    (hu : P.underlying t = some (.slice e)) (he : P.underlying e = some (.int k)) (hc : P.cellsOf e = 1) (hB : P.bytesOf e = bytes)
    (hv : Value.okWide P W .any b0 t v) (h : DataW.Trod enc P W 0 (fun _ => true) true t v d ps)
    (hsz : (DataW.weightsEach P ts ds).all (· ≤ reachBytes) = true) (ht : ts[j]? = some t) (hd : ds[j]? = some d) :
    ∃ A n c xs, v = .slice A n c ∧ IsInts k bytes W A n c xs := by
  obtain ⟨A, n, c, rfl⟩ := okWide_slice hu hv
  obtain ⟨fuel, hf⟩ := h
  rcases open_ints hu he hc hf with ⟨hcs, _⟩ | ⟨x, l, c', zs, hcs, _, hl, hm, hz, hx, hcell, hwz⟩
  · simp [Value.cells] at hcs
    obtain ⟨rfl, rfl, rfl⟩ := hcs
    exact ⟨_, _, _, [], rfl, ⟨Reads.none_, rfl, by simp, Nat.le_refl _, by simp [maxLen], by simp⟩⟩
  · simp [Value.cells] at hcs
    obtain ⟨rfl, rfl, rfl⟩ := hcs
    simp only [if_true] at hz
    obtain ⟨hx, _⟩ := Prod.mk.inj hx
    subst hx
    have z := sized_slice hsz ht hd hu
    rw [hB] at z
    have h1 : (lits (H := H) k (zs.take n)).length + (lits (H := H) k (zs.drop n)).length = zs.length := by simp [lits]; omega
    rw [h1] at z
    refine ⟨_, _, _, zs.take n, rfl, ⟨⟨by simp; omega, fun hn => ⟨x, rfl, by have := lt_of_cell (hcell 0 (by omega)); rwa [block_of_add] at this, fun j u hu => ?_⟩⟩, by simp; omega, fun x hx => hwz x (List.mem_of_mem_take hx), hl, hm, by have := Nat.mul_le_mul_right bytes (show n ≤ zs.length by omega); unfold reachBytes at z; omega⟩⟩
    rw [List.getElem?_map, List.getElem?_take] at hu
    split at hu
    · have hj : j < zs.length := by omega
      rw [List.getElem?_eq_getElem hj] at hu
      have := hcell j hj
      simp at hu this
      rw [← hu]
      simpa [hj] using this
    · simp at hu

theorem exists_list {α : Type} (n : Nat) (R : Nat → α → Prop) (h : ∀ i, i < n → ∃ x, R i x) : ∃ xs : List α, xs.length = n ∧ ∀ (i : Nat) (x : α), xs[i]? = some x → R i x := by
  induction n with
  | zero => exact ⟨[], rfl, by simp⟩
  | succ n ih =>
    obtain ⟨xs, hl, hx⟩ := ih fun i hi => h i (by omega)
    obtain ⟨y, hy⟩ := h n (by omega)
    refine ⟨xs ++ [y], by simp [hl], fun i x hi => ?_⟩
    rw [List.getElem?_append] at hi
    split at hi
    · exact hx i x hi
    · rename_i hge
      have : i - xs.length = 0 := by
        rcases Nat.eq_zero_or_pos (i - xs.length) with h0 | h0
        · exact h0
        · rw [List.getElem?_eq_none (by simp; omega)] at hi; cases hi
      rw [this] at hi
      simp at hi
      subst hi
      rw [show i = n by omega]
      exact hy

/-- A slice, as a law is handed it, each of its elements told by 'f'. -/
structure IsRows {α : Type} (ce bytes : Nat) (f : α → List Value) (Good : α → Prop) (w : World) (A : Option Addr) (n c : Nat) (xs : List α) : Prop where
  reads : Reads w w.heap.size ce A n (xs.flatMap f)
  len : xs.length = n
  good : ∀ x ∈ xs, Good x
  le : n ≤ c
  cap : c ≤ maxLen
  size : n * bytes ≤ 140737488351232

theorem opened_rows {α : Type} {t e : TypeId} {v : Value} {d : DataW H} {ps : List MemPlace} {ts : List TypeId} {ds : List (DataW H)} {j : Nat} {bytes : Nat} (ce : Nat) (f : α → List Value) (Good : α → Prop)
    (hce : 0 < ce) (hf : ∀ x, (f x).length = ce)
    (hu : P.underlying t = some (.slice e)) (hc : P.cellsOf e = ce) (hB : P.bytesOf e = bytes)
    (helem : ∀ (fuel : Nat) (cs : List Value) (x : DataW H × List MemPlace), DataW.trod enc P W 0 (fun _ => true) true fuel e cs = some x → ∃ a : α, cs = f a ∧ Good a)
    (hv : Value.okWide P W .any b0 t v) (h : DataW.Trod enc P W 0 (fun _ => true) true t v d ps)
    (hsz : (DataW.weightsEach P ts ds).all (· ≤ reachBytes) = true) (ht : ts[j]? = some t) (hd : ds[j]? = some d) :
    ∃ A n c xs, v = .slice A n c ∧ IsRows ce bytes f Good W A n c xs := by
  obtain ⟨A, n, c, rfl⟩ := okWide_slice hu hv
  obtain ⟨fuel, hf'⟩ := h
  rcases open_slice hu hf' with ⟨hcs, _⟩ | ⟨a, l, c', m, k, D, Pl, hcs, _, hl, hm, hmm, hx, hi⟩
  · simp [Value.cells] at hcs
    obtain ⟨rfl, rfl, rfl⟩ := hcs
    exact ⟨_, _, _, [], rfl, ⟨Reads.none_, rfl, by simp, Nat.le_refl _, by simp [maxLen], by simp⟩⟩
  · simp [Value.cells] at hcs
    obtain ⟨rfl, rfl, rfl⟩ := hcs
    simp only [if_true] at hmm
    subst hmm
    obtain ⟨hx, _⟩ := Prod.mk.inj hx
    subst hx
    have z := sized_slice hsz ht hd hu
    rw [hB] at z
    simp only [List.length_map, List.length_range] at z
    have hstep : ∀ i, i < n → ∃ x : α, (∀ q, q < ce → W.cell? ((a.add (i * ce)).add q) = (f x)[q]?) ∧ Good x := by
      intro i hin
      obtain ⟨cs', hcs', htr⟩ := hi i (by omega)
      obtain ⟨_, hlen, hat⟩ := World.cells?_some hcs'
      obtain ⟨x, rfl, hg⟩ := helem _ _ _ htr
      rw [hc] at hat
      exact ⟨x, hat, hg⟩
    obtain ⟨xs, hxl, hxs⟩ := exists_list n _ hstep
    refine ⟨_, _, _, xs, rfl, ⟨⟨?_, fun hn => ⟨a, rfl, ?_, fun q u hq => ?_⟩⟩, hxl, fun x hx => ?_, hl, hm, ?_⟩⟩
    · have : ∀ l : List α, (l.flatMap f).length = l.length * ce := by
        intro l
        induction l with
        | nil => simp
        | cons x l ih => rw [List.flatMap_cons, List.length_append, hf, ih, List.length_cons, Nat.add_mul]; omega
      rw [this, hxl]
    · have h0 : 0 < xs.length := by omega
      obtain ⟨h1, _⟩ := hxs 0 xs[0] (List.getElem?_eq_getElem h0)
      have h2 := h1 0 hce
      have h3 : 0 < (f xs[0]).length := by rw [hf]; exact hce
      rw [List.getElem?_eq_getElem h3] at h2
      have := lt_of_cell h2
      rwa [block_of_add, block_of_add] at this
    · rw [getElem?_flatMap_row f ce hce hf] at hq
      cases hx : xs[q / ce]? with
      | none => rw [hx] at hq; simp at hq
      | some x =>
        rw [hx] at hq
        simp only [Option.bind_some] at hq
        obtain ⟨h1, _⟩ := hxs _ _ hx
        have := h1 (q % ce) (Nat.mod_lt _ hce)
        rw [add_of_add, Nat.div_add_mod'] at this
        rw [this, hq]
    · obtain ⟨i, hi', rfl⟩ := List.getElem_of_mem hx
      exact (hxs i _ (List.getElem?_eq_getElem hi')).2
    · unfold reachBytes at z
      exact Nat.le_trans (Nat.mul_le_mul_right bytes (Nat.le_add_right n _)) z

/-- The cells of element i. -/
theorem IsRows.at_ {α : Type} {ce bytes : Nat} {f : α → List Value} {Good : α → Prop} {A : Option Addr} {n c : Nat} {xs : List α} (h : IsRows ce bytes f Good W A n c xs) (hce : 0 < ce) (hf : ∀ x, (f x).length = ce) {i : Nat} (hi : i < n) :
    ∃ (ad : Addr) (x : α), A = some ad ∧ xs[i]? = some x ∧ Good x ∧ ad.block < W.heap.size ∧ ∀ q, q < ce → W.cell? (ad.add (i * ce + q)) = (f x)[q]? := by
  obtain ⟨ad, e, hb, hc⟩ := h.reads.2 (by omega)
  have hl : i < xs.length := by have := h.len; omega
  refine ⟨ad, xs[i], e, List.getElem?_eq_getElem hl, h.good _ (List.getElem_mem _), hb, fun q hq => ?_⟩
  have h3 : q < (f xs[i]).length := by rw [hf]; exact hq
  rw [List.getElem?_eq_getElem h3]
  refine hc _ _ ?_
  rw [getElem?_flatMap_row f ce hce hf, Nat.add_comm, Nat.add_mul_div_right _ _ hce, Nat.div_eq_of_lt hq, Nat.add_mul_mod_self_right, Nat.mod_eq_of_lt hq]
  simp [hl]

def pairCells (k : IntKind) (p : Int × Int) : List Value := [.int k p.1, .int k p.2]
def GoodPair (k : IntKind) (p : Int × Int) : Prop := (Lit.int k p.1).wf = true ∧ (Lit.int k p.2).wf = true
abbrev IsPairs (k : IntKind) (bytes : Nat) := IsRows 2 bytes (pairCells k) (GoodPair k)
theorem pair_elem {k : IntKind} {e i : TypeId} (he : P.underlying e = some (.array 2 i)) (hi : P.underlying i = some (.int k)) (h2 : P.cellsOf e = 2) (h1 : P.cellsOf i = 1) (fuel : Nat) (cs : List Value) (x : DataW H × List MemPlace)
    (h : DataW.trod enc P W 0 (fun _ => true) true fuel e cs = some x) : ∃ p : Int × Int, cs = pairCells k p ∧ GoodPair k p := by
  obtain ⟨xs, m, _, _, hlen, hxl, hat⟩ := DataW.trod_array he h
  rw [h2] at hlen
  match cs, hlen with
  | [c0, c1], _ =>
    have a0 := hat 0 (by omega)
    have a1 := hat 1 (by omega)
    match xs, hxl with
    | [y0, y1], _ =>
      simp [h1] at a0 a1
      obtain ⟨p, e0, _, w0⟩ := DataW.trod_int hi a0
      obtain ⟨q, e1, _, w1⟩ := DataW.trod_int hi a1
      simp at e0 e1
      exact ⟨(p, q), by simp [pairCells, e0, e1], w0, w1⟩

theorem opened_int {t : TypeId} {k : IntKind} {v : Value} {d : DataW H} {ps : List MemPlace} (hu : P.underlying t = some (.int k))
    (hv : Value.okWide P W .any b0 t v) (h : DataW.Trod enc P W 0 (fun _ => true) true t v d ps) : ∃ a : Int, v = .int k a ∧ (Lit.int k a).wf = true := by
  obtain ⟨a, rfl, _, _, w⟩ := open_int hu hv h
  exact ⟨a, rfl, w⟩
theorem opened_bool {t : TypeId} {v : Value} {d : DataW H} {ps : List MemPlace} (hu : P.underlying t = some .bool)
    (hv : Value.okWide P W .any b0 t v) (h : DataW.Trod enc P W 0 (fun _ => true) true t v d ps) : ∃ a : Bool, v = .bool a := by
  obtain ⟨a, rfl, _, _⟩ := open_bool hu hv h
  exact ⟨a, rfl⟩
theorem opened_str {t : TypeId} {v : Value} {d : DataW H} {ps : List MemPlace} {ts : List TypeId} {ds : List (DataW H)} {j : Nat} (hu : P.underlying t = some .string)
    (hv : Value.okWide P W .any b0 t v) (h : DataW.Trod enc P W 0 (fun _ => true) true t v d ps)
    (hsz : (DataW.weightsEach P ts ds).all (· ≤ reachBytes) = true) (ht : ts[j]? = some t) (hd : ds[j]? = some d) : ∃ s : ByteArray, v = .string s ∧ s.size ≤ 140737488351232 := by
  obtain ⟨a, rfl, rfl, _, y⟩ := Go.ChangeMaps.open_string hu hv h
  refine ⟨a, rfl, ?_⟩
  have z := sized_string hsz ht hd
  rw [Array.length_toList] at z
  exact z

def oneBool (b : Bool) : List Value := [.bool b]
abbrev IsBools := IsRows 1 1 oneBool (fun _ => True)
theorem opened_bools {t e : TypeId} {v : Value} {d : DataW H} {ps : List MemPlace} {ts : List TypeId} {ds : List (DataW H)} {j : Nat}
    (hu : P.underlying t = some (.slice e)) (he : P.underlying e = some .bool) (hc : P.cellsOf e = 1) (hB : P.bytesOf e = 1)
    (hv : Value.okWide P W .any b0 t v) (h : DataW.Trod enc P W 0 (fun _ => true) true t v d ps)
    (hsz : (DataW.weightsEach P ts ds).all (· ≤ reachBytes) = true) (ht : ts[j]? = some t) (hd : ds[j]? = some d) :
    ∃ A n c xs, v = .slice A n c ∧ IsBools W A n c xs :=
  opened_rows 1 oneBool (fun _ => True) (by omega) (fun _ => rfl) hu hc hB (fun fuel cs x h => by
    obtain ⟨b, h1, _⟩ := DataW.trod_bool he h
    exact ⟨b, h1, trivial⟩) hv h hsz ht hd
theorem IsBools.reads_ {w : World} {A : Option Addr} {n c : Nat} {xs : List Bool} (h : IsBools w A n c xs) : Reads w w.heap.size 1 A n (xs.map Value.bool) := by
  have := h.reads
  have e : xs.flatMap oneBool = xs.map Value.bool := by
    clear h this
    induction xs with
    | nil => rfl
    | cons x xs ih => rw [List.flatMap_cons, ih]; rfl
  rwa [e] at this
def oneStr (s : ByteArray) : List Value := [.string s]
abbrev IsStrs := IsRows 1 16 oneStr (fun s => s.size ≤ maxLen)
theorem opened_strs {t e : TypeId} {v : Value} {d : DataW H} {ps : List MemPlace} {ts : List TypeId} {ds : List (DataW H)} {j : Nat}
    (hu : P.underlying t = some (.slice e)) (he : P.underlying e = some .string) (hc : P.cellsOf e = 1) (hB : P.bytesOf e = 16)
    (hv : Value.okWide P W .any b0 t v) (h : DataW.Trod enc P W 0 (fun _ => true) true t v d ps)
    (hsz : (DataW.weightsEach P ts ds).all (· ≤ reachBytes) = true) (ht : ts[j]? = some t) (hd : ds[j]? = some d) :
    ∃ A n c xs, v = .slice A n c ∧ IsStrs W A n c xs :=
  opened_rows 1 oneStr (fun s => s.size ≤ maxLen) (by omega) (fun _ => rfl) hu hc hB (fun fuel cs x h => by
    obtain ⟨b, h1, _, h2⟩ := DataW.trod_string he h
    exact ⟨b, h1, h2⟩) hv h hsz ht hd
theorem IsStrs.reads_ {w : World} {A : Option Addr} {n c : Nat} {xs : List ByteArray} (h : IsStrs w A n c xs) : Reads w w.heap.size 1 A n (xs.map Value.string) := by
  have := h.reads
  have e : xs.flatMap oneStr = xs.map Value.string := by
    clear h this
    induction xs with
    | nil => rfl
    | cons x xs ih => rw [List.flatMap_cons, ih]; rfl
  rwa [e] at this
/-- An array of two, by value. -/
theorem opened_arr2 {t i : TypeId} {k : IntKind} {v : Value} {d : DataW H} {ps : List MemPlace} (hu : P.underlying t = some (.array 2 i)) (hi : P.underlying i = some (.int k)) (h2 : P.cellsOf t = 2) (h1 : P.cellsOf i = 1)
    (hv : Value.okWide P W .any b0 t v) (h : DataW.Trod enc P W 0 (fun _ => true) true t v d ps) : ∃ p : Int × Int, v = .agg #[.int k p.1, .int k p.2] ∧ GoodPair k p := by
  simp only [Value.okWide, hu] at hv
  obtain ⟨cs, rfl, _⟩ := hv
  obtain ⟨fuel, hf⟩ := h
  obtain ⟨p, hp, hg⟩ := pair_elem hu hi h2 h1 fuel _ _ hf
  refine ⟨p, ?_, hg⟩
  have hp : cs.toList = pairCells k p := hp
  rw [← Array.toList_inj.1 (show cs.toList = (#[.int k p.1, .int k p.2] : Array Value).toList from hp)]
end
end Go.Proofs.Ytofoneapfokdjaa
