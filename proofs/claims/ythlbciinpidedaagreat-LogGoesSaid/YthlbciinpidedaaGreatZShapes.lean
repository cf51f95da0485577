/- How an argument of any nested shape is opened for a walk: whole numbers, bools, strings, slices, structs, one in the other. No program in sight. -/
import Derived.Test.YthlbciinpidedaaGreatZK1
namespace Go.Proofs.YthlbciinpidedaaGreat
set_option linter.unusedSimpArgs false
set_option linter.unusedVariables false
set_option maxRecDepth 100000
open Go.ChangeShapes Go.WideShapes Go.ChangeAt Go.RowKit Go.Deep

section
variable {H : Type} {enc : TypeId × Value → H} {P : Program} {W : World} {b0 : Nat}
/-- What is read at the type t has the form R. -/
def Rd (enc : TypeId × Value → H) (P : Program) (W : World) (t : TypeId) (R : List Value → Prop) : Prop :=
  ∀ (fuel : Nat) (cs : List Value) (x : DataW H × List MemPlace), DataW.trod enc P W 0 (fun _ => true) true fuel t cs = some x → R cs
def rdInt (k : IntKind) (cs : List Value) : Prop := ∃ n : Int, cs = [.int k n] ∧ (Lit.int k n).wf = true
def rdBool (cs : List Value) : Prop := ∃ b : Bool, cs = [.bool b]
def rdStr (cs : List Value) : Prop := ∃ s : ByteArray, cs = [.string s] ∧ s.size ≤ maxLen
/-- The elements of a slice of elements of ce cells. -/
structure Elems (W : World) (ce : Nat) (Q : List Value → Prop) (A : Option Addr) (n c : Nat) (xss : List (List Value)) : Prop where
  le : n ≤ c
  cap : c ≤ maxLen
  len : xss.length = n
  good : ∀ x ∈ xss, x.length = ce ∧ Q x
  at_ : ∀ (k : Nat) (x : List Value), xss[k]? = some x → ∃ ad, A = some ad ∧ ad.block < W.heap.size ∧ ∀ q, q < ce → W.cell? (ad.add (k * ce + q)) = x[q]?
def rdSlice (W : World) (ce : Nat) (Q : List Value → Prop) (cs : List Value) : Prop := ∃ A n c xss, cs = [.slice A n c] ∧ Elems W ce Q A n c xss
/-- Fields, one behind the other. -/
def Parts : List (List Value → Prop) → List Value → Prop
  | [], cs => cs = []
  | R :: Rs, cs => ∃ a b, cs = a ++ b ∧ R a ∧ Parts Rs b
theorem tr_int {t : TypeId} {k : IntKind} (hu : P.underlying t = some (.int k)) : Rd enc P W t (rdInt k) := fun fuel cs x h => by
  obtain ⟨n, e, _, w⟩ := DataW.trod_int hu h
  exact ⟨n, e, w⟩
theorem tr_bool {t : TypeId} (hu : P.underlying t = some .bool) : Rd enc P W t rdBool := fun fuel cs x h => by
  obtain ⟨b, e, _⟩ := DataW.trod_bool hu h
  exact ⟨b, e⟩
theorem tr_str {t : TypeId} (hu : P.underlying t = some .string) : Rd enc P W t rdStr := fun fuel cs x h => by
  obtain ⟨s, e, _, w⟩ := DataW.trod_string hu h
  exact ⟨s, e, w⟩
theorem tr_slice {t e : TypeId} {ce : Nat} {Q : List Value → Prop} (hce : 0 < ce) (hu : P.underlying t = some (.slice e)) (hc : P.cellsOf e = ce) (hQ : Rd enc P W e Q) : Rd enc P W t (rdSlice W ce Q) := fun fuel cs x h => by
  rcases open_slice hu h with ⟨rfl, _⟩ | ⟨a, n, c, m, k, D, Pl, rfl, _, hl, hm, hmm, hx, hi⟩
  · exact ⟨none, 0, 0, [], rfl, ⟨Nat.le_refl _, by simp [maxLen], rfl, by simp, by simp⟩⟩
  · simp only [if_true] at hmm
    subst hmm
    have hstep : ∀ i, i < n → ∃ x : List Value, (x.length = ce ∧ Q x) ∧ ∀ q, q < ce → W.cell? (a.add (i * ce + q)) = x[q]? := by
      intro i hin
      obtain ⟨cs', hcs', htr⟩ := hi i (by omega)
      obtain ⟨_, hlen, hat⟩ := World.cells?_some hcs'
      rw [hc] at hlen hat
      exact ⟨cs', ⟨hlen, hQ _ _ _ htr⟩, fun q hq => by rw [← add_of_add]; exact hat q hq⟩
    obtain ⟨xs, hxl, hxs⟩ := exists_list n _ hstep
    refine ⟨some a, n, _, xs, rfl, ⟨hl, hm, hxl, fun x hx => ?_, fun k x hk => ⟨a, rfl, ?_, (hxs k x hk).2⟩⟩⟩
    · obtain ⟨i, hi', rfl⟩ := List.getElem_of_mem hx
      exact (hxs i _ (List.getElem?_eq_getElem hi')).1
    · have h2 := (hxs k x hk).2 0 hce
      have h3 : 0 < x.length := by rw [(hxs k x hk).1.1]; exact hce
      rw [List.getElem?_eq_getElem h3] at h2
      have := lt_of_cell h2
      rwa [block_of_add] at this
/-- The fields fs, from offset n on, have the forms Rs. -/
def FieldsRd (enc : TypeId × Value → H) (P : Program) (W : World) : Nat → List Field → List (List Value → Prop) → Prop
  | _, [], [] => True
  | n, f :: fs, R :: Rs => f.offset = n ∧ Rd enc P W f.type R ∧ FieldsRd enc P W (n + P.cellsOf f.type) fs Rs
  | _, _, _ => False
theorem fields_parts : ∀ (fs : List Field) (Rs : List (List Value → Prop)) (n m : Nat) (cs : List Value), FieldsRd enc P W n fs Rs → cs.length = n + (fs.map fun f => P.cellsOf f.type).sum →
    (∀ (j : Nat) (f : Field), fs[j]? = some f → ∃ y, DataW.trod enc P W 0 (fun _ => true) true m f.type ((cs.drop f.offset).take (P.cellsOf f.type)) = some y) → Parts Rs (cs.drop n)
  | [], [], n, m, cs, _, hl, _ => by
    show cs.drop n = []
    exact List.drop_of_length_le (by simpa using Nat.le_of_eq hl)
  | f :: fs, R :: Rs, n, m, cs, ⟨ho, hR, hr⟩, hl, hf => by
    obtain ⟨y, hy⟩ := hf 0 f rfl
    rw [ho] at hy
    have ih := fields_parts fs Rs (n + P.cellsOf f.type) m cs hr (by rw [hl]; simp; omega) (fun j f' hj => hf (j + 1) f' (by simpa using hj))
    refine ⟨(cs.drop n).take (P.cellsOf f.type), cs.drop (n + P.cellsOf f.type), ?_, hR _ _ _ hy, ih⟩
    rw [← List.drop_drop, List.take_append_drop]
  | [], _ :: _, _, _, _, h, _, _ => h.elim
  | _ :: _, [], _, _, _, h, _, _ => h.elim
theorem tr_struct {t : TypeId} {fs : Array Field} {Rs : List (List Value → Prop)} (hu : P.underlying t = some (.struct fs)) (hn : P.cellsOf t = (fs.toList.map fun f => P.cellsOf f.type).sum) (hk : FieldsRd enc P W 0 fs.toList Rs) : Rd enc P W t (Parts Rs) := fun fuel cs x h => by
  obtain ⟨xs, m, _, _, hl, hlen, hat⟩ := DataW.trod_struct hu h
  have := fields_parts fs.toList Rs 0 m cs hk (by rw [hl, hn]; simp) (fun j f hj => by
    have hlt : j < xs.length := by
      rw [hlen]
      have := (List.getElem?_eq_some_iff.1 hj).1
      simpa using this
    exact ⟨xs[j], by
      have h2 := hat j f (by simpa using hj)
      rw [List.getElem?_eq_getElem hlt] at h2
      exact h2⟩)
  simpa using this
theorem Parts.cons {R : List Value → Prop} {Rs : List (List Value → Prop)} {cs : List Value} (h : Parts (R :: Rs) cs) : ∃ a b, cs = a ++ b ∧ R a ∧ Parts Rs b := h
/-- The argument's own cells have the form. -/
theorem opened_agg {t : TypeId} {fs : Array Field} {R : List Value → Prop} {v : Value} {d : DataW H} {ps : List MemPlace} (hu : P.underlying t = some (.struct fs)) (hR : Rd enc P W t R)
    (hv : Value.okWide P W .any b0 t v) (h : DataW.Trod enc P W 0 (fun _ => true) true t v d ps) : ∃ cs : List Value, v = .agg cs.toArray ∧ R cs := by
  simp only [Value.okWide, hu] at hv
  obtain ⟨cs, rfl, _⟩ := hv
  obtain ⟨fuel, hf⟩ := h
  exact ⟨cs.toList, by simp, hR _ _ _ hf⟩
theorem opened_sl {t e : TypeId} {ce : Nat} {Q : List Value → Prop} {v : Value} {d : DataW H} {ps : List MemPlace} (hu : P.underlying t = some (.slice e)) (hR : Rd enc P W t (rdSlice W ce Q))
    (hv : Value.okWide P W .any b0 t v) (h : DataW.Trod enc P W 0 (fun _ => true) true t v d ps) : ∃ A n c xss, v = .slice A n c ∧ Elems W ce Q A n c xss := by
  obtain ⟨A, n, c, rfl⟩ := okWide_slice hu hv
  obtain ⟨fuel, hf⟩ := h
  obtain ⟨A', n', c', xss, e, hE⟩ := hR _ _ _ hf
  simp [Value.cells] at e
  obtain ⟨rfl, rfl, rfl⟩ := e
  exact ⟨_, _, _, xss, rfl, hE⟩
/-- Element k. -/
theorem Elems.get {ce : Nat} {Q : List Value → Prop} {A : Option Addr} {n c : Nat} {xss : List (List Value)} (h : Elems W ce Q A n c xss) {k : Nat} (hk : k < n) :
    ∃ ad x, A = some ad ∧ ad.block < W.heap.size ∧ Q x ∧ x.length = ce ∧ ∀ q, q < ce → W.cell? (ad.add (k * ce + q)) = x[q]? := by
  have hl : k < xss.length := by rw [h.len]; exact hk
  obtain ⟨ad, e, hb, hc⟩ := h.at_ k xss[k] (List.getElem?_eq_getElem hl)
  obtain ⟨g1, g2⟩ := h.good _ (List.getElem_mem hl)
  exact ⟨ad, xss[k], e, hb, g2, g1, hc⟩
/-- A slice of bools, as a list. -/
theorem Elems.bools {A : Option Addr} {n c : Nat} {xss : List (List Value)} (h : Elems W 1 rdBool A n c xss) : ∃ bs : List Bool, bs.length = n ∧ ∀ k, k < n → ∃ ad, A = some ad ∧ ad.block < W.heap.size ∧ W.cell? (ad.add k) = some (.bool (bs[k]?.getD false)) := by
  obtain ⟨bs, h1, h2⟩ := exists_list (α := Bool) n (fun k b => ∃ ad, A = some ad ∧ ad.block < W.heap.size ∧ W.cell? (ad.add k) = some (.bool b)) (fun k hk => by
    obtain ⟨ad, x, e, hb, ⟨b, rfl⟩, _, hc⟩ := h.get hk
    have := hc 0 (by omega)
    simp only [Nat.mul_one, Nat.add_zero, List.getElem?_cons_zero] at this
    exact ⟨b, ad, e, hb, this⟩)
  refine ⟨bs, h1, fun k hk => ?_⟩
  have hl : k < bs.length := by omega
  rw [List.getElem?_eq_getElem hl]
  exact h2 k _ (List.getElem?_eq_getElem hl)
end
end Go.Proofs.YthlbciinpidedaaGreat
