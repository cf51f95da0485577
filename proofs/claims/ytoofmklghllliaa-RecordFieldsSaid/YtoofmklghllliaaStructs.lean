/- How a struct of plain fields among a law's arguments is opened for its walk. No program in sight. -/
import Derived.Test.YtoofmklghllliaaRowKit
namespace Go.Proofs.Ytoofmklghllliaa
set_option linter.unusedSimpArgs false
set_option linter.unusedVariables false
open Go.ChangeShapes Go.WideShapes Go.ChangeAt Go.RowKit Go.Deep

/-- A field's kind. -/
inductive FK where
  | int (k : IntKind)
  | str
  | bool
def FK.desc : FK → TypeDesc
  | .int k => .int k
  | .str => .string
  | .bool => .bool
def FK.Good : FK → Value → Prop
  | .int k, v => ∃ n, v = .int k n ∧ (Lit.int k n).wf = true
  | .str, v => ∃ s : ByteArray, v = .string s ∧ s.size ≤ maxLen
  | .bool, v => ∃ b, v = .bool b
def FlatP (P : Program) : Nat → List Field → List FK → Prop
  | _, [], [] => True
  | n, f :: fs, k :: ks => P.underlying f.type = some k.desc ∧ P.cellsOf f.type = 1 ∧ f.offset = n ∧ FlatP P (n + 1) fs ks
  | _, _, _ => False
section
variable {H : Type} {enc : TypeId × Value → H} {P : Program} {W : World} {b0 : Nat}
theorem trod_fk {k : FK} {t : TypeId} {fuel : Nat} {cs : List Value} {x : DataW H × List MemPlace} (hu : P.underlying t = some k.desc) (h : DataW.trod enc P W 0 (fun _ => true) true fuel t cs = some x) : ∃ v, cs = [v] ∧ k.Good v := by
  cases k with
  | int k => obtain ⟨n, e, _, w⟩ := DataW.trod_int hu h; exact ⟨_, e, n, rfl, w⟩
  | str => obtain ⟨s, e, _, w⟩ := DataW.trod_string hu h; exact ⟨_, e, s, rfl, w⟩
  | bool => obtain ⟨b, e, _⟩ := DataW.trod_bool hu h; exact ⟨_, e, b, rfl⟩
def GoodAll : List FK → List Value → Prop
  | [], [] => True
  | k :: ks, v :: vs => k.Good v ∧ GoodAll ks vs
  | _, _ => False
theorem GoodAll.cons {k : FK} {ks : List FK} {vs : List Value} (h : GoodAll (k :: ks) vs) : ∃ v us, vs = v :: us ∧ k.Good v ∧ GoodAll ks us := by
  cases vs with
  | nil => exact h.elim
  | cons v us => exact ⟨v, us, rfl, h.1, h.2⟩
theorem GoodAll.nil {vs : List Value} (h : GoodAll [] vs) : vs = [] := by
  cases vs with
  | nil => rfl
  | cons v us => exact h.elim
theorem flat_good : ∀ (fs : List Field) (ks : List FK) (n m : Nat) (cs : List Value), FlatP P n fs ks → cs.length = n + fs.length →
    (∀ (j : Nat) (f : Field), fs[j]? = some f → ∃ y, DataW.trod enc P W 0 (fun _ => true) true m f.type ((cs.drop f.offset).take (P.cellsOf f.type)) = some y) → GoodAll ks (cs.drop n)
  | [], [], n, m, cs, _, hl, _ => by
    rw [List.drop_of_length_le (by simpa using Nat.le_of_eq hl)]; exact trivial
  | f :: fs, k :: ks, n, m, cs, ⟨hu, hc, ho, hr⟩, hl, hf => by
    obtain ⟨y, hy⟩ := hf 0 f rfl
    rw [hc, ho] at hy
    obtain ⟨v, hv, hg⟩ := trod_fk hu hy
    have hlt : n < cs.length := by rw [hl]; simp
    have hd := List.drop_eq_getElem_cons hlt
    have : cs[n] = v := by
      rw [hd, List.take_succ_cons, List.take_zero] at hv
      injection hv
    rw [hd]
    rw [this]
    exact ⟨hg, flat_good fs ks (n + 1) m cs hr (by rw [hl]; simp; omega) (fun j f' hj => hf (j + 1) f' (by simpa using hj))⟩
  | [], _ :: _, _, _, _, h, _, _ => h.elim
  | _ :: _, [], _, _, _, h, _, _ => h.elim
/-- The argument is a struct of such fields. -/
theorem opened_flat {t : TypeId} {fs : Array Field} {ks : List FK} {v : Value} {d : DataW H} {ps : List MemPlace} (hu : P.underlying t = some (.struct fs)) (hk : FlatP P 0 fs.toList ks) (hn : P.cellsOf t = fs.toList.length)
    (hv : Value.okWide P W .any b0 t v) (h : DataW.Trod enc P W 0 (fun _ => true) true t v d ps) : ∃ vs : List Value, v = .agg vs.toArray ∧ GoodAll ks vs := by
  simp only [Value.okWide, hu] at hv
  obtain ⟨cs, rfl, _⟩ := hv
  obtain ⟨fuel, hf⟩ := h
  obtain ⟨xs, n, _, _, hl, hlen, hat⟩ := DataW.trod_struct hu hf
  refine ⟨cs.toList, by simp, ?_⟩
  have hl : cs.toList.length = P.cellsOf t := hl
  have := flat_good fs.toList ks 0 n cs.toList hk (by rw [hl, hn]; simp) (fun j f hj => by
    have hlt : j < xs.length := by
      rw [hlen]
      have := (List.getElem?_eq_some_iff.1 hj).1
      simpa using this
    exact ⟨xs[j], by
      have h2 := hat j f (by simpa using hj)
      rw [List.getElem?_eq_getElem hlt] at h2
      exact h2⟩)
  simpa using this
end
end Go.Proofs.Ytoofmklghllliaa
