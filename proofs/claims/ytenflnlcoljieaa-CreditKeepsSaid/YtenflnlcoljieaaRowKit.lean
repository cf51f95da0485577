/- How the arguments of a law are opened for its walk. No program in sight. -/
import Derived.Test.YtenflnlcoljieaaBase
import Derived.WalkKit
import Derived.ProofKit
import Derived.OpenShut
import Derived.ShutString
import Derived.ChangeOld
import Derived.SizedLaws
import Derived.Deep.Slices
namespace Go.Proofs.Ytenflnlcoljieaa
open Go.ChangeShapes Go.WideShapes Go.ChangeAt Go.RowKit Go.Deep

theorem lt_of_cell {w : World} {a : Addr} {v : Value} (h : w.cell? a = some v) : a.block < w.heap.size := by
  rcases Nat.lt_or_ge a.block w.heap.size with hlt | hge
  · exact hlt
  · exfalso
    unfold World.cell? at h
    rw [Array.getElem?_eq_none hge] at h
    cases h

/-- A slice of whole numbers, as a law is handed it. -/
structure IsInts (k : IntKind) (bytes : Nat) (w : World) (A : Option Addr) (n c : Nat) (xs : List Int) : Prop where
  reads : Reads w w.heap.size 1 A n (xs.map (Value.int k))
  len : xs.length = n
  wf : ∀ x ∈ xs, (Lit.int k x).wf = true
  le : n ≤ c
  cap : c ≤ maxLen
  size : n * bytes ≤ 140737488351232

section
variable {b0 : Nat} {H : Type} {enc : TypeId × Value → H} {P : Program} {W : World}
theorem opened_ints {t e : TypeId} {k : IntKind} {v : Value} {d : DataW H} {ps : List MemPlace} {ts : List TypeId} {ds : List (DataW H)} {j : Nat} {bytes : Nat}
    (hu : P.underlying t = some (.slice e)) (he : P.underlying e = some (.int k)) (hc : P.cellsOf e = 1) (hB : P.bytesOf e = bytes)
    (hv : Value.okWide P W .any b0 t v) (h : DataW.Trod enc P W 0 (fun _ => true) true t v d ps)
    (hsz : (DataW.weightsEach P ts ds).all (· ≤ reachBytes) = true) (ht : ts[j]? = some t) (hd : ds[j]? = some d) :
    ∃ A n c xs, v = .slice A n c ∧ IsInts k bytes W A n c xs := by
  obtain ⟨A, n, c, rfl⟩ := okWide_slice hu hv
  obtain ⟨fuel, hf⟩ := h
  rcases open_ints hu he hc hf with ⟨hcs, _⟩ | ⟨x, l, c', zs, hcs, _, hl, hm, hz, hx, hcell, hwz⟩
  · simp [Value.cells] at hcs
    obtain ⟨rfl, rfl, rfl⟩ := hcs
    exact ⟨_, _, _, [], rfl, ⟨Reads.none_, rfl, by simp, Nat.le_refl _, by simp [maxLen], by simp⟩⟩
  · simp [Value.cells] at hcs
    obtain ⟨rfl, rfl, rfl⟩ := hcs
    simp only [if_true] at hz
    obtain ⟨hx, _⟩ := Prod.mk.inj hx
    subst hx
    have z := sized_slice hsz ht hd hu
    rw [hB] at z
    have h1 : (lits (H := H) k (zs.take n)).length + (lits (H := H) k (zs.drop n)).length = zs.length := by simp [lits]; omega
    rw [h1] at z
    refine ⟨_, _, _, zs.take n, rfl, ⟨⟨by simp; omega, fun hn => ⟨x, rfl, by have := lt_of_cell (hcell 0 (by omega)); rwa [block_of_add] at this, fun j u hu => ?_⟩⟩, by simp; omega, fun x hx => hwz x (List.mem_of_mem_take hx), hl, hm, by have := Nat.mul_le_mul_right bytes (show n ≤ zs.length by omega); unfold reachBytes at z; omega⟩⟩
    rw [List.getElem?_map, List.getElem?_take] at hu
    split at hu
    · have hj : j < zs.length := by omega
      rw [List.getElem?_eq_getElem hj] at hu
      have := hcell j hj
      simp at hu this
      rw [← hu]
      simpa [hj] using this
    · simp at hu

theorem opened_int {t : TypeId} {k : IntKind} {v : Value} {d : DataW H} {ps : List MemPlace} (hu : P.underlying t = some (.int k))
    (hv : Value.okWide P W .any b0 t v) (h : DataW.Trod enc P W 0 (fun _ => true) true t v d ps) : ∃ a : Int, v = .int k a ∧ (Lit.int k a).wf = true := by
  obtain ⟨a, rfl, _, _, w⟩ := open_int hu hv h
  exact ⟨a, rfl, w⟩
theorem opened_bool {t : TypeId} {v : Value} {d : DataW H} {ps : List MemPlace} (hu : P.underlying t = some .bool)
    (hv : Value.okWide P W .any b0 t v) (h : DataW.Trod enc P W 0 (fun _ => true) true t v d ps) : ∃ a : Bool, v = .bool a := by
  obtain ⟨a, rfl, _, _⟩ := open_bool hu hv h
  exact ⟨a, rfl⟩
theorem opened_str {t : TypeId} {v : Value} {d : DataW H} {ps : List MemPlace} {ts : List TypeId} {ds : List (DataW H)} {j : Nat} (hu : P.underlying t = some .string)
    (hv : Value.okWide P W .any b0 t v) (h : DataW.Trod enc P W 0 (fun _ => true) true t v d ps)
    (hsz : (DataW.weightsEach P ts ds).all (· ≤ reachBytes) = true) (ht : ts[j]? = some t) (hd : ds[j]? = some d) : ∃ s : ByteArray, v = .string s ∧ s.size ≤ 140737488351232 := by
  obtain ⟨a, rfl, rfl, _, y⟩ := Go.ChangeMaps.open_string hu hv h
  refine ⟨a, rfl, ?_⟩
  have z := sized_string hsz ht hd
  rw [Array.length_toList] at z
  exact z
end
end Go.Proofs.Ytenflnlcoljieaa
